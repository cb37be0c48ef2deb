/- PureE, PureF, PureG, PureH in one text. -/
import Derived.Test.YteipclnlfanfeaaBaseG
set_option linter.unusedVariables false
set_option linter.unusedSimpArgs false
/- move: what is taken, as lists of pages; a picture is right just where it is opened; no code here. -/
namespace Go.Proofs.Yteipclnlfanfeaa

/-- the pages from a on -/
def rng (a m : Int) : List Int := (List.range m.toNat).map fun (i : Nat) => a + (i : Int)
theorem mem_rng {a m x : Int} : x ∈ rng a m ↔ a ≤ x ∧ x < a + m := by
  unfold rng
  rw [List.mem_map]
  constructor
  · rintro ⟨i, hi, rfl⟩
    have := List.mem_range.1 hi; omega
  · intro h
    exact ⟨(x - a).toNat, List.mem_range.2 (by omega), by omega⟩
theorem nodup_rng (a m : Int) : (rng a m).Nodup := by
  unfold rng
  rw [List.nodup_iff_pairwise_ne, List.pairwise_map]
  exact List.Pairwise.imp (fun h => by omega) (List.pairwise_lt_range (n := m.toNat))

/-- the list tk says which of the first n pages are of L -/
def Rep (tk : List Bool) (L : List Int) (n : Nat) : Prop := tk.length = n ∧ ∀ i : Nat, i < n → tk[i]? = some (decide ((i : Int) ∈ L))
theorem Rep.ext {tk tk' : List Bool} {L L' : List Int} {n : Nat} (h : Rep tk L n) (h' : Rep tk' L' n) (hL : ∀ x, x ∈ L ↔ x ∈ L') : tk = tk' := by
  apply List.ext_getElem?
  intro i
  by_cases hi : i < n
  · rw [h.2 i hi, h'.2 i hi]; simp only [hL]
  · rw [List.getElem?_eq_none (by have := h.1; omega), List.getElem?_eq_none (by have := h'.1; omega)]
theorem Rep.congr {tk : List Bool} {L L' : List Int} {n : Nat} (h : Rep tk L n) (hL : ∀ x, x ∈ L ↔ x ∈ L') : Rep tk L' n :=
  ⟨h.1, fun i hi => by rw [h.2 i hi]; simp only [hL]⟩
theorem rep_empty (n : Nat) : Rep (List.replicate n false) [] n :=
  ⟨by simp, fun i hi => by simp [hi]⟩

theorem takeL_true {tk : List Bool} {L : List Int} {n : Nat} (h : Rep tk L n) (a : Nat) : ∀ m : Nat, a + m ≤ n →
    (∃ t, takeL tk a true m = some t ∧ Rep t (L ++ rng a m) n ∧ ∀ x ∈ rng a m, x ∉ L) ∨ (takeL tk a true m = none ∧ ∃ x ∈ rng a m, x ∈ L) := by
  intro m
  induction m with
  | zero => intro _; exact .inl ⟨tk, rfl, h.congr (fun x => by simp [rng]), fun x hx => by simp [rng] at hx⟩
  | succ m ih =>
    intro hm
    rcases ih (by omega) with ⟨t, h1, h2, h3⟩ | ⟨h1, x, hx, hxL⟩
    · have hget := h2.2 (a + m) (by omega)
      have hnr : ((a + m : Nat) : Int) ∉ rng a m := fun hc => by have := mem_rng.1 hc; omega
      by_cases hL : ((a + m : Nat) : Int) ∈ L
      · right
        refine ⟨?_, _, mem_rng.2 ⟨by omega, by omega⟩, hL⟩
        simp only [takeL, h1]
        rw [if_neg]
        have hd : decide (((a + m : Nat) : Int) ∈ L ++ rng a m) = true := by simp only [List.mem_append, hL, true_or, decide_true]
        rw [hget, hd]
        decide
      · left
        refine ⟨t.set (a + m) true, ?_, ?_, ?_⟩
        · simp only [takeL, h1]
          rw [if_pos]
          rw [hget]
          simp only [List.mem_append, hL, hnr]; rfl
        · refine ⟨by simp [h2.1], fun i hi => ?_⟩
          rw [List.getElem?_set]
          by_cases e : a + m = i
          · subst e
            rw [if_pos rfl, if_pos (by rw [h2.1]; exact hi)]
            congr 1
            symm
            simp only [decide_eq_true_eq, List.mem_append]
            exact .inr (mem_rng.2 ⟨by omega, by omega⟩)
          · rw [if_neg e, h2.2 i hi]
            congr 1
            simp only [List.mem_append, mem_rng, decide_eq_decide]
            constructor
            · rintro (h | h)
              · exact .inl h
              · exact .inr (by omega)
            · rintro (h | h)
              · exact .inl h
              · exact .inr (by omega)
        · intro x hx hxL
          have hx := mem_rng.1 hx
          by_cases e : x = ((a + m : Nat) : Int)
          · subst e; exact hL hxL
          · exact h3 x (mem_rng.2 (by omega)) hxL
    · right
      refine ⟨by simp only [takeL, h1], x, ?_, hxL⟩
      have := mem_rng.1 hx
      exact mem_rng.2 (by omega)

theorem takeL_false {tk : List Bool} {L : List Int} {n : Nat} (h : Rep tk L n) (a : Nat) : ∀ m : Nat, a + m ≤ n → (∀ x ∈ rng a m, x ∈ L) →
    ∃ t, takeL tk a false m = some t ∧ Rep t (L.filter fun x => decide (x ∉ rng a m)) n := by
  intro m
  induction m with
  | zero => intro _ _; exact ⟨tk, rfl, h.congr (fun x => by simp [rng])⟩
  | succ m ih =>
    intro hm hall
    obtain ⟨t, h1, h2⟩ := ih (by omega) (fun x hx => hall x (by have := mem_rng.1 hx; exact mem_rng.2 (by omega)))
    have hL : ((a + m : Nat) : Int) ∈ L := hall _ (mem_rng.2 ⟨by omega, by omega⟩)
    have hnr : ((a + m : Nat) : Int) ∉ rng a m := fun hc => by have := mem_rng.1 hc; omega
    have hget := h2.2 (a + m) (by omega)
    refine ⟨t.set (a + m) false, ?_, by simp [h2.1], fun i hi => ?_⟩
    · simp only [takeL, h1]
      rw [if_pos]
      rw [hget]
      simp only [List.mem_filter, hL, hnr]; rfl
    · rw [List.getElem?_set]
      by_cases e : a + m = i
      · subst e
        rw [if_pos rfl, if_pos (by rw [h2.1]; exact hi)]
        congr 1
        symm
        simp only [decide_eq_false_iff_not, List.mem_filter, not_and, decide_eq_true_eq, Decidable.not_not]
        intro _
        exact mem_rng.2 ⟨by omega, by omega⟩
      · rw [if_neg e, h2.2 i hi]
        congr 1
        simp only [List.mem_filter, mem_rng, decide_eq_decide, decide_eq_true_eq]
        constructor
        · rintro ⟨h, h'⟩; exact ⟨h, by omega⟩
        · rintro ⟨h, h'⟩; exact ⟨h, by omega⟩

/-- the pages of extents, runs, files -/
def xpages (l : List Ext) : List Int := l.flatMap fun x => rng x.page x.many
def rpages (l : List Run) : List Int := l.flatMap fun r => if r.to = -1 then [] else rng r.to r.many
def fpages (l : List Fil) : List Int := l.flatMap fun f => rpages f.runs

def FixOk (size : Int) : Int → List Ext → Prop
  | _, [] => True
  | last, x :: l => fixOk size last x ∧ FixOk size (x.page + x.many) l
def RunsOk (size : Int) (l : List Run) : Prop := ∀ r ∈ l, r.to = -1 ∨ (3 ≤ r.to ∧ r.to ≤ size - r.many)
def FilOk (size : Int) : Int → List Fil → Prop
  | _, [] => True
  | no, f :: l => filOk no f ∧ RunsOk size f.runs ∧ FilOk size f.no l

theorem nodup_add {L q : List Int} (hL : L.Nodup) (hq : q.Nodup) (h : ∀ x ∈ q, x ∉ L) : (L ++ q).Nodup :=
  List.nodup_append.2 ⟨hL, hq, fun a ha b hb e => h b hb (e ▸ ha)⟩

theorem fix_rep {size : Int} {n : Nat} (hn : size = n) (l : List Ext) : ∀ (last : Int) (tk : List Bool) (L : List Int), 0 ≤ last → Rep tk L n → L.Nodup →
    (∃ t, fixL size l last tk = some t ∧ Rep t (L ++ xpages l) n ∧ (L ++ xpages l).Nodup ∧ FixOk size last l) ∨ (fixL size l last tk = none ∧ ¬ (FixOk size last l ∧ (L ++ xpages l).Nodup)) := by
  induction l with
  | nil => intro last tk L _ h hL; exact .inl ⟨tk, rfl, by simpa [xpages] using h, by simpa [xpages] using hL, trivial⟩
  | cons x l ih =>
    intro last tk L h0 h hL
    have ex : xpages (x :: l) = rng x.page x.many ++ xpages l := rfl
    simp only [fixL]
    by_cases hx : last ≤ x.page ∧ x.page < size ∧ 1 ≤ x.many ∧ x.many ≤ size - x.page
    · rw [if_pos hx]
      obtain ⟨a, ha⟩ := Int.eq_ofNat_of_zero_le (show 0 ≤ x.page by omega)
      obtain ⟨m, hm⟩ := Int.eq_ofNat_of_zero_le (show 0 ≤ x.many by omega)
      rcases takeL_true h a m (by omega) with ⟨t, h1, h2, h3⟩ | ⟨h1, y, hy, hyL⟩
      · rw [← ha, ← hm] at h2 h3
        rw [show x.page.toNat = a by omega, show x.many.toNat = m by omega, h1]
        dsimp only
        rcases ih (x.page + x.many) t (L ++ rng x.page x.many) (by omega) h2 (nodup_add hL (nodup_rng _ _) h3) with ⟨t2, e1, e2, e3, e4⟩ | ⟨e1, e2⟩
        · exact .inl ⟨t2, e1, by rw [ex, ← List.append_assoc]; exact e2, by rw [ex, ← List.append_assoc]; exact e3, hx, e4⟩
        · exact .inr ⟨e1, fun hc => e2 ⟨hc.1.2, by rw [List.append_assoc, ← ex]; exact hc.2⟩⟩
      · rw [← ha, ← hm] at hy
        rw [show x.page.toNat = a by omega, show x.many.toNat = m by omega, h1]
        refine .inr ⟨rfl, fun hc => ?_⟩
        have := (List.nodup_append.1 hc.2).2.2 y hyL y (by rw [ex]; exact List.mem_append_left _ hy)
        exact this rfl
    · rw [if_neg hx]
      exact .inr ⟨rfl, fun hc => hx hc.1.1⟩

theorem runs_rep {size : Int} {n : Nat} (hn : size = n) (l : List Run) : ∀ (tk : List Bool) (L : List Int), (∀ r ∈ l, 0 ≤ r.many) → Rep tk L n → L.Nodup →
    (∃ t, runsL size l tk = some t ∧ Rep t (L ++ rpages l) n ∧ (L ++ rpages l).Nodup ∧ RunsOk size l) ∨ (runsL size l tk = none ∧ ¬ (RunsOk size l ∧ (L ++ rpages l).Nodup)) := by
  induction l with
  | nil => intro tk L _ h hL; exact .inl ⟨tk, rfl, by simpa [rpages] using h, by simpa [rpages] using hL, fun r hr => by simp at hr⟩
  | cons x l ih =>
    intro tk L hp h hL
    simp only [runsL]
    by_cases hh : x.to = -1
    · have ex : rpages (x :: l) = rpages l := by simp [rpages, hh]
      rw [if_pos hh]
      rcases ih tk L (fun r hr => hp r (by simp [hr])) h hL with ⟨t2, e1, e2, e3, e4⟩ | ⟨e1, e2⟩
      · refine .inl ⟨t2, e1, by rw [ex]; exact e2, by rw [ex]; exact e3, fun r hr => ?_⟩
        rcases List.mem_cons.1 hr with rfl | hr
        · exact .inl hh
        · exact e4 r hr
      · exact .inr ⟨e1, fun hc => e2 ⟨fun r hr => hc.1 r (by simp [hr]), by rw [← ex]; exact hc.2⟩⟩
    · have ex : rpages (x :: l) = rng x.to x.many ++ rpages l := by simp [rpages, hh]
      rw [if_neg hh]
      by_cases hx : 3 ≤ x.to ∧ x.to ≤ size - x.many
      · rw [if_pos hx]
        have hxm := hp x (by simp)
        obtain ⟨a, ha⟩ := Int.eq_ofNat_of_zero_le (show 0 ≤ x.to by omega)
        obtain ⟨m, hm⟩ := Int.eq_ofNat_of_zero_le hxm
        rcases takeL_true h a m (by omega) with ⟨t, h1, h2, h3⟩ | ⟨h1, y, hy, hyL⟩
        · rw [← ha, ← hm] at h2 h3
          rw [show x.to.toNat = a by omega, show x.many.toNat = m by omega, h1]
          dsimp only
          rcases ih t (L ++ rng x.to x.many) (fun r hr => hp r (by simp [hr])) h2 (nodup_add hL (nodup_rng _ _) h3) with ⟨t2, e1, e2, e3, e4⟩ | ⟨e1, e2⟩
          · refine .inl ⟨t2, e1, by rw [ex, ← List.append_assoc]; exact e2, by rw [ex, ← List.append_assoc]; exact e3, fun r hr => ?_⟩
            rcases List.mem_cons.1 hr with rfl | hr
            · exact .inr hx
            · exact e4 r hr
          · exact .inr ⟨e1, fun hc => e2 ⟨fun r hr => hc.1 r (by simp [hr]), by rw [List.append_assoc, ← ex]; exact hc.2⟩⟩
        · rw [← ha, ← hm] at hy
          rw [show x.to.toNat = a by omega, show x.many.toNat = m by omega, h1]
          refine .inr ⟨rfl, fun hc => ?_⟩
          have := (List.nodup_append.1 hc.2).2.2 y hyL y (by rw [ex]; exact List.mem_append_left _ hy)
          exact this rfl
      · rw [if_neg hx]
        refine .inr ⟨rfl, fun hc => ?_⟩
        rcases hc.1 x (by simp) with h | h
        · exact hh h
        · exact hx h

theorem fil_rep {size : Int} {n : Nat} (hn : size = n) (l : List Fil) : ∀ (no : Int) (tk : List Bool) (L : List Int), Rep tk L n → L.Nodup →
    (∃ t, filL size l no tk = some t ∧ Rep t (L ++ fpages l) n ∧ (L ++ fpages l).Nodup ∧ FilOk size no l) ∨ (filL size l no tk = none ∧ ¬ (FilOk size no l ∧ (L ++ fpages l).Nodup)) := by
  induction l with
  | nil => intro no tk L h hL; exact .inl ⟨tk, rfl, by simpa [fpages] using h, by simpa [fpages] using hL, trivial⟩
  | cons f l ih =>
    intro no tk L h hL
    have ex : fpages (f :: l) = rpages f.runs ++ fpages l := rfl
    simp only [filL]
    by_cases hf : no < f.no ∧ f.no ≤ 1073741824 ∧ mustE f.runs = 0 ∧ normL f.runs = f.runs
    · rw [if_pos hf]
      rcases runs_rep hn f.runs tk L (fun r hr => (ok0_of_must hf.2.2.1 r hr).2) h hL with ⟨t, h1, h2, h3, h4⟩ | ⟨h1, h2⟩
      · rw [h1]
        dsimp only
        rcases ih f.no t (L ++ rpages f.runs) h2 h3 with ⟨t2, e1, e2, e3, e4⟩ | ⟨e1, e2⟩
        · exact .inl ⟨t2, e1, by rw [ex, ← List.append_assoc]; exact e2, by rw [ex, ← List.append_assoc]; exact e3, hf, h4, e4⟩
        · exact .inr ⟨e1, fun hc => e2 ⟨hc.1.2.2, by rw [List.append_assoc, ← ex]; exact hc.2⟩⟩
      · rw [h1]
        refine .inr ⟨rfl, fun hc => h2 ⟨hc.1.2.1, ?_⟩⟩
        have := hc.2
        rw [ex, ← List.append_assoc] at this
        exact (List.nodup_append.1 this).1
    · rw [if_neg hf]
      exact .inr ⟨rfl, fun hc => hf hc.1.1⟩

/-- a right picture -/
structure OpenOk (p : Pic) : Prop where
  size : 4 ≤ p.size ∧ p.size ≤ 768
  nfix : p.fixed.length ≤ 200
  nfil : p.files.length ≤ 200
  fix : FixOk p.size 0 p.fixed
  first : (0 : Int) ∈ xpages p.fixed ∧ (1 : Int) ∈ xpages p.fixed ∧ (2 : Int) ∈ xpages p.fixed
  fil : FilOk p.size (-1) p.files
  nodup : (xpages p.fixed ++ fpages p.files).Nodup

theorem open_ok {p : Pic} (h : OpenOk p) : ∃ tk, openL p = some ⟨p, tk, []⟩ ∧ Rep tk (xpages p.fixed ++ fpages p.files) p.size.toNat := by
  have hs := h.size
  have hn : p.size = (p.size.toNat : Int) := by omega
  rcases fix_rep hn p.fixed 0 (List.replicate p.size.toNat false) [] (Int.le_refl _) (rep_empty _) List.nodup_nil with ⟨t, e1, e2, e3, -⟩ | ⟨e1, e2⟩
  rotate_left
  · exact absurd ⟨h.fix, by simpa using (List.nodup_append.1 h.nodup).1⟩ e2
  rw [List.nil_append] at e2 e3
  have hf : ∀ k : Nat, k < 3 → (k : Int) ∈ xpages p.fixed → t[k]? = some true := fun k hk hm => by
    rw [e2.2 k (by omega)]; simp [hm]
  rcases fil_rep hn p.files (-1) t (xpages p.fixed) e2 e3 with ⟨t2, g1, g2, g3, -⟩ | ⟨g1, g2⟩
  · refine ⟨t2, ?_, g2⟩
    unfold openL
    rw [if_pos ⟨hs.1, hs.2, h.nfix, h.nfil⟩, e1]
    dsimp only
    rw [if_pos ⟨hf 0 (by omega) h.first.1, hf 1 (by omega) h.first.2.1, hf 2 (by omega) h.first.2.2⟩, g1]
  · exact absurd ⟨h.fil, h.nodup⟩ g2
theorem ok_of_open {p : Pic} {s : Spc} (h : openL p = some s) : OpenOk p := by
  unfold openL at h
  split at h
  · rename_i hb
    have hn : p.size = (p.size.toNat : Int) := by omega
    rcases fix_rep hn p.fixed 0 (List.replicate p.size.toNat false) [] (Int.le_refl _) (rep_empty _) List.nodup_nil with ⟨t, e1, e2, e3, e4⟩ | ⟨e1, e2⟩
    rotate_left
    · rw [e1] at h; cases h
    rw [List.nil_append] at e2 e3
    rw [e1] at h
    dsimp only at h
    split at h
    · rename_i h3
      rcases fil_rep hn p.files (-1) t (xpages p.fixed) e2 e3 with ⟨t2, g1, g2, g3, g4⟩ | ⟨g1, g2⟩
      · have hf : ∀ k : Nat, k < 3 → t[k]? = some true → (k : Int) ∈ xpages p.fixed := fun k hk hm => by
          rw [e2.2 k (by omega)] at hm; simpa using hm
        exact ⟨⟨hb.1, hb.2.1⟩, hb.2.2.1, hb.2.2.2, e4, ⟨hf 0 (by omega) h3.1, hf 1 (by omega) h3.2.1, hf 2 (by omega) h3.2.2⟩, g4, g3⟩
      · rw [g1] at h; cases h
    · cases h
  · cases h
theorem open_bad {p : Pic} (h : ¬ OpenOk p) : openL p = none := by
  cases hp : openL p with
  | none => rfl
  | some s => exact absurd (ok_of_open hp) h
/-- an open space: the picture is right, and what is taken is what has an owner -/
theorem open_rep {p : Pic} {s : Spc} (h : openL p = some s) : OpenOk p ∧ s.pic = p ∧ s.steps = [] ∧ Rep s.tk (xpages p.fixed ++ fpages p.files) p.size.toNat := by
  have hk := ok_of_open h
  obtain ⟨tk, e1, e2⟩ := open_ok hk
  rw [h] at e1
  cases e1
  exact ⟨hk, rfl, rfl, e2⟩
end Go.Proofs.Yteipclnlfanfeaa

/- move: a step on a right space: when it can be made, and that the space stays right; no code here. -/
namespace Go.Proofs.Yteipclnlfanfeaa

/-- a right space -/
structure Inv (s : Spc) : Prop where
  ok : OpenOk s.pic
  rep : Rep s.tk (xpages s.pic.fixed ++ fpages s.pic.files) s.pic.size.toNat

theorem inv_open {p : Pic} {s : Spc} (h : openL p = some s) : Inv s ∧ s.pic = p ∧ s.steps = [] := by
  obtain ⟨h1, rfl, h3, h4⟩ := open_rep h
  exact ⟨⟨h1, h4⟩, rfl, h3⟩
/-- what is right is opened -/
theorem open_inv {s : Spc} (h : Inv s) : openL s.pic = some ⟨s.pic, s.tk, []⟩ := by
  obtain ⟨tk, e1, e2⟩ := open_ok h.ok
  rw [e1, e2.ext h.rep (fun x => Iff.rfl)]

theorem filOk_iff {size no : Int} {l : List Fil} : FilOk size no l ↔ Rising no l ∧ ∀ f ∈ l, mustE f.runs = 0 ∧ normL f.runs = f.runs ∧ RunsOk size f.runs := by
  induction l generalizing no with
  | nil => simp [FilOk, Rising]
  | cons f l ih =>
    simp only [FilOk, Rising, List.mem_cons, ih, filOk]
    constructor
    · rintro ⟨⟨a, b, c, d⟩, e, g, h⟩
      refine ⟨⟨a, b, g⟩, fun y hy => ?_⟩
      rcases hy with rfl | hy
      · exact ⟨c, d, e⟩
      · exact h y hy
    · rintro ⟨⟨a, b, g⟩, h⟩
      obtain ⟨c, d, e⟩ := h f (.inl rfl)
      exact ⟨⟨a, b, c, d⟩, e, g, fun y hy => h y (.inr hy)⟩
theorem rising_congr {no : Int} {l l' : List Fil} (h : l.map Fil.no = l'.map Fil.no) (hr : Rising no l) : Rising no l' := by
  induction l generalizing no l' with
  | nil => cases l' with
    | nil => trivial
    | cons _ _ => simp at h
  | cons f l ih =>
    cases l' with
    | nil => simp at h
    | cons f' l' =>
      simp only [List.map_cons, List.cons.injEq] at h
      simp only [Rising] at hr ⊢
      rw [← h.1]
      exact ⟨hr.1, hr.2.1, ih h.2 hr.2.2⟩
theorem rising_lt {no : Int} {l : List Fil} (hr : Rising no l) : ∀ (i : Nat) (h : i < l.length), no < l[i].no ∧ ∀ (j : Nat) (hj : j < l.length), i < j → l[i].no < l[j].no := by
  induction l generalizing no with
  | nil => intro i h; simp at h
  | cons f l ih =>
    intro i h
    obtain ⟨h1, h2, h3⟩ := hr
    cases i with
    | zero =>
      refine ⟨h1, fun j hj hij => ?_⟩
      cases j with
      | zero => omega
      | succ j => exact (ih h3 j (by simpa using hj)).1
    | succ i =>
      have := ih h3 i (by simpa using h)
      refine ⟨by simp only [List.getElem_cons_succ]; omega, fun j hj hij => ?_⟩
      cases j with
      | zero => omega
      | succ j => exact this.2 j (by simpa using hj) (by omega)
/-- in a right picture a file is known by its number -/
theorem fileI_of {no : Int} {l : List Fil} (hr : Rising no l) {k : Nat} (hk : k < l.length) : fileI l l[k].no = k :=
  fileI_at hk (fun j hj e => by have := (rising_lt hr j (by omega)).2 k hk hj; omega) rfl

theorem setRuns_eq {l : List Fil} {i : Nat} (h : i < l.length) (r : List Run) : setRuns l i r = l.take i ++ ⟨l[i].no, r⟩ :: l.drop (i + 1) := by
  unfold setRuns
  rw [List.getElem?_eq_getElem h]
  dsimp only
  rw [List.set_eq_take_append_cons_drop, if_pos h]
theorem list_split {l : List Fil} {i : Nat} (h : i < l.length) : l = l.take i ++ l[i] :: l.drop (i + 1) := by
  conv => lhs; rw [← List.take_append_drop i l]
  rw [List.drop_eq_getElem_cons h]
theorem setRuns_no {l : List Fil} {i : Nat} (h : i < l.length) (r : List Run) : (setRuns l i r).map Fil.no = l.map Fil.no := by
  rw [setRuns_eq h]
  conv => rhs; rw [list_split h]
  simp only [List.map_append, List.map_cons]
theorem fpages_split {l : List Fil} {i : Nat} (h : i < l.length) : fpages l = fpages (l.take i) ++ (rpages l[i].runs ++ fpages (l.drop (i + 1))) := by
  conv => lhs; rw [list_split h]
  simp only [fpages, List.flatMap_append, List.flatMap_cons]
theorem fpages_set {l : List Fil} {i : Nat} (h : i < l.length) (r : List Run) : fpages (setRuns l i r) = fpages (l.take i) ++ (rpages r ++ fpages (l.drop (i + 1))) := by
  rw [setRuns_eq h]
  simp [fpages]

/-- the pages of runs are those of the stream that are none of a hole -/
theorem rpages_strm {l : List Run} (h : Ok0 l) : rpages l = (strm l).filter fun x => decide (x ≠ -1) := by
  induction l with
  | nil => rfl
  | cons r l ih =>
    have hr := h r (by simp)
    have ih := ih (fun x hx => h x (by simp [hx]))
    have e : rpages (r :: l) = (if r.to = -1 then [] else rng r.to r.many) ++ rpages l := rfl
    rw [e, strm_cons, List.filter_append, ih]
    congr 1
    by_cases ht : r.to = -1
    · rw [if_pos ht]
      symm
      rw [List.filter_eq_nil_iff]
      intro x hx
      obtain ⟨i, _, rfl⟩ := List.mem_map.1 hx
      simp [ht]
    · rw [if_neg ht]
      symm
      have : strR r = rng r.to r.many := by
        unfold strR rng
        apply List.map_congr_left
        intro i _
        rw [if_neg ht]
      rw [this, List.filter_eq_self]
      intro x hx
      have := mem_rng.1 hx
      simp; omega
theorem strR_rng {t m : Int} (ht : t ≠ -1) : strR ⟨t, m⟩ = rng t m := by
  unfold strR rng
  apply List.map_congr_left
  intro i _
  rw [if_neg ht]
theorem rng_filter {t m : Int} (ht : 0 ≤ t) : (rng t m).filter (fun x => decide (x ≠ -1)) = rng t m := by
  rw [List.filter_eq_self]
  intro x hx
  have := mem_rng.1 hx
  simp; omega

/-- the middle of a stream, by a place -/
theorem strm_mid {s : List Int} {page f m many : Int} (h : MapS s page f m) (h0 : 0 ≤ page) (hf : f ≠ -1) (h1 : 1 ≤ many) (h2 : many ≤ m) :
    s = s.take page.toNat ++ (rng f many ++ s.drop (page + many).toNat) := by
  have e : (s.drop page.toNat).take many.toNat = rng f many := by
    apply List.ext_getElem?
    intro i
    rw [List.getElem?_take]
    have hl : (rng f many).length = many.toNat := by simp [rng]
    by_cases hi : i < many.toNat
    · rw [if_pos hi, List.getElem?_drop, h.row i (by omega), if_neg hf]
      unfold rng
      rw [List.getElem?_map, List.getElem?_range hi]; rfl
    · rw [if_neg hi, List.getElem?_eq_none (by omega)]
  conv => lhs; rw [← List.take_append_drop page.toNat s, ← List.take_append_drop many.toNat (s.drop page.toNat), e, List.drop_drop]
  rw [show page.toNat + many.toNat = (page + many).toNat by omega]

theorem nodup_length : ∀ (n : Nat) (L : List Int), L.Nodup → (∀ x ∈ L, 0 ≤ x ∧ x < n) → L.length ≤ n := by
  intro n
  induction n with
  | zero =>
    intro L _ h
    cases L with
    | nil => simp
    | cons x L => have := h x (by simp); omega
  | succ n ih =>
    intro L hL h
    by_cases hm : (n : Int) ∈ L
    · have h1 := ih (L.erase n) (hL.erase _) (fun x hx => by
        have := (hL.mem_erase_iff).1 hx
        have := h x this.2
        omega)
      rw [List.length_erase_of_mem hm] at h1
      omega
    · have := ih L hL (fun x hx => by
        have := h x hx
        have : x ≠ n := fun e => hm (e ▸ hx)
        omega)
      omega

def holes (l : List Run) : Nat := (l.filter fun r => decide (r.to = -1)).length
def spans (l : List Run) : Nat := (l.filter fun r => decide (r.to ≠ -1)).length
theorem holes_cons (r : Run) (l : List Run) : holes (r :: l) = (if r.to = -1 then 1 else 0) + holes l := by
  unfold holes; by_cases h : r.to = -1 <;> simp [h]; omega
theorem spans_cons (r : Run) (l : List Run) : spans (r :: l) = (if r.to = -1 then 0 else 1) + spans l := by
  unfold spans; by_cases h : r.to = -1 <;> simp [h]; omega
theorem holes_spans (l : List Run) : l.length = holes l + spans l := by
  induction l with
  | nil => rfl
  | cons r l ih =>
    rw [holes_cons, spans_cons, List.length_cons, ih]
    split <;> omega
theorem adj_tail {r : Run} {l : List Run} (h : Adj (r :: l)) : Adj l := fun i x y hx hy => h (i + 1) x y (by simpa using hx) (by simpa using hy)
theorem adj_holes {l : List Run} (h : Adj l) : holes l ≤ spans l + 1 ∧ (∀ r, l[0]? = some r → r.to ≠ -1 → holes l ≤ spans l) := by
  induction l with
  | nil => simp [holes]
  | cons r l ih =>
    obtain ⟨h1, h2⟩ := ih (adj_tail h)
    rw [holes_cons, spans_cons]
    by_cases hr : r.to = -1
    · simp only [if_pos hr]
      refine ⟨?_, fun x hx hn => by simp at hx; subst hx; exact absurd hr hn⟩
      cases hl : l[0]? with
      | none =>
        have : l = [] := by cases l with
          | nil => rfl
          | cons a b => simp at hl
        subst this; simp [holes]
      | some y =>
        have hj := h 0 r y (by simp) (by simpa using hl)
        have : y.to ≠ -1 := fun e => by simp [joinsB, hr, e] at hj
        have := h2 y hl this
        omega
    · simp only [if_neg hr]
      exact ⟨by omega, fun _ _ _ => by omega⟩
theorem spans_pages {l : List Run} (h : ∀ r ∈ l, 1 ≤ r.many) : spans l ≤ (rpages l).length := by
  induction l with
  | nil => simp [spans]
  | cons r l ih =>
    have h1 := h r (by simp)
    have ih := ih (fun x hx => h x (by simp [hx]))
    rw [spans_cons]
    have e : (rpages (r :: l)).length = (if r.to = -1 then [] else rng r.to r.many).length + (rpages l).length := by
      rw [show rpages (r :: l) = (if r.to = -1 then [] else rng r.to r.many) ++ rpages l from rfl, List.length_append]
    rw [e]
    split
    · simp; omega
    · simp [rng]; omega
theorem norm_length {l : List Run} (ho : Ok0 l) (hn : normL l = l) : l.length ≤ 2 * (rpages l).length + 1 := by
  have h1 := holes_spans l
  have h2 := (adj_holes (hn ▸ adj_normL l : Adj l)).1
  have h3 := spans_pages (l := l) (fun r hr => pos_normL ho r (by rw [hn]; exact hr))
  omega
end Go.Proofs.Yteipclnlfanfeaa

/- move: a step on a right space; no code here. -/
namespace Go.Proofs.Yteipclnlfanfeaa

theorem freeB_iff {tk : List Bool} {L : List Int} {n : Nat} (h : Rep tk L n) {a m : Nat} (hm : a + m ≤ n) : freeB tk a m = true ↔ ∀ x ∈ rng a m, x ∉ L := by
  unfold freeB
  rw [List.all_eq_true]
  constructor
  · intro hh x hx hL
    have hx' := mem_rng.1 hx
    have := hh (x - a).toNat (List.mem_range.2 (by omega))
    rw [h.2 _ (by omega)] at this
    rw [show ((a + (x - a).toNat : Nat) : Int) = x by omega] at this
    simp [hL] at this
  · intro hh i hi
    have := List.mem_range.1 hi
    rw [h.2 _ (by omega)]
    have hn := hh ((a + i : Nat) : Int) (mem_rng.2 ⟨by omega, by omega⟩)
    simp only [hn]; rfl

theorem mem_xpages_bd {size last : Int} {l : List Ext} (h0 : 0 ≤ last) (h : FixOk size last l) : ∀ x ∈ xpages l, last ≤ x ∧ x < size := by
  induction l generalizing last with
  | nil => intro x hx; simp [xpages] at hx
  | cons y l ih =>
    intro x hx
    obtain ⟨h1, h2⟩ := h
    rw [show xpages (y :: l) = rng y.page y.many ++ xpages l from rfl] at hx
    rcases List.mem_append.1 hx with hx | hx
    · have := mem_rng.1 hx; omega
    · have := ih (by omega) h2 x hx; omega
theorem mem_rpages_bd {size : Int} {l : List Run} (h : RunsOk size l) : ∀ x ∈ rpages l, 3 ≤ x ∧ x < size := by
  intro x hx
  obtain ⟨r, hr, hx⟩ := List.mem_flatMap.1 hx
  rcases h r hr with h1 | h1
  · rw [if_pos h1] at hx; simp at hx
  · rw [if_neg (by omega)] at hx
    have := mem_rng.1 hx; omega
theorem mem_fpages_bd {size no : Int} {l : List Fil} (h : FilOk size no l) : ∀ x ∈ fpages l, 3 ≤ x ∧ x < size := by
  intro x hx
  obtain ⟨f, hf, hx⟩ := List.mem_flatMap.1 hx
  exact mem_rpages_bd ((filOk_iff.1 h).2 f hf).2.2 x hx

theorem mem_mid {P A R B Q : List Int} {x : Int} : x ∈ P ++ (A ++ (R ++ B) ++ Q) ↔ x ∈ R ++ (P ++ (A ++ B) ++ Q) := by
  simp only [List.mem_append]
  constructor
  · rintro (h | (h | h | h) | h) <;> simp [h]
  · rintro (h | (h | h | h) | h) <;> simp [h]
theorem perm_mid (P A R B Q : List Int) : (P ++ (A ++ (R ++ B) ++ Q)).Perm (R ++ (P ++ (A ++ B) ++ Q)) := by
  have h1 : (A ++ (R ++ B)).Perm (R ++ (A ++ B)) := by
    rw [← List.append_assoc, ← List.append_assoc]
    exact List.Perm.append_right _ List.perm_append_comm
  have h2 : (P ++ (A ++ (R ++ B) ++ Q)).Perm (P ++ (R ++ ((A ++ B) ++ Q))) := by
    refine List.Perm.append_left _ ?_
    rw [← List.append_assoc R]
    exact List.Perm.append_right _ h1
  refine h2.trans ?_
  have := List.Perm.append_right ((A ++ B) ++ Q) (List.perm_append_comm (l₁ := P) (l₂ := R))
  simpa only [List.append_assoc] using this

/-- all pages that are taken -/
def pg (p : Pic) : List Int := xpages p.fixed ++ fpages p.files

theorem apply_full {s : Spc} {x : Step} {f m : Int} (hi : Inv s) (h1 : 0 ≤ fileI s.pic.files x.no) (h2 : 1 ≤ x.many) (h3 : 0 ≤ x.from_) (h4 : mapL (stR s x) x.from_ = some (f, m)) (h5 : f ≠ -1) (h6 : x.many ≤ m) (h7 : 3 ≤ x.to)
    (h8 : x.to ≤ s.pic.size - x.many) (h9 : freeB s.tk x.to.toNat x.many.toNat = true) : ∃ s', applyL s x = .ok s' ∧ Inv s' ∧ s'.pic = ⟨s.pic.size, s.pic.fixed, setRuns s.pic.files (fileI s.pic.files x.no).toNat (stX s x)⟩ ∧
    (∀ q, q ∈ pg s'.pic ↔ q ∈ rng x.to x.many ∨ (q ∈ pg s.pic ∧ q ∉ rng f x.many)) ∧ (∀ q ∈ rng f x.many, q ∈ pg s.pic) ∧ (∀ q ∈ rng x.to x.many, q ∉ pg s.pic) ∧
    strm (stR s x) = (strm (stR s x)).take x.from_.toNat ++ (rng f x.many ++ (strm (stR s x)).drop (x.from_ + x.many).toNat) ∧ strm (stX s x) = (strm (stR s x)).take x.from_.toNat ++ (rng x.to x.many ++ (strm (stR s x)).drop (x.from_ + x.many).toNat) := by
  obtain ⟨hok, hrep⟩ := hi
  have hsz := hok.size
  have hk := fileI_lt h1
  obtain ⟨k, hkd⟩ : ∃ k, (fileI s.pic.files x.no).toNat = k := ⟨_, rfl⟩
  rw [hkd] at hk
  obtain ⟨hrise, hall⟩ := filOk_iff.1 hok.fil
  obtain ⟨hR, hmem⟩ := runsOf_mem hk
  have hRs : stR s x = s.pic.files[k].runs := by rw [stR, hkd, hR]
  obtain ⟨a1, a2, a3⟩ := hall _ hmem
  obtain ⟨R, hRd⟩ : ∃ R, s.pic.files[k].runs = R := ⟨_, rfl⟩
  rw [hRd] at hRs a1 a2 a3
  have hOR := ok0_of_must a1
  have hO1 : Ok0 [(⟨x.to, x.many⟩ : Run)] := fun r hr => by rw [List.mem_singleton.1 hr]; dsimp only; omega
  rw [hRs] at h4
  obtain ⟨hlt, hmap⟩ := mapL_some hOR h3 h4
  have hmid := strm_mid hmap h3 h5 h2 h6
  have hlenR := strm_length (fun r hr => (hOR r hr).2)
  -- the new runs
  obtain ⟨X, hX⟩ : ∃ X, putX R x.from_ [⟨x.to, x.many⟩] = X := ⟨_, rfl⟩
  have hstX : stX s x = X := by rw [stX, hRs, hX]
  have hOX : Ok0 X := hX ▸ ok0_putX hOR hO1 _
  have hnX : normL X = X := hX ▸ norm_putX hOR hO1 _
  have hsX : strm X = (strm R).take x.from_.toNat ++ (rng x.to x.many ++ (strm R).drop (x.from_ + x.many).toNat) := by
    rw [← hX, strm_putX hOR hO1]
    simp only [strm_cons, strm_nil, List.append_nil, pagesL, Int.add_zero]
    rw [strR_rng (by omega)]
  -- pages
  obtain ⟨A, hA⟩ : ∃ A, ((strm R).take x.from_.toNat).filter (fun x => decide (x ≠ -1)) = A := ⟨_, rfl⟩
  obtain ⟨B, hB⟩ : ∃ B, ((strm R).drop (x.from_ + x.many).toNat).filter (fun x => decide (x ≠ -1)) = B := ⟨_, rfl⟩
  have hfin : f ∈ rpages R := by
    rw [rpages_strm hOR, List.mem_filter]
    exact ⟨List.mem_of_getElem? hmap.at_, by simpa using h5⟩
  have hfb := mem_rpages_bd a3 f hfin
  have hpR : rpages R = A ++ (rng f x.many ++ B) := by
    rw [rpages_strm hOR]
    conv => lhs; rw [hmid]
    rw [List.filter_append, List.filter_append, hA, hB, rng_filter (by omega)]
  have hpX : rpages X = A ++ (rng x.to x.many ++ B) := by
    rw [rpages_strm hOX, hsX, List.filter_append, List.filter_append, hA, hB, rng_filter (by omega)]
  have hfb2 := mem_rpages_bd a3 (f + x.many - 1) (by rw [hpR]; exact List.mem_append_right _ (List.mem_append_left _ (mem_rng.2 (by omega))))
  obtain ⟨P, hP⟩ : ∃ P, xpages s.pic.fixed ++ fpages (s.pic.files.take k) = P := ⟨_, rfl⟩
  obtain ⟨Q, hQ⟩ : ∃ Q, fpages (s.pic.files.drop (k + 1)) = Q := ⟨_, rfl⟩
  have hL : xpages s.pic.fixed ++ fpages s.pic.files = P ++ (A ++ (rng f x.many ++ B) ++ Q) := by
    rw [fpages_split hk, hRd, hpR, hQ, ← hP]; simp only [List.append_assoc]
  have hL' : xpages s.pic.fixed ++ fpages (setRuns s.pic.files k X) = P ++ (A ++ (rng x.to x.many ++ B) ++ Q) := by
    rw [fpages_set hk, hpX, hQ, ← hP]; simp only [List.append_assoc]
  have hnd := hok.nodup
  rw [hL] at hnd hrep
  have hnd2 := (perm_mid P A (rng f x.many) B Q).nodup_iff.1 hnd
  obtain ⟨n1, n2, n3⟩ := List.nodup_append.1 hnd2
  -- free pages
  obtain ⟨ta, hta⟩ := Int.eq_ofNat_of_zero_le (show 0 ≤ x.to by omega)
  obtain ⟨ma, hma⟩ := Int.eq_ofNat_of_zero_le (show 0 ≤ x.many by omega)
  obtain ⟨fa, hfa⟩ := Int.eq_ofNat_of_zero_le (show 0 ≤ f by omega)
  have hfree : ∀ y ∈ rng x.to x.many, y ∉ P ++ (A ++ (rng f x.many ++ B) ++ Q) := by
    have := (freeB_iff hrep (a := ta) (m := ma) (by omega)).1 (by rw [hta, hma] at h9; simpa using h9)
    rw [hta, hma] at *
    exact this
  have hnd' : (P ++ (A ++ (rng x.to x.many ++ B) ++ Q)).Nodup := by
    refine (perm_mid P A (rng x.to x.many) B Q).nodup_iff.2 (List.nodup_append.2 ⟨nodup_rng _ _, n2, fun a ha b hb e => ?_⟩)
    subst e
    exact hfree a ha (mem_mid.2 (List.mem_append_right _ hb))
  -- the new picture
  have hpiX : PagesIn s.pic.size (strm X) := by
    rw [← hX]
    exact pagesIn_put hOR (pages_of_runs (fun r hr => by rcases a3 r hr with h | h; exact .inl h; exact .inr (by omega))) (by omega) h2
  have hROX : RunsOk s.pic.size X := fun r hr => by rcases runs_of_pages hOX hnX hpiX r hr with h | h; exact .inl h; exact .inr (by omega)
  have hrange : ∀ y ∈ rpages X, 0 ≤ y ∧ y < (s.pic.size.toNat : Int) := fun y hy => by have := mem_rpages_bd hROX y hy; omega
  have hndX : (rpages X).Nodup := by
    have h := hnd'
    rw [← hpX] at h
    exact (List.nodup_append.1 (List.nodup_append.1 h).2.1).1
  have hlenX := norm_length hOX hnX
  have hcount := nodup_length s.pic.size.toNat (rpages X) hndX hrange
  have hpagesX : pagesL X = pagesL R := by
    have e1 := strm_length (fun r hr => (hOX r hr).2)
    have e2 : (strm X).length = (strm R).length := by
      have hlm := congrArg List.length hmid
      rw [hsX]
      simp only [List.length_append, rng, List.length_map, List.length_range] at hlm ⊢
      omega
    omega
  have hfits : fitsB X := ⟨by omega, by have := (mustE_zero a1).2.2; omega⟩
  have hmustX := must_of hOX hnX hpiX (by omega) hfits
  have hfilOk : FilOk s.pic.size (-1) (setRuns s.pic.files k X) := by
    rw [filOk_iff]
    refine ⟨rising_congr (setRuns_no hk X).symm hrise, fun y hy => ?_⟩
    rcases mem_setRuns hy with hy | hy
    · exact hall y hy
    · rw [hy]; exact ⟨hmustX, hnX, hROX⟩
  -- what is taken
  rcases takeL_true hrep ta ma (by omega) with ⟨t, t1, t2, -⟩ | ⟨-, y, hy, hyL⟩
  rotate_left
  · exact absurd hyL (hfree y (by rw [hta, hma]; exact hy))
  obtain ⟨t', t3, t4⟩ := takeL_false t2 fa ma (by omega) (fun y hy => by
    refine List.mem_append_left _ (mem_mid.2 (List.mem_append_left _ ?_))
    rw [hfa, hma]; exact hy)
  have m1 : ∀ y, y ∈ P ++ (A ++ (rng f x.many ++ B) ++ Q) ↔ y ∈ rng f x.many ∨ y ∈ P ++ (A ++ B) ++ Q := fun y => mem_mid.trans List.mem_append
  have m2 : ∀ y, y ∈ P ++ (A ++ (rng x.to x.many ++ B) ++ Q) ↔ y ∈ rng x.to x.many ∨ y ∈ P ++ (A ++ B) ++ Q := fun y => mem_mid.trans List.mem_append
  have hrep' : Rep t' (P ++ (A ++ (rng x.to x.many ++ B) ++ Q)) s.pic.size.toNat := by
    refine t4.congr (fun y => ?_)
    have e1 : rng (ta : Int) (ma : Int) = rng x.to x.many := by rw [hta, hma]
    have e2 : rng (fa : Int) (ma : Int) = rng f x.many := by rw [hfa, hma]
    rw [List.mem_filter, List.mem_append, decide_eq_true_eq, e1, e2, m1, m2]
    constructor
    · rintro ⟨(h | h) | h, hn⟩
      · exact absurd h hn
      · exact .inr h
      · exact .inl h
    · rintro (h | h)
      · refine ⟨.inr h, fun hc => hfree y h (mem_mid.2 (List.mem_append_left _ hc))⟩
      · exact ⟨.inl (.inr h), fun hc => n3 y hc y h rfl⟩
  refine ⟨⟨⟨s.pic.size, s.pic.fixed, setRuns s.pic.files k X⟩, t', s.steps ++ [x]⟩, ?_, ⟨⟨hok.size, hok.nfix, by dsimp only; rw [setRuns_length]; exact hok.nfil, hok.fix, hok.first, hfilOk, by dsimp only; rw [hL']; exact hnd'⟩, by dsimp only; rw [hL']; exact hrep'⟩, by dsimp only; rw [hkd, hstX], ?_, ?_, ?_, ?_, ?_⟩
  rotate_left
  · intro q
    show q ∈ xpages s.pic.fixed ++ fpages (setRuns s.pic.files k X) ↔ _ ∨ (q ∈ xpages s.pic.fixed ++ fpages s.pic.files ∧ _)
    rw [hL', hL, m2, m1]
    constructor
    · rintro (h | h)
      · exact .inl h
      · exact .inr ⟨.inr h, fun hc => n3 q hc q h rfl⟩
    · rintro (h | ⟨h | h, hn⟩)
      · exact .inl h
      · exact absurd h hn
      · exact .inr h
  · intro q hq
    show q ∈ xpages s.pic.fixed ++ fpages s.pic.files
    rw [hL, m1]; exact .inl hq
  · intro q hq
    show q ∉ xpages s.pic.fixed ++ fpages s.pic.files
    rw [hL]; exact hfree q hq
  · rw [hRs]; exact hmid
  · rw [hRs, hstX]; exact hsX
  unfold applyL
  rw [if_neg (by omega), if_neg (by omega), show runsOf s.pic.files (fileI s.pic.files x.no).toNat = R from hRs, h4]
  dsimp only
  rw [if_neg (fun h => h ⟨h5, h6⟩), if_neg (fun h => h ⟨h7, h8⟩), if_neg (by rw [h9]; decide), hX, if_neg (fun h => h hfits)]
  rw [show x.to.toNat = ta by omega, show x.many.toNat = ma by omega, show f.toNat = fa by omega, t1]
  dsimp only
  rw [t3, hkd]

theorem apply_good {s : Spc} {x : Step} {f m : Int} (hi : Inv s) (h1 : 0 ≤ fileI s.pic.files x.no) (h2 : 1 ≤ x.many) (h3 : 0 ≤ x.from_) (h4 : mapL (stR s x) x.from_ = some (f, m)) (h5 : f ≠ -1) (h6 : x.many ≤ m) (h7 : 3 ≤ x.to)
    (h8 : x.to ≤ s.pic.size - x.many) (h9 : freeB s.tk x.to.toNat x.many.toNat = true) : ∃ s', applyL s x = .ok s' ∧ Inv s' := by
  obtain ⟨s', e1, e2, _⟩ := apply_full hi h1 h2 h3 h4 h5 h6 h7 h8 h9
  exact ⟨s', e1, e2⟩

theorem inv_applyL {s s' : Spc} {x : Step} (hi : Inv s) (h : applyL s x = .ok s') : Inv s' := by
  obtain ⟨f, m, t, h1, h2, h3, h4, h5, h6, h7, h8, h9, _⟩ := applyL_ok h
  obtain ⟨s2, e1, e2⟩ := apply_good hi h1 h2 h3 h4 h5 h6 h7 h8 h9
  rw [h] at e1; cases e1
  exact e2
end Go.Proofs.Yteipclnlfanfeaa

/- move: the last page, the first free page; Compact's steps; no code here. -/
namespace Go.Proofs.Yteipclnlfanfeaa

theorem lastR_spec (no : Int) (l : List Run) : ∀ (at_ : Int) (acc : Int × Int × Int),
    (lastR no at_ l acc = acc ∨ ∃ pre r post, l = pre ++ r :: post ∧ r.to ≠ -1 ∧ lastR no at_ l acc = (r.to + r.many - 1, no, at_ + pagesL pre + r.many - 1)) ∧
    acc.1 ≤ (lastR no at_ l acc).1 ∧ ∀ r ∈ l, r.to ≠ -1 → r.to + r.many - 1 ≤ (lastR no at_ l acc).1 := by
  induction l with
  | nil => intro at_ acc; exact ⟨.inl rfl, Int.le_refl _, fun r hr => by simp at hr⟩
  | cons r l ih =>
    intro at_ acc
    simp only [lastR]
    by_cases hc : r.to ≠ -1 ∧ acc.1 < r.to + r.many - 1
    · rw [if_pos hc]
      obtain ⟨h1, h2, h3⟩ := ih (at_ + r.many) (r.to + r.many - 1, no, at_ + r.many - 1)
      dsimp only at h2
      refine ⟨.inr ?_, by omega, fun x hx hn => ?_⟩
      · rcases h1 with h1 | ⟨pre, y, post, e1, e2, e3⟩
        · exact ⟨[], r, l, rfl, hc.1, by rw [h1]; simp [pagesL]⟩
        · refine ⟨r :: pre, y, post, by rw [e1]; rfl, e2, ?_⟩
          rw [e3]; simp only [pagesL, Prod.mk.injEq, true_and]; omega
      · rcases List.mem_cons.1 hx with rfl | hx
        · exact h2
        · exact h3 x hx hn
    · rw [if_neg hc]
      obtain ⟨h1, h2, h3⟩ := ih (at_ + r.many) acc
      refine ⟨?_, h2, fun x hx hn => ?_⟩
      · rcases h1 with h1 | ⟨pre, y, post, e1, e2, e3⟩
        · exact .inl h1
        · refine .inr ⟨r :: pre, y, post, by rw [e1]; rfl, e2, ?_⟩
          rw [e3]; simp only [pagesL, Prod.mk.injEq, true_and]; omega
      · rcases List.mem_cons.1 hx with rfl | hx
        · have : ¬ acc.1 < x.to + x.many - 1 := fun h => hc ⟨hn, h⟩
          omega
        · exact h3 x hx hn

theorem lastF_spec (l : List Fil) : ∀ (acc : Int × Int × Int),
    (lastF l acc = acc ∨ ∃ f ∈ l, ∃ pre r post, f.runs = pre ++ r :: post ∧ r.to ≠ -1 ∧ lastF l acc = (r.to + r.many - 1, f.no, pagesL pre + r.many - 1)) ∧
    acc.1 ≤ (lastF l acc).1 ∧ ∀ f ∈ l, ∀ r ∈ f.runs, r.to ≠ -1 → r.to + r.many - 1 ≤ (lastF l acc).1 := by
  induction l with
  | nil => intro acc; exact ⟨.inl rfl, Int.le_refl _, fun f hf => by simp at hf⟩
  | cons f l ih =>
    intro acc
    simp only [lastF]
    obtain ⟨a1, a2, a3⟩ := lastR_spec f.no f.runs 0 acc
    obtain ⟨b1, b2, b3⟩ := ih (lastR f.no 0 f.runs acc)
    refine ⟨?_, by omega, fun g hg r hr hn => ?_⟩
    · rcases b1 with b1 | ⟨g, hg, pre, r, post, e1, e2, e3⟩
      · rcases a1 with a1 | ⟨pre, r, post, e1, e2, e3⟩
        · exact .inl (b1.trans a1)
        · exact .inr ⟨f, by simp, pre, r, post, e1, e2, by rw [b1, e3]; simp⟩
      · exact .inr ⟨g, by simp [hg], pre, r, post, e1, e2, e3⟩
    · rcases List.mem_cons.1 hg with rfl | hg
      · have := a3 r hr hn; omega
      · exact b3 g hg r hr hn

/-- the last page of a right picture: none, or the page of a file at a place -/
theorem lastL_spec {s : Spc} (hi : Inv s) : (lastL s.pic.files).1 = -1 ∧ fpages s.pic.files = [] ∨
    (∃ k, ∃ h : k < s.pic.files.length, s.pic.files[k].no = (lastL s.pic.files).2.1 ∧ 0 ≤ (lastL s.pic.files).2.2 ∧ (strm s.pic.files[k].runs)[(lastL s.pic.files).2.2.toNat]? = some (lastL s.pic.files).1 ∧
      (lastL s.pic.files).1 ∈ rpages s.pic.files[k].runs) ∧ (lastL s.pic.files).1 ∈ fpages s.pic.files ∧ ∀ x ∈ fpages s.pic.files, x ≤ (lastL s.pic.files).1 := by
  obtain ⟨hrise, hall⟩ := filOk_iff.1 hi.ok.fil
  obtain ⟨h1, h2, h3⟩ := lastF_spec s.pic.files (-1, 0, 0)
  have hmax : ∀ x ∈ fpages s.pic.files, x ≤ (lastL s.pic.files).1 := by
    intro x hx
    obtain ⟨f, hf, hx⟩ := List.mem_flatMap.1 hx
    obtain ⟨r, hr, hx⟩ := List.mem_flatMap.1 hx
    by_cases ht : r.to = -1
    · rw [if_pos ht] at hx; simp at hx
    · rw [if_neg ht] at hx
      have := mem_rng.1 hx
      have := h3 f hf r hr ht
      show x ≤ (lastF s.pic.files (-1, 0, 0)).1
      omega
  rcases h1 with h1 | ⟨f, hf, pre, r, post, e1, e2, e3⟩
  · left
    refine ⟨by show (lastF s.pic.files (-1, 0, 0)).1 = -1; rw [h1], ?_⟩
    cases hp : fpages s.pic.files with
    | nil => rfl
    | cons x l =>
      have hx : x ∈ fpages s.pic.files := by rw [hp]; simp
      have b := mem_fpages_bd hi.ok.fil x hx
      have := hmax x hx
      rw [show (lastL s.pic.files).1 = (lastF s.pic.files (-1, 0, 0)).1 from rfl, h1] at this
      dsimp only at this
      omega
  · right
    have hl : lastL s.pic.files = (r.to + r.many - 1, f.no, pagesL pre + r.many - 1) := e3
    obtain ⟨a1, a2, a3⟩ := hall f hf
    have ho := ok0_of_must a1
    have hr1 : r ∈ f.runs := by rw [e1]; simp
    have hm1 := pos_normL ho r (by rw [a2]; exact hr1)
    have hpre : ∀ x ∈ pre, 0 ≤ x.many := fun x hx => (ho x (by rw [e1]; simp [hx])).2
    have hpn := pagesL_nonneg hpre
    have hpl := strm_length hpre
    have hin : r.to + r.many - 1 ∈ rpages f.runs := List.mem_flatMap.2 ⟨r, hr1, by rw [if_neg e2]; exact mem_rng.2 (by omega)⟩
    obtain ⟨k, hk, hkf⟩ := List.getElem_of_mem hf
    rw [hl]
    dsimp only
    refine ⟨⟨k, hk, by rw [hkf], by omega, ?_, by rw [hkf]; exact hin⟩, List.mem_flatMap.2 ⟨f, hf, hin⟩, fun x hx => by have := hmax x hx; rw [hl] at this; exact this⟩
    rw [hkf, e1, strm_append, strm_cons, List.getElem?_append_right (by omega), List.getElem?_append_left (by rw [strR_length]; omega), strR_get, if_pos (by omega), if_neg e2]
    congr 1; omega

theorem idxF_spec (l : List Bool) : (idxF l = -1 ∧ ∀ (j : Nat), j < l.length → l[j]? = some true) ∨ ∃ k : Nat, k < l.length ∧ idxF l = k ∧ l[k]? = some false ∧ ∀ j : Nat, j < k → l[j]? = some true := by
  unfold idxF
  cases e : l.findIdx? (fun b => b == false) with
  | none =>
    rw [List.findIdx?_eq_none_iff] at e
    refine .inl ⟨rfl, fun j hj => ?_⟩
    have := e l[j] (List.getElem_mem hj)
    rw [List.getElem?_eq_getElem hj]
    simpa using this
  | some k =>
    rw [List.findIdx?_eq_some_iff_getElem] at e
    obtain ⟨hk, h1, h2⟩ := e
    refine .inr ⟨k, hk, rfl, by rw [List.getElem?_eq_getElem hk]; simpa using h1, fun j hj => ?_⟩
    rw [List.getElem?_eq_getElem (by omega)]
    simpa using h2 j hj

/-- how many pages lie behind the first free one -/
def msr (tk : List Bool) : Nat := if idxF tk < 0 then 0 else tk.length - (idxF tk).toNat

theorem takeL_one {tk t : List Bool} {a : Nat} {is : Bool} (h : takeL tk a is 1 = some t) : tk[a]? = some (!is) ∧ t = tk.set a is := by
  simp only [takeL, Nat.add_zero] at h
  split at h
  · cases h; exact ⟨by assumption, rfl⟩
  · cases h

/-- the step of Compact -/
def cpStep (s : Spc) : Step := ⟨(lastL s.pic.files).2.1, (lastL s.pic.files).2.2, idxF s.tk, 1⟩
/-- nothing is left to be done -/
def cpDone (s : Spc) : Prop := idxF s.tk < 0 ∨ (lastL s.pic.files).1 < idxF s.tk
theorem cp_map {s : Spc} (hi : Inv s) (h : (lastL s.pic.files).1 ≠ -1) : ∃ m, 0 ≤ fileI s.pic.files (cpStep s).no ∧ 0 ≤ (cpStep s).from_ ∧ mapL (stR s (cpStep s)) (cpStep s).from_ = some ((lastL s.pic.files).1, m) ∧ 1 ≤ m := by
  rcases lastL_spec hi with ⟨h1, _⟩ | ⟨⟨k, hk, e1, e2, e3, e4⟩, _, _⟩
  · exact absurd h1 h
  obtain ⟨hrise, hall⟩ := filOk_iff.1 hi.ok.fil
  obtain ⟨a1, a2, a3⟩ := hall _ (List.getElem_mem hk)
  have hf : fileI s.pic.files (cpStep s).no = k := by
    show fileI s.pic.files (lastL s.pic.files).2.1 = k
    rw [← e1]; exact fileI_of hrise hk
  have hst : stR s (cpStep s) = s.pic.files[k].runs := by
    rw [stR, hf, Int.toNat_natCast]; exact (runsOf_mem hk).1
  have ho := ok0_of_must a1
  have hlt : (lastL s.pic.files).2.2 < pagesL s.pic.files[k].runs := by
    have := (List.getElem?_eq_some_iff.1 e3).1
    have := strm_length (fun r hr => (ho r hr).2)
    omega
  obtain ⟨f, m, g1, g2⟩ := mapL_strm ho e2 hlt
  have : f = (lastL s.pic.files).1 := by have := g2.at_; rw [e3] at this; exact (Option.some.inj this).symm
  subst this
  exact ⟨m, by rw [hf]; omega, e2, by rw [hst]; exact g1, g2.pos⟩

/-- Compact's step can be made, and brings the first free page on -/
theorem cp_step {s : Spc} (hi : Inv s) (hd : ¬ cpDone s) : ∃ s', applyL s (cpStep s) = .ok s' ∧ Inv s' ∧ msr s'.tk < msr s.tk := by
  have h0 : 0 ≤ idxF s.tk := by unfold cpDone at hd; omega
  have h1 : idxF s.tk ≤ (lastL s.pic.files).1 := by unfold cpDone at hd; omega
  obtain ⟨m, c1, c2, c3, c4⟩ := cp_map hi (by omega)
  rcases lastL_spec hi with ⟨h, _⟩ | ⟨_, hp, hmax⟩
  · omega
  have hpb := mem_fpages_bd hi.ok.fil _ hp
  have hsz := hi.ok.size
  have hlen : s.tk.length = s.pic.size.toNat := hi.rep.1
  rcases idxF_spec s.tk with ⟨h, _⟩ | ⟨k, hk, e1, e2, e3⟩
  · omega
  -- the first free page is behind the first three
  have hk3 : 3 ≤ k := by
    have hh : ∀ j : Nat, j < 3 → (j : Int) ∈ xpages s.pic.fixed → j ≠ k := fun j hj hx e => by
      subst e
      have := hi.rep.2 j (by omega)
      rw [e2] at this
      simp [hx] at this
    have h0 := hh 0 (by omega) hi.ok.first.1
    have h1 := hh 1 (by omega) hi.ok.first.2.1
    have h2 := hh 2 (by omega) hi.ok.first.2.2
    omega
  have hpt : s.tk[(lastL s.pic.files).1.toNat]? = some true := by
    rw [hi.rep.2 _ (by omega), show (((lastL s.pic.files).1.toNat : Nat) : Int) = (lastL s.pic.files).1 by omega]
    simp [hp]
  have hne : (lastL s.pic.files).1.toNat ≠ k := fun e => by rw [e, e2] at hpt; cases hpt
  obtain ⟨s', g1, g2⟩ := apply_good (x := cpStep s) hi c1 (Int.le_refl _) c2 c3 (by omega) c4 (by show 3 ≤ idxF s.tk; omega) (by show idxF s.tk ≤ s.pic.size - 1; omega) (by
    show freeB s.tk (idxF s.tk).toNat (1 : Int).toNat = true
    rw [e1, Int.toNat_natCast]
    simp [freeB, e2])
  refine ⟨s', g1, g2, ?_⟩
  obtain ⟨f, m', t, _, _, _, q4, _, _, _, _, _, _, q11, q12, _⟩ := applyL_ok g1
  rw [c3] at q4
  cases q4
  obtain ⟨t1, t2⟩ := takeL_one (show takeL s.tk (cpStep s).to.toNat true 1 = some t from q11)
  obtain ⟨t3, t4⟩ := takeL_one (show takeL t (lastL s.pic.files).1.toNat false 1 = some s'.tk from q12)
  have htk : (cpStep s).to.toNat = k := by show (idxF s.tk).toNat = k; omega
  rw [htk] at t2
  have hl' : s'.tk.length = s.tk.length := by rw [t4, t2]; simp
  have hall : ∀ j : Nat, j ≤ k → s'.tk[j]? = some true := by
    intro j hj
    have hjp : (lastL s.pic.files).1.toNat ≠ j := by omega
    rw [t4, List.getElem?_set, if_neg hjp, t2, List.getElem?_set]
    by_cases e : k = j
    · rw [if_pos e, if_pos (by omega)]
    · rw [if_neg e]; exact e3 j (by omega)
  unfold msr
  rw [if_neg (show ¬ idxF s.tk < 0 by omega)]
  rcases idxF_spec s'.tk with ⟨h, _⟩ | ⟨k', hk', d1, d2, _⟩
  · rw [if_pos (by omega)]; omega
  · rw [if_neg (by omega)]
    have : k < k' := by
      rcases Nat.lt_or_ge k k' with h | h
      · exact h
      · have := hall k' h; rw [d2] at this; cases this
    omega

/-- Compact's steps, of which n at most are made -/
def compactL : Nat → Spc → Except Int Spc
  | 0, s => .ok s
  | n + 1, s => if idxF s.tk < 0 ∨ (lastL s.pic.files).1 < idxF s.tk then .ok s else
    match applyL s (cpStep s) with
    | .error e => .error e
    | .ok s' => compactL n s'
def compactP (p : Pic) : List Step × Int := match openL p with
  | none => ([], 9)
  | some s => match compactL 1000 s with
    | .ok s' => (s'.steps, 0)
    | .error e => ([], e)
theorem msr_le (tk : List Bool) : msr tk ≤ tk.length := by unfold msr; split <;> omega
end Go.Proofs.Yteipclnlfanfeaa
