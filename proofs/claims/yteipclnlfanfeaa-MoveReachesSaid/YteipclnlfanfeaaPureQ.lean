/- move: Defrag's plan; no code here. -/
import Derived.Test.YteipclnlfanfeaaPureP
set_option linter.unusedVariables false
set_option linter.unusedSimpArgs false
namespace Go.Proofs.Yteipclnlfanfeaa

theorem freeGo_free {x : Ext} : ∀ (l : List Bool) (a n : Nat), x ∈ freeGo a l n → n ≤ a → ∀ q : Int, x.page ≤ q → q < x.page + x.many → (a : Int) ≤ q → l[(q - a).toNat]? = some false := by
  intro l
  induction l with
  | nil =>
    intro a n h hn q h1 h2 h3
    cases n with
    | zero => simp [freeGo] at h
    | succ n => simp only [freeGo, List.mem_cons, List.not_mem_nil, or_false] at h; subst h; dsimp only at h1 h2; omega
  | cons b l ih =>
    intro a n h hn q h1 h2 h3
    have step : ∀ m, x ∈ freeGo (a + 1) l m → m ≤ a + 1 → ((a + 1 : Nat) : Int) ≤ q → (b :: l)[(q - a).toNat]? = some false := by
      intro m hm hma hq
      have := ih (a + 1) m hm hma q h1 h2 hq
      rw [show (q - (a : Int)).toNat = (q - ((a + 1 : Nat) : Int)).toNat + 1 by omega, List.getElem?_cons_succ]
      exact this
    cases b with
    | true =>
      cases n with
      | zero =>
        simp only [freeGo] at h
        have := (freeGo_mem l (a + 1) 0 h (by omega)).1
        exact step 0 h (by omega) (by omega)
      | succ n =>
        simp only [freeGo, List.mem_cons] at h
        rcases h with h | h
        · subst h; dsimp only at h1 h2; omega
        · have := (freeGo_mem l (a + 1) 0 h (by omega)).1
          exact step 0 h (by omega) (by omega)
    | false =>
      have h' : x ∈ freeGo (a + 1) l (n + 1) := by cases n <;> simpa [freeGo] using h
      by_cases e : q = a
      · subst e; simp
      · exact step (n + 1) h' (by omega) (by omega)
/-- the pages of an extent of free pages are free -/
theorem free_ext {s : Spc} (hi : Inv s) {size : Nat} {x : Ext} (hx : x ∈ freeL s.tk size) : 3 ≤ x.page ∧ 1 ≤ x.many ∧ x.page + x.many ≤ s.pic.size ∧ (∀ q, x.page ≤ q → q < x.page + x.many → q ∉ pg s.pic) ∧ x.page + x.many ≤ size := by
  have hm := freeL_mem hx
  have htl : s.tk.length = s.pic.size.toNat := hi.rep.1
  have hsz := hi.ok.size
  have hm2 := freeGo_mem (s.tk.take size) 0 0 hx (Nat.le_refl _)
  have hls : (s.tk.take size).length ≤ size := by rw [List.length_take]; omega
  have hfree : ∀ q, x.page ≤ q → q < x.page + x.many → q ∉ pg s.pic := by
    intro q h1 h2 hc
    have h3 := freeGo_free (s.tk.take size) 0 0 hx (Nat.le_refl _) q h1 h2 (by omega)
    rw [List.getElem?_take] at h3
    split at h3
    · have h4 := hi.rep.2 (q - ((0 : Nat) : Int)).toNat (by omega)
      rw [h3] at h4
      have h5 : (((q - ((0 : Nat) : Int)).toNat : Nat) : Int) = q := by omega
      rw [h5] at h4
      have h6 := Option.some.inj h4
      have : decide (q ∈ xpages s.pic.fixed ++ fpages s.pic.files) = true := decide_eq_true hc
      rw [this] at h6
      cases h6
    · cases h3
  refine ⟨?_, hm.2.1, by omega, hfree, by omega⟩
  have hx0 := fun j (hj : (j : Int) ∈ xpages s.pic.fixed) => hfree j
  by_cases h : 3 ≤ x.page
  · exact h
  exfalso
  have h3 : x.page = 0 ∨ x.page = 1 ∨ x.page = 2 := by omega
  have hf := hi.ok.first
  have hin : x.page ∈ pg s.pic := by
    refine List.mem_append_left _ ?_
    rcases h3 with e | e | e <;> rw [e]
    · exact hf.1
    · exact hf.2.1
    · exact hf.2.2
  exact hfree _ (Int.le_refl _) (by omega) hin

/-- where a row of pages lies behind each other, Map finds it -/
theorem map_row {l : List Run} (ho : Ok0 l) {a m t : Int} (ha : 0 ≤ a) (hm : 1 ≤ m) (ht : t ≠ -1) (hrow : ∀ i : Nat, (i : Int) < m → (strm l)[a.toNat + i]? = some (t + i)) : ∃ m', mapL l a = some (t, m') ∧ m ≤ m' := by
  have h0 := hrow 0 (by omega)
  have hlen := strm_length (fun r hr => (ho r hr).2)
  have hlt := (List.getElem?_eq_some_iff.1 h0).1
  obtain ⟨f, m', h1, h2⟩ := mapL_strm ho ha (by omega)
  have hat := h2.at_
  rw [Nat.add_zero, hat] at h0
  have hf : f = t := by have := Option.some.inj h0; simpa using this
  subst hf
  refine ⟨m', h1, ?_⟩
  by_cases h : m ≤ m'
  · exact h
  exfalso
  have hp := h2.pos
  have h3 := hrow m'.toNat (by omega)
  have h4 := h2.max
  rw [if_neg ht] at h4
  apply h4
  rw [h3, show ((m'.toNat : Nat) : Int) = m' by omega]

/-- a stream whose pages lie behind each other from a page on -/
def moved : List Run → Int → List Int
  | [], _ => []
  | r :: l, to_ => if r.to = -1 then strR r ++ moved l to_ else rng to_ r.many ++ moved l (to_ + r.many)
theorem moved_filter {l : List Run} (h : ∀ r ∈ l, 1 ≤ r.many) : ∀ (to_ : Int), 0 ≤ to_ → (moved l to_).filter (fun x => decide (x ≠ -1)) = rng to_ (takenL l) := by
  induction l with
  | nil => intro to_ _; simp [moved, takenL, rng]
  | cons r l ih =>
    intro to_ h0
    have hr := h r (by simp)
    have ih := ih (fun x hx => h x (by simp [hx]))
    have htk := (takenL_bound l (fun x hx => by have := h x (by simp [hx]); omega)).1
    by_cases ht : r.to = -1
    · simp only [moved, if_pos ht, List.filter_append, ih to_ h0]
      have e : (strR r).filter (fun x => decide (x ≠ -1)) = [] := by
        rw [List.filter_eq_nil_iff]
        intro x hx
        obtain ⟨i, _, rfl⟩ := List.mem_map.1 hx
        simp [ht]
      rw [e, List.nil_append]
      simp only [takenL, if_pos ht]
      congr 1
      omega
    · simp only [moved, if_neg ht, List.filter_append, ih (to_ + r.many) (by omega), rng_filter h0]
      simp only [takenL, if_neg ht]
      unfold rng
      rw [show (r.many + takenL l).toNat = r.many.toNat + (takenL l).toNat by omega, List.range_add, List.map_append, List.map_map]
      congr 1
      apply List.map_congr_left
      intro i _
      simp only [Function.comp_apply]
      omega

/-- what a path over one file leaves -/
structure OneFile (s s' : Spc) (k : Nat) (no : Int) (l : List Step) : Prop where
  path : applyAll s l = .ok s'
  inv : Inv s'
  nos : ∀ x ∈ l, x.no = no
  others : ∀ j, j ≠ k → runsOf s'.pic.files j = runsOf s.pic.files j
  names : s'.pic.files.map Fil.no = s.pic.files.map Fil.no
  size : s'.pic.size = s.pic.size
  fixed : s'.pic.fixed = s.pic.fixed
theorem runsOf_set {l : List Fil} {k j : Nat} (h : k < l.length) (r : List Run) : runsOf (setRuns l k r) j = if j = k then r else runsOf l j := by
  rw [setRuns_get h]
  unfold runsOf
  by_cases e : j = k
  · subst e; simp [h]
  · rw [List.getElem?_set_ne (Ne.symm e), if_neg e]
theorem OneFile.refl {s : Spc} (hi : Inv s) (k : Nat) (no : Int) : OneFile s s k no [] := ⟨rfl, hi, fun x hx => by simp at hx, fun _ _ => rfl, rfl, rfl, rfl⟩
theorem OneFile.step {s s1 s' : Spc} {k : Nat} {no : Int} {x : Step} {l : List Step} (hk : k < s.pic.files.length) (hx : applyL s x = .ok s1) (hno : x.no = no) (hp : s1.pic = ⟨s.pic.size, s.pic.fixed, setRuns s.pic.files k (putX (runsOf s.pic.files k) x.from_ [⟨x.to, x.many⟩])⟩) (h : OneFile s1 s' k no l) : OneFile s s' k no (x :: l) := by
  refine ⟨path_cons hx h.path, h.inv, fun y hy => ?_, fun j hj => ?_, ?_, ?_, ?_⟩
  · rcases List.mem_cons.1 hy with rfl | hy
    · exact hno
    · exact h.nos y hy
  · rw [h.others j hj, hp]; dsimp only; rw [runsOf_set hk, if_neg hj]
  · rw [h.names, hp]; dsimp only; exact setRuns_no hk _
  · rw [h.size, hp]
  · rw [h.fixed, hp]

theorem drop_append_len {α : Type} {a b : List α} {n : Nat} (h : a.length = n) : (a ++ b).drop n = b := by subst h; simp
theorem take_append_len {α : Type} {a b : List α} {n : Nat} (h : a.length = n) : (a ++ b).take n = a := by subst h; simp

/-- Defrag's steps of one file -/
theorem dfR_path (k : Nat) (no : Int) : ∀ (L : List Run) (s : Spc) (at_ to_ lim : Int), Inv s → (hk : k < s.pic.files.length) → s.pic.files[k].no = no → 0 ≤ at_ → 3 ≤ to_ → at_.toNat ≤ (strm (runsOf s.pic.files k)).length →
    (strm (runsOf s.pic.files k)).drop at_.toNat = strm L → (∀ r ∈ L, -1 ≤ r.to ∧ 1 ≤ r.many) → (∀ q, to_ ≤ q → q < lim → q ∉ pg s.pic) → to_ + takenL L ≤ lim → lim ≤ s.pic.size →
    ∃ s' l, dfR no at_ to_ L s = .ok s' ∧ OneFile s s' k no l ∧ l.length ≤ spans L ∧ strm (runsOf s'.pic.files k) = (strm (runsOf s.pic.files k)).take at_.toNat ++ moved L to_ := by
  intro L
  induction L with
  | nil =>
    intro s at_ to_ lim hi hk hno h0 h3 hl hd _ _ _ _
    refine ⟨s, [], rfl, .refl hi k no, by simp, ?_⟩
    conv => lhs; rw [← List.take_append_drop at_.toNat (strm (runsOf s.pic.files k)), hd]
    simp [strm, moved]
  | cons r L ih =>
    intro s at_ to_ lim hi hk hno h0 h3 hl hd hL hfree hlim hlz
    have hr := hL r (by simp)
    have hL' : ∀ r ∈ L, -1 ≤ r.to ∧ 1 ≤ r.many := fun x hx => hL x (by simp [hx])
    have htk := (takenL_bound L (fun x hx => by have := hL' x hx; omega)).1
    have hsplit : strm (runsOf s.pic.files k) = (strm (runsOf s.pic.files k)).take at_.toNat ++ (strR r ++ strm L) := by
      conv => lhs; rw [← List.take_append_drop at_.toNat (strm (runsOf s.pic.files k)), hd]
      rfl
    have htl : ((strm (runsOf s.pic.files k)).take at_.toNat).length = at_.toNat := by rw [List.length_take]; omega
    have hrl := strR_length r
    have hnat : (at_ + r.many).toNat = at_.toNat + r.many.toNat := by omega
    by_cases ht : r.to = -1
    · have hd' : (strm (runsOf s.pic.files k)).drop (at_ + r.many).toNat = strm L := by
        rw [hsplit, ← List.append_assoc]
        exact drop_append_len (by rw [List.length_append, htl, hrl, hnat])
      have ht' : (strm (runsOf s.pic.files k)).take (at_ + r.many).toNat = (strm (runsOf s.pic.files k)).take at_.toNat ++ strR r := by
        conv => lhs; rw [hsplit, ← List.append_assoc]
        exact take_append_len (by rw [List.length_append, htl, hrl, hnat])
      have hlen' : (at_ + r.many).toNat ≤ (strm (runsOf s.pic.files k)).length := by
        have := congrArg List.length hsplit
        rw [List.length_append, htl, List.length_append, hrl] at this
        omega
      have htaken : takenL (r :: L) = takenL L := by simp [takenL, ht]
      obtain ⟨s', l, g1, g2, g3, g4⟩ := ih s (at_ + r.many) to_ lim hi hk hno (by omega) h3 hlen' hd' hL' hfree (by omega) hlz
      refine ⟨s', l, by rw [dfR, if_neg (fun e => e ht)]; exact g1, g2, by rw [spans_cons]; omega, ?_⟩
      rw [g4, ht', moved, if_pos ht, List.append_assoc]
    · obtain ⟨hR, hmem⟩ := runsOf_mem hk
      obtain ⟨a1, a2, _⟩ := (filOk_iff.1 hi.ok.fil).2 _ hmem
      have ho : Ok0 (runsOf s.pic.files k) := by rw [hR]; exact ok0_of_must a1
      have htaken : takenL (r :: L) = r.many + takenL L := by simp [takenL, ht]
      obtain ⟨m', hm1, hm2⟩ := map_row ho h0 hr.2 ht (fun i hi' => by
        rw [hsplit, List.getElem?_append_right (by omega), htl, show at_.toNat + i - at_.toNat = i by omega, List.getElem?_append_left (by omega), strR_get, if_pos hi', if_neg ht])
      obtain ⟨s1, hs1⟩ := make (x := ⟨no, at_, to_, r.many⟩) hi hk hno hr.2 h0 (by rw [← hR]; exact hm1) ht hm2 h3 (by dsimp only; omega) (fun q hq => by
        have h9 := mem_rng.1 hq
        dsimp only at h9
        exact hfree q h9.1 (by omega))
      obtain ⟨k', f, m, M⟩ := made hi hs1
      have hkk : k' = k := by
        have h1 := M.ix
        have h2 : fileI s.pic.files no = k := by rw [← hno]; exact fileI_of (filOk_iff.1 hi.ok.fil).1 hk
        dsimp only at h1
        omega
      subst hkk
      have hf : f = r.to := by
        have h1 := M.map
        dsimp only at h1
        rw [hm1] at h1
        cases h1; rfl
      subst hf
      have hX := M.strX
      dsimp only at hX
      have hp1 := M.pic
      dsimp only at hp1
      have hrun1 : runsOf s1.pic.files k' = putX (runsOf s.pic.files k') at_ [⟨to_, r.many⟩] := by
        rw [hp1]; dsimp only; rw [runsOf_set hk, if_pos rfl]
      have hk1 : k' < s1.pic.files.length := by rw [hp1]; dsimp only; rw [setRuns_length]; exact hk
      have hno1 : s1.pic.files[k'].no = no := by
        have h9 : (s1.pic.files.map Fil.no)[k']? = (s.pic.files.map Fil.no)[k']? := by rw [hp1]; dsimp only; rw [setRuns_no hk]
        rw [List.getElem?_map, List.getElem?_map, List.getElem?_eq_getElem hk1, List.getElem?_eq_getElem hk] at h9
        simp only [Option.map_some, Option.some.injEq] at h9
        rw [h9]; exact hno
      have hdL : (strm (runsOf s.pic.files k')).drop (at_ + r.many).toNat = strm L := by
        rw [hsplit, ← List.append_assoc]
        exact drop_append_len (by rw [List.length_append, htl, hrl, hnat])
      rw [hdL] at hX
      have hgl : (rng to_ r.many).length = r.many.toNat := by simp [rng]
      have hd1 : (strm (runsOf s1.pic.files k')).drop (at_ + r.many).toNat = strm L := by
        rw [hrun1, hX, ← List.append_assoc]
        exact drop_append_len (by rw [List.length_append, htl, hgl, hnat])
      have ht1 : (strm (runsOf s1.pic.files k')).take (at_ + r.many).toNat = (strm (runsOf s.pic.files k')).take at_.toNat ++ rng to_ r.many := by
        rw [hrun1, hX, ← List.append_assoc]
        exact take_append_len (by rw [List.length_append, htl, hgl, hnat])
      have hl1 : (at_ + r.many).toNat ≤ (strm (runsOf s1.pic.files k')).length := by
        rw [hrun1, hX, List.length_append, htl, List.length_append, hgl]; omega
      have hfree1 : ∀ q, to_ + r.many ≤ q → q < lim → q ∉ pg s1.pic := by
        intro q h1 h2 hc
        rcases (M.pages q).1 hc with h | h
        · have := mem_rng.1 h; dsimp only at this; omega
        · exact hfree q (by omega) h2 h.1
      obtain ⟨s', l, g1, g2, g3, g4⟩ := ih s1 (at_ + r.many) (to_ + r.many) lim M.inv1 hk1 hno1 (by omega) (by omega) hl1 hd1 hL' hfree1 (by omega) (by rw [hp1]; exact hlz)
      refine ⟨s', ⟨no, at_, to_, r.many⟩ :: l, by rw [dfR, if_pos ht, hs1]; exact g1, .step hk hs1 rfl hp1 g2, ?_, ?_⟩
      · rw [spans_cons, if_neg ht, List.length_cons]; omega
      · rw [g4, ht1, moved, if_neg ht, List.append_assoc]

/-- one file is put together -/
theorem df1_path {s : Spc} {k : Nat} (hi : Inv s) (hk : k < s.pic.files.length) : ∃ s' l, df1 s k = .ok s' ∧ OneFile s s' k s.pic.files[k].no l ∧ l.length ≤ spans (runsOf s.pic.files k) ∧
    ((l = [] ∧ s' = s) ∨ (fragL (-1) (runsOf s'.pic.files k) = 1 ∧ 2 ≤ fragL (-1) (runsOf s.pic.files k))) := by
  obtain ⟨hR, hmem⟩ := runsOf_mem hk
  obtain ⟨a1, a2, _⟩ := (filOk_iff.1 hi.ok.fil).2 _ hmem
  have hz := mustE_zero a1
  rw [← hR] at hz
  have ho : Ok0 (runsOf s.pic.files k) := by rw [hR]; exact ok0_of_must a1
  unfold df1
  by_cases h2 : fragL (-1) (runsOf s.pic.files k) < 2
  · rw [if_pos h2]; exact ⟨s, [], rfl, .refl hi k _, by simp, .inl ⟨rfl, rfl⟩⟩
  rw [if_neg h2]
  cases hb : dfBest s k with
  | none => exact ⟨s, [], rfl, .refl hi k _, by simp, .inl ⟨rfl, rfl⟩⟩
  | some x =>
    dsimp only
    obtain ⟨hx1, hx2⟩ := bestL_mem hb
    have hx2 : takenL (runsOf s.pic.files k) ≤ x.many := by simpa using hx2
    obtain ⟨e1, e2, e3, e4, _⟩ := free_ext hi hx1
    have hno : noOf s.pic.files k = s.pic.files[k].no := by simp [noOf, hk]
    rw [hno]
    obtain ⟨s', l, g1, g2, g3, g4⟩ := dfR_path k s.pic.files[k].no (runsOf s.pic.files k) s 0 x.page (x.page + x.many) hi hk rfl (Int.le_refl _) e1 (by simp) (by simp) (fun r hr => by have := hz.2.1 r hr; omega) e4 (by omega) e3
    refine ⟨s', l, g1, g2, g3, .inr ⟨?_, by omega⟩⟩
    simp only [Int.toNat_zero, List.take_zero, List.nil_append] at g4
    have hk' : k < s'.pic.files.length := by
      have := congrArg List.length g2.names
      simp only [List.length_map] at this
      omega
    obtain ⟨hR', hmem'⟩ := runsOf_mem hk'
    obtain ⟨b1, b2, _⟩ := (filOk_iff.1 g2.inv.ok.fil).2 _ hmem'
    have ho' : Ok0 (runsOf s'.pic.files k) := by rw [hR']; exact ok0_of_must b1
    have hz' := mustE_zero b1
    rw [← hR'] at hz'
    rw [fragL_pages _ (fun r hr => (hz'.2.1 r hr).1), rpages_strm ho', g4, moved_filter (fun r hr => (hz.2.1 r hr).1) _ (by omega)]
    have htk : 1 ≤ takenL (runsOf s.pic.files k) := by
      have h0 := (takenL_bound (runsOf s.pic.files k) (fun r hr => by have := hz.2.1 r hr; omega)).1
      by_cases h : 1 ≤ takenL (runsOf s.pic.files k)
      · exact h
      exfalso
      have hall : ∀ (L : List Run), (∀ r ∈ L, 1 ≤ r.many) → takenL L = 0 → ∀ e, fragL e L = 0 := by
        intro L
        induction L with
        | nil => intro _ _ e; rfl
        | cons r L ih =>
          intro h1 h2 e
          have h3 := h1 r (by simp)
          have h4 := (takenL_bound L (fun y hy => by have := h1 y (by simp [hy]); omega)).1
          by_cases ht : r.to = -1
          · simp only [takenL, if_pos ht] at h2
            simp only [fragL, if_pos ht]
            exact ih (fun y hy => h1 y (by simp [hy])) (by omega) e
          · simp only [takenL, if_neg ht] at h2; omega
      have := hall _ (fun r hr => (hz.2.1 r hr).1) (by omega) (-1)
      omega
    have h5 := cntP_rng1 (e := -1) (a := x.page) htk []
    rw [List.append_nil] at h5
    rw [h5, if_neg (by omega)]
    rfl

theorem nos_get {l l' : List Fil} (h : l'.map Fil.no = l.map Fil.no) {j : Nat} (hj : j < l.length) : ∃ hj' : j < l'.length, l'[j].no = l[j].no := by
  have hl := congrArg List.length h
  simp only [List.length_map] at hl
  refine ⟨by omega, ?_⟩
  have h9 : (l'.map Fil.no)[j]? = (l.map Fil.no)[j]? := by rw [h]
  rw [List.getElem?_map, List.getElem?_map, List.getElem?_eq_getElem (by omega), List.getElem?_eq_getElem hj] at h9
  simpa using h9
theorem path_len {s s' : Spc} {k : Nat} {no : Int} {l : List Step} (h : OneFile s s' k no l) : s'.pic.files.length = s.pic.files.length := by
  have := congrArg List.length h.names
  simpa using this
/-- how many spans the files of some numbers have -/
def spanI (p : Pic) : List Nat → Nat
  | [] => 0
  | i :: l => spans (runsOf p.files i) + spanI p l
/-- Defrag's steps of the files of some numbers -/
theorem dfI_path (s0 : Spc) : ∀ (L : List Nat) (s : Spc), Inv s → s.pic.files.map Fil.no = s0.pic.files.map Fil.no → L.Nodup → (∀ i ∈ L, i < s0.pic.files.length) → (∀ i ∈ L, runsOf s.pic.files i = runsOf s0.pic.files i) →
    ∃ s' l, dfI L s = .ok s' ∧ applyAll s l = .ok s' ∧ Inv s' ∧ l.length ≤ spanI s0.pic L ∧ s'.pic.files.map Fil.no = s0.pic.files.map Fil.no ∧ (∀ i, i ∉ L → runsOf s'.pic.files i = runsOf s.pic.files i) ∧
      (∀ x ∈ l, ∃ i ∈ L, ∃ h : i < s0.pic.files.length, x.no = s0.pic.files[i].no) ∧
      (∀ i ∈ L, (runsOf s'.pic.files i = runsOf s0.pic.files i ∧ ∀ h : i < s0.pic.files.length, ∀ x ∈ l, x.no ≠ s0.pic.files[i].no) ∨ (fragL (-1) (runsOf s'.pic.files i) = 1 ∧ 2 ≤ fragL (-1) (runsOf s0.pic.files i))) := by
  intro L
  induction L with
  | nil => intro s hi hn _ _ _; exact ⟨s, [], rfl, rfl, hi, by simp, hn, fun _ _ => rfl, fun x hx => by simp at hx, fun i hi => by simp at hi⟩
  | cons k L ih =>
    intro s hi hn hnd hlt hrun
    have hk0 := hlt k (by simp)
    obtain ⟨hk, hkno⟩ := nos_get hn hk0
    obtain ⟨hkL, hndL⟩ := List.nodup_cons.1 hnd
    obtain ⟨s1, l1, g1, g2, g3, g4⟩ := df1_path hi hk
    have hrk := hrun k (by simp)
    have hrun1 : ∀ i ∈ L, runsOf s1.pic.files i = runsOf s0.pic.files i := fun i hi' => by
      rw [g2.others i (fun e => by subst e; exact hkL hi')]
      exact hrun i (by simp [hi'])
    obtain ⟨s', l, f1, f2, f3, f4, f5, f6, f7, f8⟩ := ih s1 g2.inv (g2.names.trans hn) hndL (fun i hi' => hlt i (by simp [hi'])) hrun1
    have hdist : ∀ i (h : i < s0.pic.files.length), i ≠ k → s0.pic.files[i].no ≠ s0.pic.files[k].no := by
      intro i h hne e
      have hi0 := (filOk_iff.1 hi.ok.fil).1
      obtain ⟨h', e'⟩ := nos_get hn h
      have e2 : s.pic.files[i].no = s.pic.files[k].no := by rw [e', hkno, e]
      rcases Nat.lt_trichotomy i k with q | q | q
      · have := (rising_lt hi0 i h').2 k hk q; omega
      · exact hne q
      · have := (rising_lt hi0 k hk).2 i h' q; omega
    refine ⟨s', l1 ++ l, by simp only [dfI, g1]; exact f1, path_append g2.path f2, f3, ?_, f5, fun i hi' => ?_, fun x hx => ?_, fun i hi' => ?_⟩
    · simp only [spanI, List.length_append]; rw [hrk] at g3; omega
    · rw [f6 i (fun h => hi' (by simp [h])), g2.others i (fun e => hi' (by simp [e]))]
    · rcases List.mem_append.1 hx with hx | hx
      · exact ⟨k, by simp, hk0, by rw [g2.nos x hx, hkno]⟩
      · obtain ⟨i, h1, h2, h3⟩ := f7 x hx
        exact ⟨i, by simp [h1], h2, h3⟩
    · rcases List.mem_cons.1 hi' with rfl | hiL
      · have hkeep : runsOf s'.pic.files i = runsOf s1.pic.files i := f6 i hkL
        rcases g4 with ⟨rfl, rfl⟩ | ⟨g5, g6⟩
        · refine .inl ⟨by rw [hkeep, hrk], fun h x hx => ?_⟩
          rw [List.nil_append] at hx
          obtain ⟨j, h1, h2, h3⟩ := f7 x hx
          rw [h3]
          exact hdist j h2 (fun e => by subst e; exact hkL h1)
        · exact .inr ⟨by rw [hkeep]; exact g5, by rw [← hrk]; exact g6⟩
      · rcases f8 i hiL with ⟨h1, h2⟩ | h1
        · refine .inl ⟨h1, fun h x hx => ?_⟩
          rcases List.mem_append.1 hx with hx | hx
          · rw [g2.nos x hx, hkno]
            exact fun e => hdist i h (fun e' => by subst e'; exact hkL hiL) e.symm
          · exact h2 h x hx
        · exact .inr h1
theorem spanI_all (p : Pic) (h : ∀ f ∈ p.files, ∀ r ∈ f.runs, 1 ≤ r.many) : spanI p (List.range p.files.length) ≤ (fpages p.files).length := by
  have key : ∀ (l : List Fil) (pre : List Fil), pre ++ l = p.files → spanI p ((List.range l.length).map (· + pre.length)) ≤ (fpages l).length := by
    intro l
    induction l with
    | nil => intro pre _; simp [spanI]
    | cons f l ih =>
      intro pre hp
      have ih := ih (pre ++ [f]) (by simpa using hp)
      have hf : f ∈ p.files := by rw [← hp]; simp
      have hro : runsOf p.files pre.length = f.runs := by unfold runsOf; rw [← hp]; simp
      have hsp := spans_pages (h f hf)
      rw [List.length_cons, List.range_succ_eq_map, List.map_cons, List.map_map]
      simp only [spanI, Nat.zero_add]
      rw [hro]
      have e : (List.range l.length).map ((fun x => x + pre.length) ∘ Nat.succ) = (List.range l.length).map (fun x => x + (pre ++ [f]).length) := by
        apply List.map_congr_left
        intro i _
        simp only [Function.comp_apply, List.length_append, List.length_singleton]
        omega
      rw [e]
      have hfp : (fpages (f :: l)).length = (rpages f.runs).length + (fpages l).length := by simp [fpages]
      omega
  have := key p.files [] rfl
  simpa using this
theorem pages_few {p : Pic} (h : OpenOk p) : (fpages p.files).length ≤ 768 := by
  have hsz := h.size
  have h1 := nodup_length p.size.toNat (fpages p.files) (List.nodup_append.1 h.nodup).2.1 (fun x hx => by have := mem_fpages_bd h.fil x hx; omega)
  omega
/-- Defrag's plan: made by Run; no file has more fragments, and each file with a step has one -/
theorem defrag_reach {p : Pic} {s : Spc} (ho : openL p = some s) : ∃ s' l, defragP p = (l, 0) ∧ runP p l = (s'.pic, 0) ∧ Inv s' ∧ s'.pic.files.map Fil.no = p.files.map Fil.no ∧
    ∀ i (h : i < p.files.length), fragL (-1) (runsOf s'.pic.files i) ≤ fragL (-1) (runsOf p.files i) ∧ ((∃ x ∈ l, x.no = p.files[i].no) → fragL (-1) (runsOf s'.pic.files i) = 1) := by
  obtain ⟨hi, hp, hst⟩ := inv_open ho
  subst hp
  obtain ⟨s', l, f1, f2, f3, f4, f5, f6, f7, f8⟩ := dfI_path s (List.range s.pic.files.length) s hi rfl List.nodup_range (fun i hi' => List.mem_range.1 hi') (fun _ _ => rfl)
  have hs' := path_steps f2
  rw [hst, List.nil_append] at hs'
  have h1 := spanI_all s.pic (fun f hf r hr => ((mustE_zero ((filOk_iff.1 hi.ok.fil).2 f hf).1).2.1 r hr).1)
  have h2 := pages_few hi.ok
  refine ⟨s', l, ?_, path_run ho f2 (by omega), f3, f5, fun i h => ?_⟩
  · unfold defragP; rw [ho]; dsimp only; rw [f1]; dsimp only; rw [hs']
  · rcases f8 i (List.mem_range.2 h) with ⟨g1, g2⟩ | ⟨g1, g2⟩
    · refine ⟨by rw [g1]; omega, fun ⟨x, hx, e⟩ => absurd e (g2 h x hx)⟩
    · exact ⟨by omega, fun _ => g1⟩
end Go.Proofs.Yteipclnlfanfeaa
