/- ref36: owners as a plain function; no code here. -/
import Derived.Test.YteipclnlfanfeaaBaseK
set_option linter.unusedVariables false
set_option linter.unusedSimpArgs false
namespace Go.Proofs.Yteipclnlfanfeaa

/-- v is written at m places from a on -/
def fillO (o : List Int) (a : Nat) (v : Int) : Nat → List Int
  | 0 => o
  | m + 1 => (fillO o a v m).set (a + m) v
/-- v is written at m places from a on, if they are free -/
def putO (o : List Int) (a : Nat) (v : Int) : Nat → Option (List Int)
  | 0 => some o
  | m + 1 => match putO o a v m with
    | none => none
    | some t => if t[a + m]? = some 0 then some (t.set (a + m) v) else none
def ownX (size : Int) : List Ext → Int → List Int → Option (List Int)
  | [], _, o => some o
  | x :: l, e, o => if x.page < e ∨ x.many < 1 ∨ size ≤ x.page ∨ size - x.page < x.many then none else ownX size l (x.page + x.many) (fillO o x.page.toNat 1 x.many.toNat)
def ownR (size v : Int) : List Run → List Int → Option (List Int)
  | [], o => some o
  | r :: l, o => if r.to = -1 then ownR size v l o else if size ≤ r.to ∨ size - r.to < r.many then none else
      match putO o r.to.toNat v r.many.toNat with
      | none => none
      | some t => ownR size v l t
def ownF (size : Int) : Nat → List Fil → Int → List Int → Option (List Int)
  | _, [], _, o => some o
  | i, f :: l, no, o => if no < f.no ∧ f.no ≤ 1073741824 ∧ mustE f.runs = 0 ∧ normL f.runs = f.runs then
      match ownR size ((i : Int) + 2) f.runs o with
      | none => none
      | some t => ownF size (i + 1) l f.no t
    else none
def ownL (p : Pic) : Option (List Int) :=
  if 4 ≤ p.size ∧ p.size ≤ 768 ∧ p.fixed.length ≤ 200 ∧ p.files.length ≤ 200 then
    match ownX p.size p.fixed 0 (List.replicate p.size.toNat 0) with
    | none => none
    | some t => if t[0]? = some 1 ∧ t[1]? = some 1 ∧ t[2]? = some 1 then ownF p.size 0 p.files (-1) t else none
  else none

/-- the list o says of the first n pages whose they are -/
def OwnR (o : List Int) (g : Nat → Int) (n : Nat) : Prop := o.length = n ∧ ∀ i : Nat, i < n → o[i]? = some (g i)
theorem own_empty (n : Nat) : OwnR (List.replicate n 0) (fun _ => 0) n := ⟨by simp, fun i hi => by simp [hi]⟩
theorem OwnR.set {o : List Int} {g : Nat → Int} {n : Nat} (h : OwnR o g n) (k : Nat) (v : Int) : OwnR (o.set k v) (fun i => if i = k then v else g i) n := by
  refine ⟨by simp [h.1], fun i hi => ?_⟩
  rw [List.getElem?_set]
  by_cases e : k = i
  · subst e
    rw [if_pos rfl, if_pos (by rw [h.1]; exact hi)]
    simp
  · rw [if_neg e, h.2 i hi]
    simp [Ne.symm e]
theorem OwnR.congr {o : List Int} {g g' : Nat → Int} {n : Nat} (h : OwnR o g n) (e : ∀ i < n, g i = g' i) : OwnR o g' n := ⟨h.1, fun i hi => by rw [h.2 i hi, e i hi]⟩
theorem fillO_rep {o : List Int} {g : Nat → Int} {n : Nat} (h : OwnR o g n) (a : Nat) (v : Int) (m : Nat) : OwnR (fillO o a v m) (fun i => if a ≤ i ∧ i < a + m then v else g i) n := by
  induction m with
  | zero => exact h.congr (fun i _ => by rw [if_neg (by omega)])
  | succ m ih =>
    refine (ih.set (a + m) v).congr (fun i _ => ?_)
    by_cases e : i = a + m
    · rw [if_pos e, if_pos (by omega)]
    · rw [if_neg e]
      by_cases h' : a ≤ i ∧ i < a + m
      · rw [if_pos h', if_pos (by omega)]
      · rw [if_neg h', if_neg (by omega)]
theorem putO_rep {o : List Int} {g : Nat → Int} {n : Nat} (h : OwnR o g n) (a : Nat) (v : Int) (m : Nat) (hm : a + m ≤ n) :
    (∃ t, putO o a v m = some t ∧ OwnR t (fun i => if a ≤ i ∧ i < a + m then v else g i) n ∧ ∀ i, a ≤ i → i < a + m → g i = 0) ∨ (putO o a v m = none ∧ ∃ i, a ≤ i ∧ i < a + m ∧ g i ≠ 0) := by
  induction m with
  | zero => exact .inl ⟨o, rfl, h.congr (fun i _ => by rw [if_neg (by omega)]), fun i _ _ => by omega⟩
  | succ m ih =>
    rcases ih (by omega) with ⟨t, h1, h2, h3⟩ | ⟨h1, i, hi1, hi2, hi3⟩
    · have hget : t[a + m]? = some (g (a + m)) := by rw [h2.2 (a + m) (by omega)]; simp
      by_cases hz : g (a + m) = 0
      · left
        refine ⟨t.set (a + m) v, ?_, ?_, ?_⟩
        · simp only [putO, h1, hget, hz, if_true]
        · refine (h2.set (a + m) v).congr (fun i _ => ?_)
          by_cases e : i = a + m
          · rw [if_pos e, if_pos (by omega)]
          · rw [if_neg e]
            by_cases h' : a ≤ i ∧ i < a + m
            · rw [if_pos h', if_pos (by omega)]
            · rw [if_neg h', if_neg (by omega)]
        · intro i hi1 hi2
          by_cases e : i = a + m
          · subst e; exact hz
          · exact h3 i hi1 (by omega)
      · right
        refine ⟨?_, a + m, by omega, by omega, hz⟩
        simp only [putO, h1, hget]
        rw [if_neg (fun e => hz (by injection e))]
    · exact .inr ⟨by simp only [putO, h1], i, hi1, by omega, hi3⟩

/-- the fixed extents, owned -/
theorem ownX_rep {size : Int} {n : Nat} (hn : size = n) (l : List Ext) : ∀ (e : Int) (o : List Int) (L : List Int), 0 ≤ e → OwnR o (fun i => if (i : Int) ∈ L then 1 else 0) n →
    (FixOk size e l ∧ ∃ t, ownX size l e o = some t ∧ OwnR t (fun i => if (i : Int) ∈ L ++ xpages l then 1 else 0) n) ∨ (¬ FixOk size e l ∧ ownX size l e o = none) := by
  induction l with
  | nil => intro e o L he h; exact .inl ⟨trivial, o, rfl, h.congr (fun i _ => by simp [xpages])⟩
  | cons x l ih =>
    intro e o L he h
    by_cases hx : x.page < e ∨ x.many < 1 ∨ size ≤ x.page ∨ size - x.page < x.many
    · refine .inr ⟨fun hc => ?_, by rw [ownX, if_pos hx]⟩
      have := hc.1
      omega
    · have hfill := fillO_rep h x.page.toNat 1 x.many.toNat
      have h2 : OwnR (fillO o x.page.toNat 1 x.many.toNat) (fun i => if (i : Int) ∈ L ++ rng x.page x.many then 1 else 0) n := by
        refine hfill.congr (fun i hi => ?_)
        simp only [List.mem_append, mem_rng]
        by_cases h' : x.page.toNat ≤ i ∧ i < x.page.toNat + x.many.toNat
        · rw [if_pos h', if_pos (.inr (by omega))]
        · rw [if_neg h']
          by_cases hL : (i : Int) ∈ L
          · rw [if_pos hL, if_pos (.inl hL)]
          · rw [if_neg hL, if_neg]
            rintro (h | h)
            · exact hL h
            · omega
      rcases ih (x.page + x.many) _ _ (by omega) h2 with ⟨h3, t, h4, h5⟩ | ⟨h3, h4⟩
      · refine .inl ⟨?_, t, by rw [ownX, if_neg hx, h4], h5.congr (fun i _ => by simp [xpages, List.append_assoc])⟩
        exact ⟨by omega, h3⟩
      · exact .inr ⟨fun hc => h3 hc.2, by rw [ownX, if_neg hx, h4]⟩

/-- the runs of a file can be laid: in the Space, no page twice, none that is taken -/
def LayOk (size : Int) (g : Nat → Int) (l : List Run) : Prop := RunsOk size l ∧ (rpages l).Nodup ∧ ∀ x ∈ rpages l, g x.toNat = 0
theorem rpages_hole {r : Run} {l : List Run} (h : r.to = -1) : rpages (r :: l) = rpages l := by simp [rpages, h]
theorem rpages_run {r : Run} {l : List Run} (h : r.to ≠ -1) : rpages (r :: l) = rng r.to r.many ++ rpages l := by simp [rpages, h]
theorem ownR_rep {size : Int} {n : Nat} (hn : size = n) {v : Int} (hv : v ≠ 0) (l : List Run) : ∀ (o : List Int) (g : Nat → Int), (∀ r ∈ l, -1 ≤ r.to ∧ 1 ≤ r.many) → (g 0 ≠ 0 ∧ g 1 ≠ 0 ∧ g 2 ≠ 0) → OwnR o g n →
    (LayOk size g l ∧ ∃ t, ownR size v l o = some t ∧ OwnR t (fun i => if (i : Int) ∈ rpages l then v else g i) n) ∨ (¬ LayOk size g l ∧ ownR size v l o = none) := by
  induction l with
  | nil => intro o g _ _ h; exact .inl ⟨⟨fun r hr => by simp at hr, by simp [rpages], fun x hx => by simp [rpages] at hx⟩, o, rfl, h.congr (fun i _ => by simp [rpages])⟩
  | cons r l ih =>
    intro o g hl hg h
    have hr := hl r (by simp)
    have hl' : ∀ r ∈ l, -1 ≤ r.to ∧ 1 ≤ r.many := fun r hr => hl r (by simp [hr])
    by_cases ht : r.to = -1
    · rw [ownR, if_pos ht]
      have hiff : LayOk size g (r :: l) ↔ LayOk size g l := by
        unfold LayOk RunsOk
        rw [rpages_hole ht]
        constructor
        · rintro ⟨a, b, c⟩; exact ⟨fun x hx => a x (by simp [hx]), b, c⟩
        · rintro ⟨a, b, c⟩
          refine ⟨fun x hx => ?_, b, c⟩
          rcases List.mem_cons.1 hx with rfl | hx
          · exact .inl ht
          · exact a x hx
      rw [hiff, rpages_hole ht]
      exact ih o g hl' hg h
    · rw [ownR, if_neg ht]
      by_cases hs : size ≤ r.to ∨ size - r.to < r.many
      · rw [if_pos hs]
        refine .inr ⟨fun hc => ?_, rfl⟩
        have := hc.1 r (by simp)
        omega
      rw [if_neg hs]
      rcases putO_rep h r.to.toNat v r.many.toNat (by omega) with ⟨t, h1, h2, h3⟩ | ⟨h1, i, hi1, hi2, hi3⟩
      rotate_left
      · rw [h1]
        refine .inr ⟨fun hc => ?_, rfl⟩
        have := hc.2.2 (i : Int) (by rw [rpages_run ht]; exact List.mem_append_left _ (mem_rng.2 (by omega)))
        exact hi3 (by simpa using this)
      rw [h1]
      dsimp only
      have h3' : 3 ≤ r.to := by
        have h0 := h3 r.to.toNat (by omega) (by omega)
        by_cases q : 3 ≤ r.to
        · exact q
        · exfalso
          have : r.to.toNat = 0 ∨ r.to.toNat = 1 ∨ r.to.toNat = 2 := by omega
          rcases this with e | e | e <;> rw [e] at h0
          · exact hg.1 h0
          · exact hg.2.1 h0
          · exact hg.2.2 h0
      have hin : ∀ x : Int, 0 ≤ x → ((r.to.toNat ≤ x.toNat ∧ x.toNat < r.to.toNat + r.many.toNat) ↔ x ∈ rng r.to r.many) := fun x hx => by rw [mem_rng]; omega
      have hgz : ∀ k : Nat, k < 3 → ¬ (r.to.toNat ≤ k ∧ k < r.to.toNat + r.many.toNat) := fun k hk => by omega
      rcases ih t _ hl' ⟨by rw [if_neg (hgz 0 (by omega))]; exact hg.1, by rw [if_neg (hgz 1 (by omega))]; exact hg.2.1, by rw [if_neg (hgz 2 (by omega))]; exact hg.2.2⟩ h2 with ⟨⟨c1, c2, c3⟩, t', h4, h5⟩ | ⟨h4, h5⟩
      · have hpos : ∀ x ∈ rpages l, 0 ≤ x := by
          intro x hx
          unfold rpages at hx
          obtain ⟨q, hq, hxq⟩ := List.mem_flatMap.1 hx
          by_cases e : q.to = -1
          · rw [if_pos e] at hxq; simp at hxq
          · rw [if_neg e] at hxq
            have := mem_rng.1 hxq; have := (hl' q hq).1; omega
        have hdis : ∀ x ∈ rpages l, x ∉ rng r.to r.many ∧ g x.toNat = 0 := by
          intro x hx
          have := c3 x hx
          dsimp only at this
          by_cases e : r.to.toNat ≤ x.toNat ∧ x.toNat < r.to.toNat + r.many.toNat
          · rw [if_pos e] at this; exact absurd this hv
          · rw [if_neg e] at this
            exact ⟨fun hc => e ((hin x (hpos x hx)).2 hc), this⟩
        refine .inl ⟨⟨?_, ?_, ?_⟩, t', h4, h5.congr (fun i _ => ?_)⟩
        · intro x hx
          rcases List.mem_cons.1 hx with rfl | hx
          · exact .inr ⟨h3', by omega⟩
          · exact c1 x hx
        · rw [rpages_run ht]
          exact List.nodup_append.2 ⟨nodup_rng _ _, c2, fun a ha b hb e => by subst e; exact (hdis a hb).1 ha⟩
        · rw [rpages_run ht]
          intro x hx
          rcases List.mem_append.1 hx with hx | hx
          · have := mem_rng.1 hx
            exact h3 x.toNat (by omega) (by omega)
          · exact (hdis x hx).2
        · rw [rpages_run ht]
          by_cases e : (i : Int) ∈ rpages l
          · rw [if_pos e, if_pos (List.mem_append_right _ e)]
          · rw [if_neg e]
            by_cases e2 : (i : Int) ∈ rng r.to r.many
            · have e3 := (hin (i : Int) (by omega)).2 e2
              rw [Int.toNat_natCast] at e3
              rw [if_pos e3, if_pos (List.mem_append_left _ e2)]
            · have e3 := fun q => e2 ((hin (i : Int) (by omega)).1 q)
              rw [Int.toNat_natCast] at e3
              rw [if_neg e3, if_neg (fun q => by rcases List.mem_append.1 q with q | q; exact e2 q; exact e q)]
      · refine .inr ⟨fun hc => h4 ?_, h5⟩
        obtain ⟨c1, c2, c3⟩ := hc
        rw [rpages_run ht] at c2 c3
        obtain ⟨_, n2, n3⟩ := List.nodup_append.1 c2
        refine ⟨fun x hx => c1 x (by simp [hx]), n2, fun x hx => ?_⟩
        have hx0 : 0 ≤ x := by
          unfold rpages at hx
          obtain ⟨q, hq, hxq⟩ := List.mem_flatMap.1 hx
          by_cases e : q.to = -1
          · rw [if_pos e] at hxq; simp at hxq
          · rw [if_neg e] at hxq
            have := mem_rng.1 hxq; have := (hl' q hq).1; omega
        dsimp only
        rw [if_neg (fun q => n3 x ((hin x hx0).1 q) x hx rfl)]
        exact c3 x (List.mem_append_right _ hx)

/-- whose a page is, behind the files from i on -/
def ownG : Nat → List Fil → (Nat → Int) → Nat → Int
  | _, [], g => g
  | i, f :: l, g => ownG (i + 1) l (fun j => if (j : Int) ∈ rpages f.runs then (i : Int) + 2 else g j)
theorem rpages_pos {l : List Run} (h : ∀ r ∈ l, -1 ≤ r.to) : ∀ x ∈ rpages l, 0 ≤ x := by
  intro x hx
  unfold rpages at hx
  obtain ⟨q, hq, hxq⟩ := List.mem_flatMap.1 hx
  by_cases e : q.to = -1
  · rw [if_pos e] at hxq; simp at hxq
  · rw [if_neg e] at hxq
    have := mem_rng.1 hxq; have := h q hq; omega
theorem filOk_pos {size no : Int} {l : List Fil} (h : FilOk size no l) : ∀ x ∈ fpages l, 0 ≤ x := by
  induction l generalizing no with
  | nil => intro x hx; simp [fpages] at hx
  | cons f l ih =>
    intro x hx
    have hx' : x ∈ rpages f.runs ++ fpages l := by simpa [fpages] using hx
    rcases List.mem_append.1 hx' with hx | hx
    · exact rpages_pos (fun r hr => ((mustE_zero h.1.2.2.1).2.1 r hr).2.2.1) x hx
    · exact ih h.2.2 x hx
def FilesOk (size no : Int) (g : Nat → Int) (l : List Fil) : Prop := FilOk size no l ∧ (fpages l).Nodup ∧ ∀ x ∈ fpages l, g x.toNat = 0
theorem ownF_rep {size : Int} {n : Nat} (hn : size = n) (l : List Fil) : ∀ (i : Nat) (no : Int) (o : List Int) (g : Nat → Int), (g 0 ≠ 0 ∧ g 1 ≠ 0 ∧ g 2 ≠ 0) → OwnR o g n →
    (FilesOk size no g l ∧ ∃ t, ownF size i l no o = some t ∧ OwnR t (ownG i l g) n) ∨ (¬ FilesOk size no g l ∧ ownF size i l no o = none) := by
  induction l with
  | nil => intro i no o g _ h; exact .inl ⟨⟨trivial, by simp [fpages], fun x hx => by simp [fpages] at hx⟩, o, rfl, h⟩
  | cons f l ih =>
    intro i no o g hg h
    have hfp : fpages (f :: l) = rpages f.runs ++ fpages l := by simp [fpages]
    by_cases hf : no < f.no ∧ f.no ≤ 1073741824 ∧ mustE f.runs = 0 ∧ normL f.runs = f.runs
    rotate_left
    · exact .inr ⟨fun hc => hf hc.1.1, by rw [ownF, if_neg hf]⟩
    have hz := mustE_zero hf.2.2.1
    rw [ownF, if_pos hf]
    rcases ownR_rep hn (v := (i : Int) + 2) (by omega) f.runs o g (fun r hr => ⟨(hz.2.1 r hr).2.2.1, (hz.2.1 r hr).1⟩) hg h with ⟨⟨a1, a2, a3⟩, t, h1, h2⟩ | ⟨h1, h2⟩
    rotate_left
    · rw [h2]
      refine .inr ⟨fun hc => h1 ?_, rfl⟩
      obtain ⟨c1, c2, c3⟩ := hc
      rw [hfp] at c2 c3
      exact ⟨c1.2.1, (List.nodup_append.1 c2).1, fun x hx => c3 x (List.mem_append_left _ hx)⟩
    rw [h1]
    dsimp only
    have hne : ∀ k : Nat, k < 3 → (k : Int) ∉ rpages f.runs := by
      intro k hk hc
      have := a3 _ hc
      rw [Int.toNat_natCast] at this
      have hk3 : k = 0 ∨ k = 1 ∨ k = 2 := by omega
      rcases hk3 with rfl | rfl | rfl
      · exact hg.1 this
      · exact hg.2.1 this
      · exact hg.2.2 this
    have hg' : ∀ k : Nat, k < 3 → g k ≠ 0 → (if (k : Int) ∈ rpages f.runs then (i : Int) + 2 else g k) ≠ 0 := fun k hk h => by rw [if_neg (hne k hk)]; exact h
    rcases ih (i + 1) f.no t _ ⟨hg' 0 (by omega) hg.1, hg' 1 (by omega) hg.2.1, hg' 2 (by omega) hg.2.2⟩ h2 with ⟨⟨c1, c2, c3⟩, t', h4, h5⟩ | ⟨h4, h5⟩
    · have hdis : ∀ x ∈ fpages l, x ∉ rpages f.runs ∧ g x.toNat = 0 := by
        intro x hx
        have h0 := filOk_pos c1 x hx
        have := c3 x hx
        dsimp only at this
        rw [Int.toNat_of_nonneg h0] at this
        by_cases e : x ∈ rpages f.runs
        · rw [if_pos e] at this; omega
        · rw [if_neg e] at this; exact ⟨e, this⟩
      refine .inl ⟨⟨⟨hf, a1, c1⟩, ?_, ?_⟩, t', h4, h5⟩
      · rw [hfp]
        exact List.nodup_append.2 ⟨a2, c2, fun a ha b hb e => by subst e; exact (hdis a hb).1 ha⟩
      · rw [hfp]
        intro x hx
        rcases List.mem_append.1 hx with hx | hx
        · exact a3 x hx
        · exact (hdis x hx).2
    · refine .inr ⟨fun hc => h4 ?_, h5⟩
      obtain ⟨c1, c2, c3⟩ := hc
      rw [hfp] at c2 c3
      obtain ⟨_, n2, n3⟩ := List.nodup_append.1 c2
      refine ⟨c1.2.2, n2, fun x hx => ?_⟩
      have h0 := filOk_pos c1.2.2 x hx
      dsimp only
      rw [Int.toNat_of_nonneg h0, if_neg (fun q => n3 x q x hx rfl)]
      exact c3 x (List.mem_append_right _ hx)

theorem fixOk_nodup {size : Int} (l : List Ext) : ∀ e : Int, FixOk size e l → (xpages l).Nodup ∧ ∀ x ∈ xpages l, e ≤ x := by
  induction l with
  | nil => intro e _; exact ⟨by simp [xpages], fun x hx => by simp [xpages] at hx⟩
  | cons y l ih =>
    intro e h
    obtain ⟨⟨h1, h2, h3, h4⟩, h5⟩ := h
    obtain ⟨i1, i2⟩ := ih _ h5
    have hx : xpages (y :: l) = rng y.page y.many ++ xpages l := by simp [xpages]
    rw [hx]
    refine ⟨List.nodup_append.2 ⟨nodup_rng _ _, i1, fun a ha b hb e => ?_⟩, fun x hx => ?_⟩
    · subst e
      have := mem_rng.1 ha; have := i2 a hb; omega
    · rcases List.mem_append.1 hx with hx | hx
      · have := mem_rng.1 hx; omega
      · have := i2 x hx; omega

/-- whose the pages of a picture are -/
def ownP (p : Pic) : Nat → Int := ownG 0 p.files (fun i => if (i : Int) ∈ xpages p.fixed then 1 else 0)
theorem own_both (p : Pic) : (OpenOk p ∧ ∃ t, ownL p = some t ∧ OwnR t (ownP p) p.size.toNat) ∨ (¬ OpenOk p ∧ ownL p = none) := by
  by_cases h0 : 4 ≤ p.size ∧ p.size ≤ 768 ∧ p.fixed.length ≤ 200 ∧ p.files.length ≤ 200
  rotate_left
  · exact .inr ⟨fun hc => h0 ⟨hc.size.1, hc.size.2, hc.nfix, hc.nfil⟩, by rw [ownL, if_neg h0]⟩
  have hn : p.size = (p.size.toNat : Int) := by omega
  rw [ownL, if_pos h0]
  rcases ownX_rep hn p.fixed 0 (List.replicate p.size.toNat 0) [] (Int.le_refl _) ((own_empty _).congr (fun i _ => by simp)) with ⟨a1, t, a2, a3⟩ | ⟨a1, a2⟩
  rotate_left
  · rw [a2]; exact .inr ⟨fun hc => a1 hc.fix, rfl⟩
  rw [a2]
  dsimp only
  have a3 : OwnR t (fun i => if (i : Int) ∈ xpages p.fixed then 1 else 0) p.size.toNat := a3.congr (fun i _ => by simp)
  have hk : ∀ k : Nat, k < 3 → (t[k]? = some 1 ↔ (k : Int) ∈ xpages p.fixed) := by
    intro k hk
    rw [a3.2 k (by omega)]
    by_cases e : (k : Int) ∈ xpages p.fixed <;> simp [e]
  have k0 := hk 0 (by omega); have k1 := hk 1 (by omega); have k2 := hk 2 (by omega)
  by_cases h1 : t[0]? = some 1 ∧ t[1]? = some 1 ∧ t[2]? = some 1
  rotate_left
  · rw [if_neg h1]
    exact .inr ⟨fun hc => h1 ⟨k0.2 hc.first.1, k1.2 hc.first.2.1, k2.2 hc.first.2.2⟩, rfl⟩
  rw [if_pos h1]
  have f0 := k0.1 h1.1; have f1 := k1.1 h1.2.1; have f2 := k2.1 h1.2.2
  rcases ownF_rep hn p.files 0 (-1) t _ ⟨by rw [if_pos f0]; decide, by rw [if_pos f1]; decide, by rw [if_pos f2]; decide⟩ a3 with ⟨⟨c1, c2, c3⟩, t', h4, h5⟩ | ⟨h4, h5⟩
  · refine .inl ⟨?_, t', h4, h5⟩
    refine ⟨⟨h0.1, h0.2.1⟩, h0.2.2.1, h0.2.2.2, a1, ⟨f0, f1, f2⟩, c1, ?_⟩
    refine List.nodup_append.2 ⟨(fixOk_nodup _ _ a1).1, c2, fun a ha b hb e => ?_⟩
    subst e
    have := c3 a hb
    dsimp only at this
    rw [Int.toNat_of_nonneg (filOk_pos c1 a hb), if_pos ha] at this
    exact absurd this (by decide)
  · refine .inr ⟨fun hc => h4 ⟨hc.fil, ?_, ?_⟩, h5⟩
    · exact (List.nodup_append.1 hc.nodup).2.1
    · intro x hx
      have hp := filOk_pos hc.fil x hx
      dsimp only
      rw [Int.toNat_of_nonneg hp, if_neg (fun q => (List.nodup_append.1 hc.nodup).2.2 x q x hx rfl)]
theorem own_ok {p : Pic} (h : OpenOk p) : ∃ t, ownL p = some t ∧ OwnR t (ownP p) p.size.toNat := by
  rcases own_both p with ⟨_, h2⟩ | ⟨h1, _⟩
  · exact h2
  · exact absurd h h1
theorem own_bad {p : Pic} (h : ¬ OpenOk p) : ownL p = none := by
  rcases own_both p with ⟨h1, _⟩ | ⟨_, h2⟩
  · exact absurd h1 h
  · exact h2
/-- the specification finds a picture right just where the program does -/
theorem own_open (p : Pic) : (ownL p = none ↔ openL p = none) := by
  by_cases h : OpenOk p
  · obtain ⟨t, h1, _⟩ := own_ok h
    obtain ⟨tk, h2, _⟩ := open_ok h
    rw [h1, h2]; simp
  · rw [own_bad h, open_bad h]; exact ⟨fun _ => rfl, fun _ => rfl⟩
end Go.Proofs.Yteipclnlfanfeaa
