/- move: what plans reach; no code here. -/
import Derived.Test.YteipclnlfanfeaaPureX
set_option linter.unusedVariables false
set_option linter.unusedSimpArgs false
namespace Go.Proofs.Yteipclnlfanfeaa

theorem path_steps {l : List Step} : ∀ {s s' : Spc}, applyAll s l = .ok s' → s'.steps = s.steps ++ l := by
  induction l with
  | nil => intro s s' h; simp [applyAll] at h; subst h; simp
  | cons x l ih =>
    intro s s' h
    simp only [applyAll] at h
    split at h
    · rename_i s1 h1
      rw [ih h, applyL_steps h1]; simp
    · cases h
theorem path_inv {l : List Step} : ∀ {s s' : Spc}, Inv s → applyAll s l = .ok s' → Inv s' := by
  induction l with
  | nil => intro s s' hi h; simp [applyAll] at h; subst h; exact hi
  | cons x l ih =>
    intro s s' hi h
    simp only [applyAll] at h
    split at h
    · rename_i s1 h1; exact ih (inv_applyL hi h1) h
    · cases h
theorem path_cons {s s1 s' : Spc} {x : Step} {l : List Step} (h : applyL s x = .ok s1) (h' : applyAll s1 l = .ok s') : applyAll s (x :: l) = .ok s' := by
  simp only [applyAll, h]; exact h'
theorem path_append {l m : List Step} : ∀ {s s1 s' : Spc}, applyAll s l = .ok s1 → applyAll s1 m = .ok s' → applyAll s (l ++ m) = .ok s' := by
  induction l with
  | nil => intro s s1 s' h h'; simp [applyAll] at h; subst h; exact h'
  | cons x l ih =>
    intro s s1 s' h h'
    simp only [applyAll] at h
    split at h
    · rename_i s2 h2; exact path_cons h2 (ih h h')
    · cases h
/-- a path from an opened picture is what Run does -/
theorem path_run {p : Pic} {s s' : Spc} {l : List Step} (ho : openL p = some s) (h : applyAll s l = .ok s') (hl : l.length ≤ 5000) : runP p l = (s'.pic, 0) := by
  unfold runP; rw [ho]; dsimp only; rw [if_pos hl, h]

/-- Compact: its path, and that nothing is left behind it -/
theorem compact_path : ∀ (n : Nat) (s : Spc), Inv s → msr s.tk ≤ n → ∃ s' l, compactL n s = .ok s' ∧ applyAll s l = .ok s' ∧ l.length ≤ msr s.tk ∧ cpDone s' := by
  intro n
  induction n with
  | zero =>
    intro s hi hn
    refine ⟨s, [], rfl, rfl, by simp, ?_⟩
    unfold cpDone
    by_cases h : idxF s.tk < 0
    · exact .inl h
    · exfalso
      unfold msr at hn
      rw [if_neg h] at hn
      rcases idxF_spec s.tk with ⟨h1, _⟩ | ⟨k, hk, e1, _⟩
      · omega
      · omega
  | succ n ih =>
    intro s hi hn
    unfold compactL
    by_cases hd : idxF s.tk < 0 ∨ (lastL s.pic.files).1 < idxF s.tk
    · rw [if_pos hd]
      exact ⟨s, [], rfl, rfl, by simp, hd⟩
    · rw [if_neg hd]
      obtain ⟨s1, h1, h2, h3⟩ := cp_step hi hd
      obtain ⟨s', l, g1, g2, g3, g4⟩ := ih s1 h2 (by omega)
      rw [h1]
      exact ⟨s', cpStep s :: l, g1, path_cons h1 g2, by simp only [List.length_cons]; omega, g4⟩
theorem compact_done {n : Nat} {s : Spc} (h : cpDone s) : compactL n s = .ok s := by
  cases n with
  | zero => rfl
  | succ n =>
    unfold compactL
    unfold cpDone at h
    rw [if_pos h]
/-- Compact's plan: made by Run; behind it Compact has no steps -/
theorem compact_reach {p : Pic} {s : Spc} (ho : openL p = some s) : ∃ s' l, compactP p = (l, 0) ∧ runP p l = (s'.pic, 0) ∧ Inv s' ∧ cpDone s' ∧ compactP s'.pic = ([], 0) := by
  obtain ⟨hi, hp, hst⟩ := inv_open ho
  have hsz := hi.ok.size
  have hml := msr_le s.tk
  have htl : s.tk.length = s.pic.size.toNat := hi.rep.1
  obtain ⟨s', l, h1, h2, h3, h4⟩ := compact_path 1000 s hi (by omega)
  have hi' := path_inv hi h2
  have hs' := path_steps h2
  rw [hst, List.nil_append] at hs'
  refine ⟨s', l, ?_, path_run ho h2 (by omega), hi', h4, ?_⟩
  · unfold compactP; rw [ho]; dsimp only; rw [h1]; dsimp only; rw [hs']
  · unfold compactP; rw [open_inv hi']; dsimp only; rw [compact_done (s := ⟨s'.pic, s'.tk, []⟩) h4]

/-- the first extent of free pages begins at the first free page -/
theorem freeGo_first (l : List Bool) : ∀ (a n : Nat) (x : Ext) (r : List Ext), freeGo a l n = x :: r → (0 < n → x.page = (a : Int) - n) ∧ (n = 0 → ∃ k, k < l.length ∧ x.page = (a : Int) + k ∧ l[k]? = some false ∧ ∀ j, j < k → l[j]? = some true) := by
  induction l with
  | nil =>
    intro a n x r h
    cases n with
    | zero => simp [freeGo] at h
    | succ n => simp only [freeGo, List.cons.injEq] at h; obtain ⟨rfl, _⟩ := h; exact ⟨fun _ => rfl, fun h => by omega⟩
  | cons b l ih =>
    intro a n x r h
    cases b with
    | true =>
      cases n with
      | zero =>
        simp only [freeGo] at h
        obtain ⟨h1, h2⟩ := ih (a + 1) 0 x r h
        refine ⟨fun h => by omega, fun _ => ?_⟩
        obtain ⟨k, e1, e2, e3, e4⟩ := h2 rfl
        refine ⟨k + 1, by simp; omega, by omega, by simpa using e3, fun j hj => ?_⟩
        cases j with
        | zero => rfl
        | succ j => simpa using e4 j (by omega)
      | succ n => simp only [freeGo, List.cons.injEq] at h; obtain ⟨rfl, _⟩ := h; exact ⟨fun _ => rfl, fun h => by omega⟩
    | false =>
      have h' : freeGo (a + 1) l (n + 1) = x :: r := by cases n <;> simpa [freeGo] using h
      obtain ⟨h1, h2⟩ := ih (a + 1) (n + 1) x r h'
      have h1 := h1 (by omega)
      refine ⟨fun _ => by omega, fun hn => ⟨0, by simp, by omega, rfl, fun j hj => by omega⟩⟩
theorem freeL_first {tk : List Bool} {x : Ext} {r : List Ext} (h : freeL tk tk.length = x :: r) : x.page = idxF tk := by
  unfold freeL at h
  rw [List.take_length] at h
  obtain ⟨k, e1, e2, e3, e4⟩ := (freeGo_first tk 0 0 x r h).2 rfl
  rcases idxF_spec tk with ⟨_, h2⟩ | ⟨j, hj, f1, f2, f3⟩
  · rw [h2 k e1] at e3; cases e3
  · rw [f1, e2]
    have : j = k := by
      rcases Nat.lt_trichotomy j k with g | g | g
      · rw [e4 j g] at f2; cases f2
      · exact g
      · rw [f3 k g] at e3; cases e3
    omega
/-- behind Compact no free page lies ahead of a page of a file -/
theorem compact_room {s : Spc} (hi : Inv s) (hd : cpDone s) {f : Fil} (hf : f ∈ s.pic.files) {r : Run} (hr : r ∈ f.runs) (ht : 0 ≤ r.to) {x : Ext} {l : List Ext} (hx : freeL s.tk s.pic.size.toNat = x :: l) : ¬ x.page < r.to := by
  have htl : s.tk.length = s.pic.size.toNat := hi.rep.1
  rw [← htl] at hx
  rw [freeL_first hx]
  have hm := (mustE_zero ((filOk_iff.1 hi.ok.fil).2 f hf).1).2.1 r hr
  have hin : r.to ∈ fpages s.pic.files := List.mem_flatMap.2 ⟨f, hf, List.mem_flatMap.2 ⟨r, hr, by rw [if_neg (by omega)]; exact mem_rng.2 (by omega)⟩⟩
  rcases lastL_spec hi with ⟨_, h2⟩ | ⟨_, _, hmax⟩
  · rw [h2] at hin; simp at hin
  · have := hmax _ hin
    rcases hd with h | h
    · unfold freeL at hx
      rw [List.take_length] at hx
      obtain ⟨k, e1, e2, e3, e4⟩ := (freeGo_first s.tk 0 0 x l hx).2 rfl
      rcases idxF_spec s.tk with ⟨_, h2⟩ | ⟨j, hj, f1, _⟩
      · rw [h2 k e1] at e3; cases e3
      · omega
    · omega

/-- how many fragments pages make -/
def cntP (e : Int) : List Int → Int
  | [] => 0
  | q :: l => (if q = e then 0 else 1) + cntP (q + 1) l
theorem cntP_rng (m : Nat) : ∀ (a : Int) (L : List Int), cntP a (rng a m ++ L) = cntP (a + m) L := by
  induction m with
  | zero => intro a L; simp [rng]
  | succ m ih =>
    intro a L
    have e : rng a ((m + 1 : Nat) : Int) = a :: rng (a + 1) m := by
      unfold rng
      rw [show ((m + 1 : Nat) : Int).toNat = m + 1 by omega, show ((m : Nat) : Int).toNat = m by omega, List.range_succ_eq_map, List.map_cons, List.map_map]
      congr 1
      · simp
      · apply List.map_congr_left
        intro i _
        simp only [Function.comp_apply]
        omega
    rw [e, List.cons_append]
    simp only [cntP, if_true]
    rw [ih (a + 1) L, show a + 1 + (m : Int) = a + ((m + 1 : Nat) : Int) by omega]
    omega
theorem cntP_rng1 {e a m : Int} (hm : 1 ≤ m) (L : List Int) : cntP e (rng a m ++ L) = (if a = e then 0 else 1) + cntP (a + m) L := by
  obtain ⟨n, hn⟩ := Int.eq_ofNat_of_zero_le (show 0 ≤ m - 1 by omega)
  have e1 : rng a m = a :: rng (a + 1) n := by
    unfold rng
    rw [show m.toNat = n + 1 by omega, show ((n : Nat) : Int).toNat = n by omega, List.range_succ_eq_map, List.map_cons, List.map_map]
    congr 1
    · simp
    · apply List.map_congr_left
      intro i _
      simp only [Function.comp_apply]
      omega
  rw [e1, List.cons_append]
  simp only [cntP]
  rw [cntP_rng n (a + 1) L, show a + 1 + (n : Int) = a + m by omega]
/-- the fragments of runs are those of their pages -/
theorem fragL_pages (l : List Run) (h : ∀ r ∈ l, 1 ≤ r.many) : ∀ e : Int, fragL e l = cntP e (rpages l) := by
  induction l with
  | nil => intro e; rfl
  | cons r l ih =>
    intro e
    have ih := ih (fun x hx => h x (by simp [hx]))
    have hr := h r (by simp)
    by_cases ht : r.to = -1
    · rw [rpages_hole ht]
      simp only [fragL, if_pos ht]
      exact ih e
    · rw [rpages_run ht, cntP_rng1 hr]
      simp only [fragL, if_neg ht]
      rw [ih]
theorem cntP_nonneg (L : List Int) : ∀ e, 0 ≤ cntP e L := by
  induction L with
  | nil => intro e; exact Int.le_refl _
  | cons q L ih => intro e; have := ih (q + 1); simp only [cntP]; split <;> omega
end Go.Proofs.Yteipclnlfanfeaa
