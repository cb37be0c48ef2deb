/- MoveC, MoveD, MoveE, MoveO, RunsK in one text. -/
import Derived.Test.YteipclnlfanfeaaBaseC
import Derived.Laws.StructEq
import Derived.Deep.QuietTactic
import Derived.BigQuiet
import Derived.Deep.CutRange
import Derived.Laws.OwnMore
set_option linter.unusedVariables false
set_option linter.unusedSimpArgs false
/- move: copied. -/
namespace Go.Proofs.Yteipclnlfanfeaa
open Go.RowKit

theorem oneCell_E (l : List Ext) : ∀ u ∈ flatE l, u.oneCell' = true := by
  induction l with
  | nil => intro u h; simp [flatE] at h
  | cons r l ih => intro u h; simp only [flatE, List.mem_cons] at h; rcases h with rfl | rfl | h; rfl; rfl; exact ih u h
theorem oneCell_R (l : List Run) : ∀ u ∈ flatR l, u.oneCell' = true := by
  induction l with
  | nil => intro u h; simp [flatR] at h
  | cons r l ih => intro u h; simp only [flatR, List.mem_cons] at h; rcases h with rfl | rfl | h; rfl; rfl; exact ih u h

theorem get_pairs {xs : List Value} {n : Nat} {f g : Nat → Value} (hl : xs.length = n * 2) (h : ∀ k, k < n → xs[k * 2]? = some (f k) ∧ xs[k * 2 + 1]? = some (g k)) {P : Nat → Value → Prop}
    (h0 : ∀ k, k < n → P (k * 2) (f k)) (h1 : ∀ k, k < n → P (k * 2 + 1) (g k)) : ∀ j u, xs[j]? = some u → P j u := by
  intro j u hu
  have hj : j < xs.length := (List.getElem?_eq_some_iff.1 hu).1
  rcases Nat.mod_two_eq_zero_or_one j with hm | hm
  · obtain ⟨k, rfl⟩ : ∃ k, j = k * 2 := ⟨j / 2, by omega⟩
    have hk : k < n := by omega
    rw [(h k hk).1] at hu; cases hu; exact h0 k hk
  · obtain ⟨k, rfl⟩ : ∃ k, j = k * 2 + 1 := ⟨j / 2, by omega⟩
    have hk : k < n := by omega
    rw [(h k hk).2] at hu; cases hu; exact h1 k hk

theorem ExtC.src {w : World} {A : Option Addr} {l : List Ext} (h : ExtC w A l) : SrcC w A l.length (flatE l) := by
  refine ⟨flatE_length l, oneCell_E l, ?_⟩
  by_cases h0 : l.length = 0
  · exact .inl h0
  · obtain ⟨b, o, rfl, _⟩ := h 0 (by omega)
    refine .inr ⟨b, o, rfl, ?_⟩
    intro j u hu
    have hj : j < (flatE l).length := (List.getElem?_eq_some_iff.1 hu).1
    rw [flatE_length] at hj
    rcases Nat.mod_two_eq_zero_or_one j with hm | hm
    · obtain ⟨k, rfl⟩ : ∃ k, j = k * 2 := ⟨j / 2, by omega⟩
      have hk : k < l.length := by omega
      obtain ⟨b', o', hA, c0, c1⟩ := h k hk
      cases hA
      rw [(flatE_get l k hk).1] at hu; cases hu; exact c0
    · obtain ⟨k, rfl⟩ : ∃ k, j = k * 2 + 1 := ⟨j / 2, by omega⟩
      have hk : k < l.length := by omega
      obtain ⟨b', o', hA, c0, c1⟩ := h k hk
      cases hA
      rw [(flatE_get l k hk).2] at hu; cases hu; rw [← Nat.add_assoc]; exact c1
theorem RunsC.src {w : World} {A : Option Addr} {l : List Run} (h : RunsC w A l) : SrcC w A l.length (flatR l) := by
  refine ⟨flatR_length l, oneCell_R l, ?_⟩
  by_cases h0 : l.length = 0
  · exact .inl h0
  · obtain ⟨b, o, rfl, _⟩ := h 0 (by omega)
    refine .inr ⟨b, o, rfl, ?_⟩
    intro j u hu
    have hj : j < (flatR l).length := (List.getElem?_eq_some_iff.1 hu).1
    rw [flatR_length] at hj
    rcases Nat.mod_two_eq_zero_or_one j with hm | hm
    · obtain ⟨k, rfl⟩ : ∃ k, j = k * 2 := ⟨j / 2, by omega⟩
      have hk : k < l.length := by omega
      obtain ⟨b', o', hA, c0, c1⟩ := h k hk
      cases hA
      rw [(flatR_get l k hk).1] at hu; cases hu; exact c0
    · obtain ⟨k, rfl⟩ : ∃ k, j = k * 2 + 1 := ⟨j / 2, by omega⟩
      have hk : k < l.length := by omega
      obtain ⟨b', o', hA, c0, c1⟩ := h k hk
      cases hA
      rw [(flatR_get l k hk).2] at hu; cases hu; rw [← Nat.add_assoc]; exact c1

/-- the values of the cells of a slice of files -/
def flatF : List (Fil × Option Addr × Nat) → List Value
  | [] => []
  | x :: l => .int .i64 x.1.no :: .slice x.2.1 x.1.runs.length x.2.2 :: flatF l
theorem flatF_length (l : List (Fil × Option Addr × Nat)) : (flatF l).length = l.length * 2 := by
  induction l with
  | nil => rfl
  | cons r l ih => simp [flatF, ih]; omega
theorem flatF_get (l : List (Fil × Option Addr × Nat)) (k : Nat) (h : k < l.length) : (flatF l)[k * 2]? = some (.int .i64 l[k].1.no) ∧ (flatF l)[k * 2 + 1]? = some (.slice l[k].2.1 l[k].1.runs.length l[k].2.2) := by
  induction l generalizing k with
  | nil => simp at h
  | cons r l ih =>
    cases k with
    | zero => simp [flatF]
    | succ k =>
      have := ih k (by simpa using h)
      rw [show (k + 1) * 2 = k * 2 + 1 + 1 by omega]
      simpa [flatF] using this
theorem oneCell_F (l : List (Fil × Option Addr × Nat)) : ∀ u ∈ flatF l, u.oneCell' = true := by
  induction l with
  | nil => intro u h; simp [flatF] at h
  | cons r l ih => intro u h; simp only [flatF, List.mem_cons] at h; rcases h with rfl | rfl | h; rfl; rfl; exact ih u h

/-- a list of choices -/
theorem choose_list {α β : Type} {p : α → β → Prop} : ∀ (l : List α), (∀ x ∈ l, ∃ y, p x y) → ∃ m : List (α × β), m.map Prod.fst = l ∧ ∀ z ∈ m, p z.1 z.2
  | [], _ => ⟨[], rfl, by simp⟩
  | x :: l, h => by
    obtain ⟨y, hy⟩ := h x (by simp)
    obtain ⟨m, hm, hm2⟩ := choose_list l (fun x hx => h x (by simp [hx]))
    exact ⟨(x, y) :: m, by simp [hm], fun z hz => by
      rcases List.mem_cons.1 hz with rfl | hz
      · exact hy
      · exact hm2 z hz⟩

theorem choose_get {α β : Type} (l : List α) {p : (k : Nat) → (h : k < l.length) → β → Prop} (h : ∀ k (hk : k < l.length), ∃ y, p k hk y) : ∃ m : List (α × β), ∃ hm : m.map Prod.fst = l, ∀ k (hk : k < l.length), p k hk (m[k]'(by rw [← hm] at hk; simpa using hk)).2 := by
  classical
  refine ⟨List.ofFn fun i : Fin l.length => (l[i], Classical.choose (h i.1 i.2)), ?_, ?_⟩
  · apply List.ext_getElem
    · simp
    · intro i h1 h2; simp
  · intro k hk
    simp only [List.getElem_ofFn]
    exact Classical.choose_spec (h k hk)

theorem FilC.src {w : World} {A : Option Addr} {l : List Fil} (h : FilC w A l) : ∃ m : List (Fil × Option Addr × Nat), m.map Prod.fst = l ∧ (∀ z ∈ m, RunsC w z.2.1 z.1.runs) ∧ SrcC w A l.length (flatF m) := by
  have h' : ∀ k (hk : k < l.length), ∃ y : Option Addr × Nat, ∃ b o, A = some ⟨b, o, none⟩ ∧ w.cell? ⟨b, o + k * 2, none⟩ = some (.int .i64 l[k].no) ∧ w.cell? ⟨b, o + k * 2 + 1, none⟩ = some (.slice y.1 l[k].runs.length y.2) ∧ RunsC w y.1 l[k].runs := by
    intro k hk
    obtain ⟨b, o, A', c', hA, h1, h2, h3⟩ := h k hk
    exact ⟨(A', c'), b, o, hA, h1, h2, h3⟩
  obtain ⟨m, hm, hp⟩ := choose_get l h'
  subst hm
  have hlen : (m.map Prod.fst).length = m.length := by simp
  refine ⟨m, rfl, ?_, ?_⟩
  · intro z hz
    obtain ⟨k, hk, rfl⟩ := List.getElem_of_mem hz
    obtain ⟨b, o, _, _, _, h4⟩ := hp k (by simpa using hk)
    simpa using h4
  · rw [hlen]
    refine ⟨flatF_length m, oneCell_F m, ?_⟩
    by_cases h0 : m.length = 0
    · exact .inl h0
    · obtain ⟨b, o, hA, _⟩ := hp 0 (by simp; omega)
      refine .inr ⟨b, o, hA, ?_⟩
      intro j u hu
      have hj : j < (flatF m).length := (List.getElem?_eq_some_iff.1 hu).1
      rw [flatF_length] at hj
      rcases Nat.mod_two_eq_zero_or_one j with hm' | hm'
      · obtain ⟨k, rfl⟩ : ∃ k, j = k * 2 := ⟨j / 2, by omega⟩
        have hk : k < m.length := by omega
        obtain ⟨b', o', hA', c0, c1, _⟩ := hp k (by simpa using hk)
        rw [hA] at hA'; cases hA'
        rw [(flatF_get m k hk).1] at hu; cases hu; simpa using c0
      · obtain ⟨k, rfl⟩ : ∃ k, j = k * 2 + 1 := ⟨j / 2, by omega⟩
        have hk : k < m.length := by omega
        obtain ⟨b', o', hA', c0, c1, _⟩ := hp k (by simpa using hk)
        rw [hA] at hA'; cases hA'
        rw [(flatF_get m k hk).2] at hu; cases hu; rw [← Nat.add_assoc]; simpa using c1

def CopyPost (p : Pic) (w : World) (e : Ending) (w' : World) : Prop :=
  (∃ F Ax cx Fa cf, w.heap.size ≤ F ∧ F < w'.heap.size ∧ e = .returned (.agg #[.int .i64 p.size, .slice Ax p.fixed.length cx, .slice Fa p.files.length cf]) ∧ ExtT w' Ax p.fixed ∧ FilT w' F Fa p.files) ∧ Below w.heap.size w w'

theorem cell_at {w : World} {b : Nat} {cs : Array Value} {t : TypeId} (h : w.heap[b]? = some (.cells cs t (0, 0))) (i : Nat) : w.cell? ⟨b, i, none⟩ = cs[i]? := by simp [World.cell?, h]
theorem free_at {w : World} {b : Nat} {cs : Array Value} {t : TypeId} (h : w.heap[b]? = some (.cells cs t (0, 0))) (i : Nat) : w.frozen? ⟨b, i, none⟩ = false := by simp [World.frozen?, h]
theorem SrcC.below {w w' : World} {A : Option Addr} {n : Nat} {xs : List Value} (h : SrcC w A n xs) (hB : Below w.heap.size w w') : SrcC w' A n xs := by
  obtain ⟨h1, h2, h3⟩ := h
  refine ⟨h1, h2, ?_⟩
  rcases h3 with h0 | ⟨b, o, hA, hc⟩
  · exact .inl h0
  · exact .inr ⟨b, o, hA, fun j u hu => cell_below (hc j u hu) hB⟩

/-- the files in the block F, of which the first k have runs of their own -/
def FilW (w wr : World) (n0 F : Nat) (m : List (Fil × Option Addr × Nat)) (k : Nat) : Prop :=
  ∃ m' : List (Fil × Option Addr × Nat), m'.map Prod.fst = m.map Prod.fst ∧ (∃ cs : Array Value, wr.heap[F]? = some (.cells cs 46 (0, 0)) ∧ ∀ (j : Nat) (u : Value), (flatF m')[j]? = some u → cs[j]? = some u) ∧
    (∀ j (h : j < m'.length), j < k → RunsT wr m'[j].2.1 m'[j].1.runs) ∧ (∀ j (h : j < m'.length), k ≤ j → RunsC w m'[j].2.1 m'[j].1.runs)

set_option maxRecDepth 100000 in
set_option maxHeartbeats 1000000 in
theorem copied_any (p : Pic) (v : Value) (w : World) (hp : PicC w v p) (hn1 : p.fixed.length ≤ 1099511627776) (hn2 : p.files.length ≤ 1099511627776) (hn3 : ∀ f ∈ p.files, f.runs.length ≤ 1099511627776) :
    Calls Try.prog 71 #[v] w (CopyPost p w) := by
  obtain ⟨Ax, cx, Fa, cf, rfl, hx, hf⟩ := hp
  obtain ⟨m, hm, hmr, hms⟩ := hf.src
  have Hms := Lib.hid hms; clear hms
  have Hm := Lib.hid hm; clear hm
  have Hmr := Lib.hid hmr; clear hmr
  have Hn3 := Lib.hid hn3; clear hn3
  go_enter Try.func71, Try.ntmps71
  go_wp2_with fail
  obtain ⟨n0, hn0⟩ : ∃ n, w.heap.size = n := ⟨_, rfl⟩
  have Hn0 := Lib.hid hn0
  have hB0 : Below w.heap.size w ((w.alloc (.cells #[.int .i64 p.size, .slice Ax p.fixed.length cx, .slice Fa p.files.length cf] 25)).alloc (.cells #[.int .i64 0, .slice none 0 0, .slice none 0 0] 25)) := below_alloc (below_alloc (Below.refl _ _) _) _
  have hP0 := heap_alloc_old' (World.alloc_heap_new w (.cells #[.int .i64 p.size, .slice Ax p.fixed.length cx, .slice Fa p.files.length cf] 25)) (.cells #[.int .i64 0, .slice none 0 0, .slice none 0 0] 25)
  have hR0 := heap_new (w.alloc (.cells #[.int .i64 p.size, .slice Ax p.fixed.length cx, .slice Fa p.files.length cf] 25)) (.cells #[.int .i64 0, .slice none 0 0, .slice none 0 0] 25) (n := w.heap.size + 1) (by simp)
  refine (clone89_any _ (flatE p.fixed) _ _ _ hn1 (hx.src.below hB0)).mono ?_
  rintro e w1 ⟨⟨A1, c1, rfl, hown1⟩, hB1⟩
  have hX1 := ExtT.of_owns hown1
  have hP1 := block_below hP0 hB1
  have hR1 := block_below hR0 hB1
  have hBw1 := below_then hB0 hB1
  clear hown1 hB1 hP0 hR0 hB0 hx
  rw [hn0] at hP1 hR1 ⊢
  have hlt1 := lt_of_block hR1
  have d0 := cell_at hP1 0; have d1 := cell_at hP1 1; have d2 := cell_at hP1 2
  have z1 := free_at hP1 1; have z2 := free_at hP1 2
  simp only [List.getElem?_toArray, List.getElem?_cons_zero, List.getElem?_cons_succ] at d0 d1 d2
  have HX1 := Lib.hid hX1; clear hX1
  have HP1 := Lib.hid hP1; clear hP1
  have HR1 := Lib.hid hR1; clear hR1
  have Hf := Lib.hid hf; clear hf
  go_wp2_with fail
  have hBw1' : Below w.heap.size w (w1.setCell ⟨n0, 1, none⟩ (.slice A1 p.fixed.length c1)) := hBw1.setCell (p := ⟨n0, 1, none⟩) (by dsimp only; omega) _
  have hP1' := heap_setCell_at (o := 1) HP1.out (.slice A1 p.fixed.length c1)
  simp only [List.setIfInBounds_toArray, List.set_cons_succ, List.set_cons_zero] at hP1'
  have hR1' := (Below.heap_setCell w1 ⟨n0, 1, none⟩ (.slice A1 p.fixed.length c1) (n0 + 1) (by dsimp only; omega)).trans HR1.out
  have hX1' : ExtT (w1.setCell ⟨n0, 1, none⟩ (.slice A1 p.fixed.length c1)) A1 p.fixed := HX1.out.kept (fun k c f hk => (Below.heap_setCell _ _ _ _ (fun e => by dsimp only at e; subst e; rw [HP1.out] at hk; cases hk)).trans hk)
  refine (clone90_any _ (flatF m) _ _ _ hn2 (Hms.out.below hBw1')).mono ?_
  rintro e w2 ⟨⟨A2, c2, rfl, hown2⟩, hB2⟩
  have hX2 := hX1'.kept (fun k c f hk => block_below hk hB2)
  have hP2 := block_below hP1' hB2
  have hR2 := block_below hR1' hB2
  have hBw2 := below_then hBw1' hB2
  have hF2 := ownsRow_block hown2
  have hlt1' : n0 + 1 < (w1.setCell ⟨n0, 1, none⟩ (.slice A1 p.fixed.length c1)).heap.size := lt_of_block hR1'
  have hF2' : p.files.length = 0 ∨ ∃ F cs, n0 + 1 < F ∧ A2 = some ⟨F, 0, none⟩ ∧ w2.heap[F]? = some (.cells cs 46 (0, 0)) ∧ ∀ (j : Nat) (u : Value), (flatF m)[j]? = some u → cs[j]? = some u := by
    rcases hF2 with h0 | ⟨b, cs, hA, hb, hh, hx⟩
    · exact .inl h0
    · exact .inr ⟨b, cs, by omega, hA, hh, hx⟩
  clear hown2 hB2 hP1' hR1' hX1' hBw1' hF2 hlt1' hBw1 hlt1 d0 d1 d2 z1 z2 HX1 HP1 HR1
  have d0 := cell_at hP2 0; have d1 := cell_at hP2 1; have d2 := cell_at hP2 2
  have z1 := free_at hP2 1; have z2 := free_at hP2 2
  simp only [List.getElem?_toArray, List.getElem?_cons_zero, List.getElem?_cons_succ] at d0 d1 d2
  have HX2 := Lib.hid hX2; clear hX2
  have HP2 := Lib.hid hP2; clear hP2
  have HR2 := Lib.hid hR2; clear hR2
  have HF2 := Lib.hid hF2'; clear hF2'
  have hlt2 := lt_of_block HR2.out
  go_wp2_with fail
  obtain ⟨F, hF1, hF2, hF3⟩ : ∃ F, n0 + 1 ≤ F ∧ F < w2.heap.size ∧ (p.files.length = 0 ∨ (n0 + 1 < F ∧ A2 = some ⟨F, 0, none⟩ ∧ FilW w w2 n0 F m 0)) := by
    rcases HF2.out with h0 | ⟨F, cs, h1, h2, h3, h4⟩
    · exact ⟨n0 + 1, Nat.le_refl _, hlt2, .inl h0⟩
    · exact ⟨F, by omega, lt_of_block h3, .inr ⟨h1, h2, m, rfl, ⟨cs, h3, h4⟩, fun j h hj => by omega, fun j h _ => Hmr.out _ (List.getElem_mem h)⟩⟩
  clear HF2 d0 d1 d2 z1 z2
  have hP3 := heap_setCell_at (o := 2) HP2.out (.slice A2 p.files.length c2)
  simp only [List.setIfInBounds_toArray, List.set_cons_succ, List.set_cons_zero] at hP3
  have hne : ∀ (k : Nat), k ≠ n0 → (w2.setCell ⟨n0, 2, none⟩ (.slice A2 p.files.length c2)).heap[k]? = w2.heap[k]? := fun k hk => Below.heap_setCell _ _ _ _ hk
  have HS0 : Hid (Below w.heap.size w (w2.setCell ⟨n0, 2, none⟩ (.slice A2 p.files.length c2)) ∧ ExtT (w2.setCell ⟨n0, 2, none⟩ (.slice A2 p.files.length c2)) A1 p.fixed ∧
      (w2.setCell ⟨n0, 2, none⟩ (.slice A2 p.files.length c2)).heap[n0]? = some (.cells #[.int .i64 p.size, .slice A1 p.fixed.length c1, .slice A2 p.files.length c2] 25 (0, 0)) ∧
      (w2.setCell ⟨n0, 2, none⟩ (.slice A2 p.files.length c2)).heap[n0 + 1]? = some (.cells #[.int .i64 0, .slice none 0 0, .slice none 0 0] 25 (0, 0)) ∧
      F < (w2.setCell ⟨n0, 2, none⟩ (.slice A2 p.files.length c2)).heap.size ∧
      (p.files.length = 0 ∨ (n0 + 1 < F ∧ A2 = some ⟨F, 0, none⟩ ∧ FilW w (w2.setCell ⟨n0, 2, none⟩ (.slice A2 p.files.length c2)) n0 F m 0))) := by
    refine Lib.hid ⟨hBw2.setCell (p := ⟨n0, 2, none⟩) (by dsimp only; omega) _, ?_, hP3, (hne _ (by omega)).trans HR2.out, by rw [World.size_setCell]; exact hF2, ?_⟩
    · exact HX2.out.kept (fun k c f hk => (hne _ (fun e => by subst e; rw [HP2.out] at hk; cases hk)).trans hk)
    · rcases hF3 with h0 | ⟨h1, h2, m', h3, ⟨cs, h4, h5⟩, h6, h7⟩
      · exact .inl h0
      · exact .inr ⟨h1, h2, m', h3, ⟨cs, (hne _ (by omega)).trans h4, h5⟩, fun j h hj => by omega, h7⟩
  clear hP3 hne hF3 HX2 HP2 HR2 hBw2
  go_loopw [15] (fun i wr => ∃ k : Nat, k ≤ p.files.length ∧ i = .int .i64 k ∧ Hid (Below w.heap.size w wr ∧ ExtT wr A1 p.fixed ∧ wr.heap[n0]? = some (.cells #[.int .i64 p.size, .slice A1 p.fixed.length c1, .slice A2 p.files.length c2] 25 (0, 0)) ∧
      wr.heap[n0 + 1]? = some (.cells #[.int .i64 0, .slice none 0 0, .slice none 0 0] 25 (0, 0)) ∧ F < wr.heap.size ∧ (p.files.length = 0 ∨ (n0 + 1 < F ∧ A2 = some ⟨F, 0, none⟩ ∧ FilW w wr n0 F m k)))) (fun i _ => p.files.length - (intOf i).toNat)
  case atStart => exact ⟨0, by omega, by simp, HS0⟩
  case round =>
    clear HS0
    obtain ⟨k, hk, rfl, HS⟩ := hrel
    by_cases hlt : k < p.files.length
    · obtain ⟨hB, hX, hP, hR, hFs, h0 | ⟨hF0, rfl, m', hm', ⟨cs, hcs, hcs2⟩, hown, hold⟩⟩ := HS.out
      · omega
      have hml : m'.length = p.files.length := by
        have := congrArg List.length (hm'.trans Hm.out); simpa using this
      have hkm : k < m'.length := by omega
      have e1 : cs[k * 2 + 1]? = some (.slice m'[k].2.1 m'[k].1.runs.length m'[k].2.2) := hcs2 _ _ (flatF_get m' k hkm).2
      have f0 := cell_at hP 2
      have f1 : wr.cell? ⟨F, k * 2 + 1, none⟩ = some (.slice m'[k].2.1 m'[k].1.runs.length m'[k].2.2) := by simpa [World.cell?, hcs] using e1
      simp only [List.getElem?_toArray, List.getElem?_cons_zero, List.getElem?_cons_succ] at f0
      have hmx : Try.prog.follows .mixedOrders = true := by kernel_rfl
      have hrun := (hold k hkm (Nat.le_refl _)).below hB
      have hrl : m'[k].1.runs.length ≤ 1099511627776 := by
        have hmem : m'[k].1 ∈ p.files := by rw [← Hm.out, ← hm']; exact List.mem_map.2 ⟨_, List.getElem_mem hkm, rfl⟩
        exact Hn3.out _ hmem
      have Hcs := Lib.hid hcs; clear hcs
      have Hcs2 := Lib.hid hcs2; clear hcs2
      have Hown := Lib.hid hown; clear hown
      have Hold := Lib.hid hold; clear hold
      have HP := Lib.hid hP; clear hP
      have HR := Lib.hid hR; clear hR
      have HX := Lib.hid hX; clear hX
      go_wp2_with fail
      refine wp_region_anyL (L := 12) (C := fun W' => W'.cell? ⟨n0, 2, none⟩ = some (.slice (some ⟨F, 0, none⟩) p.files.length c2) ∧ W'.cell? ⟨F, k * 2 + 1, none⟩ = some (.slice m'[k].2.1 m'[k].1.runs.length m'[k].2.2)) hmx ?_
      have hCw : (fun W' : World => W'.cell? ⟨n0, 2, none⟩ = some (.slice (some ⟨F, 0, none⟩) p.files.length c2) ∧ W'.cell? ⟨F, k * 2 + 1, none⟩ = some (.slice m'[k].2.1 m'[k].1.runs.length m'[k].2.2)) wr.drew := ⟨f0, f1⟩
      refine anyL_take (i := 0) ?v0 rfl rfl (by kernel_rfl) (by kernel_rfl) (by kernel_rfl) (by kernel_rfl) (by kernel_rfl) (fun _ _ _ h => h) hCw ⟨.inl ⟨rfl, fun W' hW' => ?y0⟩, fun _ => rfl⟩ ?_
      case y0 => (obtain ⟨q0, q1⟩ := hW'; go_simp; rfl)
      simp only [Act.put, List.setIfInBounds_toArray, List.set_cons_succ, List.set_cons_zero]
      refine anyL_take (i := 1) ?v1 rfl rfl (by kernel_rfl) (by kernel_rfl) (by kernel_rfl) (by kernel_rfl) (by kernel_rfl) (fun _ _ _ h => h) hCw ⟨.inl ⟨rfl, fun W' hW' => ?y1⟩, fun _ => rfl⟩ ?_
      case y1 => (obtain ⟨q0, q1⟩ := hW'; go_simp; rfl)
      simp only [Act.put, List.setIfInBounds_toArray, List.set_cons_succ, List.set_cons_zero]
      refine anyL_take (i := 2) ?v2 rfl rfl (by kernel_rfl) (by kernel_rfl) (by kernel_rfl) (by kernel_rfl) (by kernel_rfl) (fun _ _ _ h => h) hCw ⟨.inl ⟨rfl, fun W' hW' => ?y2⟩, fun _ => rfl⟩ ?_
      case y2 => (obtain ⟨q0, q1⟩ := hW'; go_simp; rfl)
      simp only [Act.put, List.setIfInBounds_toArray, List.set_cons_succ, List.set_cons_zero]
      refine anyL_take (i := 3) ?v3 rfl rfl (by kernel_rfl) (by kernel_rfl) (by kernel_rfl) (by kernel_rfl) (by kernel_rfl) (fun _ _ _ h => h) hCw ⟨.inl ⟨rfl, fun W' hW' => ?y3⟩, fun _ => rfl⟩ ?_
      case y3 => (obtain ⟨q0, q1⟩ := hW'; go_simp; rfl)
      simp only [Act.put, List.setIfInBounds_toArray, List.set_cons_succ, List.set_cons_zero]
      refine anyL_take (i := 4) ?v4 rfl rfl (by kernel_rfl) (by kernel_rfl) (by kernel_rfl) (by kernel_rfl) (by kernel_rfl) (fun _ _ _ h => h) hCw ⟨.inl ⟨rfl, fun W' hW' => ?y4⟩, fun _ => rfl⟩ ?_
      case y4 => (obtain ⟨q0, q1⟩ := hW'; go_simp; rfl)
      simp only [Act.put, List.setIfInBounds_toArray, List.set_cons_succ, List.set_cons_zero]
      refine anyL_take (i := 5) ?v5 rfl rfl (by kernel_rfl) (by kernel_rfl) (by kernel_rfl) (by kernel_rfl) (by kernel_rfl) (fun _ _ _ h => h) hCw ⟨.inl ⟨rfl, fun W' hW' => ?y5⟩, fun _ => rfl⟩ ?_
      case y5 => (obtain ⟨q0, q1⟩ := hW'; go_simp; rfl)
      simp only [Act.put, List.setIfInBounds_toArray, List.set_cons_succ, List.set_cons_zero]
      refine anyL_take (i := 6) ?v6 rfl rfl (by kernel_rfl) (by kernel_rfl) (by kernel_rfl) (by kernel_rfl) (by kernel_rfl) (fun _ _ _ h => h) hCw ⟨.inl ⟨rfl, fun W' hW' => ?y6⟩, fun _ => rfl⟩ ?_
      case y6 => (obtain ⟨q0, q1⟩ := hW'; go_simp; rfl)
      simp only [Act.put, List.setIfInBounds_toArray, List.set_cons_succ, List.set_cons_zero]
      refine anyL_take (i := 7) ?v7 rfl rfl (by kernel_rfl) (by kernel_rfl) (by kernel_rfl) (by kernel_rfl) (by kernel_rfl) (fun _ _ _ h => h) hCw ⟨.inl ⟨rfl, fun W' hW' => ?y7⟩, fun _ => rfl⟩ ?_
      case y7 => (obtain ⟨q0, q1⟩ := hW'; go_simp; rfl)
      simp only [Act.put, List.setIfInBounds_toArray, List.set_cons_succ, List.set_cons_zero]
      refine anyL_take (i := 8) ?v8 rfl rfl (by kernel_rfl) (by kernel_rfl) (by kernel_rfl) (by kernel_rfl) (by kernel_rfl) (fun _ _ _ h => h) hCw ⟨.inl ⟨rfl, fun W' hW' => ?y8⟩, fun _ => rfl⟩ ?_
      case y8 => (obtain ⟨q0, q1⟩ := hW'; go_simp; rfl)
      simp only [Act.put, List.setIfInBounds_toArray, List.set_cons_succ, List.set_cons_zero]
      refine anyL_only (i := 9) (by kernel_rfl) (wpOpIn_step rfl (fun K' hK' => ?_))
      go_simp
      refine ⟨trivial, rfl, (callsIn_wide.2 (clone91_any m'[k].1.runs.length (flatR m'[k].1.runs) _ _ _ hrl (RunsC.below hrun (Below.refl _ _).drew).src)).mono ?_⟩
      rintro e w3 ⟨⟨A3, c3, rfl, hown3⟩, hB3⟩
      have hCw3 : (fun W' : World => W'.cell? ⟨n0, 2, none⟩ = some (.slice (some ⟨F, 0, none⟩) p.files.length c2) ∧ W'.cell? ⟨F, k * 2 + 1, none⟩ = some (.slice m'[k].2.1 m'[k].1.runs.length m'[k].2.2)) w3 := ⟨cell_below hCw.1 hB3, cell_below hCw.2 hB3⟩
      refine hK' _ _ ⟨fun _ => hCw3, ?_⟩
      clear hK' K'
      refine anyL_take (i := 10) ?v10 rfl rfl (by kernel_rfl) (by kernel_rfl) (by kernel_rfl) (by kernel_rfl) (by kernel_rfl) (fun _ _ _ h => h) hCw3 ⟨.inl ⟨rfl, fun W' hW' => ?y10⟩, fun _ => rfl⟩ ?_
      case y10 => (obtain ⟨q0, q1⟩ := hW'; go_simp; rfl)
      simp only [Act.put, List.setIfInBounds_toArray, List.set_cons_succ, List.set_cons_zero]
      refine anyL_take (i := 11) ?v11 rfl rfl (by kernel_rfl) (by kernel_rfl) (by kernel_rfl) (by kernel_rfl) (by kernel_rfl) (fun _ _ _ h => h) hCw3 ⟨.inl ⟨rfl, fun W' hW' => ?y11⟩, fun _ => rfl⟩ ?_
      case y11 => (obtain ⟨q0, q1⟩ := hW'; go_simp; rfl)
      simp only [Act.put, List.setIfInBounds_toArray, List.set_cons_succ, List.set_cons_zero]
      refine anyL_last (by kernel_rfl) (by kernel_rfl) (wpOpIn_step rfl (fun K' hK' => ?_))
      have hBd : Below wr.heap.size wr w3 := (Below.refl wr.heap.size wr).drew.trans hB3
      have hcs3 := block_below Hcs.out hBd
      have z3 := free_at hcs3 (k * 2 + 1)
      obtain ⟨q0, q1⟩ := hCw3
      go_simp
      refine hK' _ _ ?_
      clear hK' K'
      have hP3 := block_below HP.out hBd
      have hR3 := block_below HR.out hBd
      have hX3 := HX.out.kept (fun k c f hk => block_below hk hBd)
      have hFw : wr.heap.size ≤ w3.heap.size := hBd.size
      have hT3 := RunsT.of_owns hown3
      have hB4 := (below_then hB hBd).setCell (p := ⟨F, k * 2 + 1, none⟩) (by dsimp only; omega) (.slice A3 m'[k].1.runs.length c3)
      have hset := heap_setCell_at (o := k * 2 + 1) hcs3 (.slice A3 m'[k].1.runs.length c3)
      have hne : ∀ (j : Nat), j ≠ F → (w3.setCell ⟨F, k * 2 + 1, none⟩ (.slice A3 m'[k].1.runs.length c3)).heap[j]? = w3.heap[j]? := fun j hj => Below.heap_setCell _ _ _ _ hj
      have hnext : Hid (Below w.heap.size w (w3.setCell ⟨F, k * 2 + 1, none⟩ (.slice A3 m'[k].1.runs.length c3)) ∧ ExtT (w3.setCell ⟨F, k * 2 + 1, none⟩ (.slice A3 m'[k].1.runs.length c3)) A1 p.fixed ∧
          (w3.setCell ⟨F, k * 2 + 1, none⟩ (.slice A3 m'[k].1.runs.length c3)).heap[n0]? = some (.cells #[.int .i64 p.size, .slice A1 p.fixed.length c1, .slice (some ⟨F, 0, none⟩) p.files.length c2] 25 (0, 0)) ∧
          (w3.setCell ⟨F, k * 2 + 1, none⟩ (.slice A3 m'[k].1.runs.length c3)).heap[n0 + 1]? = some (.cells #[.int .i64 0, .slice none 0 0, .slice none 0 0] 25 (0, 0)) ∧
          F < (w3.setCell ⟨F, k * 2 + 1, none⟩ (.slice A3 m'[k].1.runs.length c3)).heap.size ∧
          (p.files.length = 0 ∨ (n0 + 1 < F ∧ True ∧ FilW w (w3.setCell ⟨F, k * 2 + 1, none⟩ (.slice A3 m'[k].1.runs.length c3)) n0 F m (k + 1)))) := by
        have hk52 : ∀ (j : Nat) c f, w3.heap[j]? = some (.cells c 52 f) → (w3.setCell ⟨F, k * 2 + 1, none⟩ (.slice A3 m'[k].1.runs.length c3)).heap[j]? = some (.cells c 52 f) :=
          fun j c f hj => (hne _ (fun e => by subst e; rw [hcs3] at hj; cases hj)).trans hj
        refine Lib.hid ⟨hB4, hX3.kept (fun j c f hj => (hne _ (fun e => by subst e; rw [hcs3] at hj; cases hj)).trans hj), (hne _ (by omega)).trans hP3, (hne _ (by omega)).trans hR3, by rw [World.size_setCell]; omega, .inr ⟨hF0, trivial, ?_⟩⟩
        refine ⟨m'.set k (m'[k].1, A3, c3), ?_, ⟨_, hset, ?_⟩, ?_, ?_⟩
        · rw [← hm', List.map_set]
          apply List.ext_getElem
          · simp
          · intro i h1 h2
            simp only [List.getElem_set, List.getElem_map]
            split
            · rename_i e; subst e; rfl
            · rfl
        · have hl : (flatF (m'.set k (m'[k].1, A3, c3))).length = (m'.set k (m'[k].1, A3, c3)).length * 2 := flatF_length _
          refine get_pairs hl (f := fun j => if h : j < (m'.set k (m'[k].1, A3, c3)).length then .int .i64 (m'.set k (m'[k].1, A3, c3))[j].1.no else undef) (g := fun j => if h : j < (m'.set k (m'[k].1, A3, c3)).length then .slice (m'.set k (m'[k].1, A3, c3))[j].2.1 (m'.set k (m'[k].1, A3, c3))[j].1.runs.length (m'.set k (m'[k].1, A3, c3))[j].2.2 else undef) (fun j hj => ?_) (P := fun j u => (cs.setIfInBounds (k * 2 + 1) (.slice A3 m'[k].1.runs.length c3))[j]? = some u) (fun j hj => ?_) (fun j hj => ?_)
          · have := flatF_get (m'.set k (m'[k].1, A3, c3)) j hj
            simp only [hj, dif_pos]; exact this
          · simp only [hj, dif_pos]
            have hj' : j < m'.length := by simpa using hj
            rw [Array.getElem?_setIfInBounds, if_neg (by omega)]
            have := Hcs2.out _ _ (flatF_get m' j hj').1
            rw [this]; simp only [List.getElem_set]; split
            · rename_i e; subst e; rfl
            · rfl
          · simp only [hj, dif_pos]
            have hj' : j < m'.length := by simpa using hj
            have hq := Hcs2.out _ _ (flatF_get m' j hj').2
            have hlt2 : j * 2 + 1 < cs.size := (Array.getElem?_eq_some_iff.1 hq).1
            by_cases e : k = j
            · subst e
              rw [Array.getElem?_setIfInBounds, if_pos rfl, if_pos hlt2]; simp
            · rw [Array.getElem?_setIfInBounds, if_neg (by omega), hq]
              simp only [List.getElem_set, if_neg e]
        · intro j hj hjk
          by_cases e : k = j
          · subst e; simpa using hT3.kept hk52
          · have hj' : j < m'.length := by simpa using hj
            have h8 := Hown.out j hj' (by omega)
            simp only [List.getElem_set, if_neg e]
            exact (h8.kept (fun q c f hq => block_below hq hBd)).kept hk52
        · intro j hj hjk
          have hj' : j < m'.length := by simpa using hj
          have h8 := Hold.out j hj' (by omega)
          simp only [List.getElem_set, if_neg (show ¬ k = j by omega)]
          exact h8
      clear hP3 hR3 hX3 hT3 hB4 hset hne hown3 hcs3 hBd hB3 q0 q1 hCw f0 f1 Hcs Hcs2 Hown Hold HP HR HX hrun hB HS z3 e1
      go_wp2_with fail
      exact ⟨⟨k + 1, by omega, by simp, hnext⟩, by simp [intOf]; omega⟩
    · obtain rfl : k = p.files.length := by omega
      obtain ⟨hB, hX, hP, hR, hFs, hfil⟩ := HS.out
      have d0 := cell_at hP 0; have d1 := cell_at hP 1; have d2 := cell_at hP 2
      simp only [List.getElem?_toArray, List.getElem?_cons_zero, List.getElem?_cons_succ] at d0 d1 d2
      have r0 := cell_at hR 0; have r1 := cell_at hR 1; have r2 := cell_at hR 2
      simp only [List.getElem?_toArray, List.getElem?_cons_zero, List.getElem?_cons_succ] at r0 r1 r2
      have z0 := free_at hR 0; have z1 := free_at hR 1; have z2 := free_at hR 2
      have HP := Lib.hid hP; clear hP
      have HR := Lib.hid hR; clear hR
      have HX := Lib.hid hX; clear hX
      have Hfil := Lib.hid hfil; clear hfil HS
      go_wp2_with fail
      obtain ⟨X, hX⟩ : ∃ X, (((wr.setCell ⟨n0 + 1, 0, none⟩ (.int .i64 p.size)).setCell ⟨n0 + 1, 1, none⟩ (.slice A1 p.fixed.length c1)).setCell ⟨n0 + 1, 2, none⟩ (.slice A2 p.files.length c2)) = X := ⟨_, rfl⟩
      rw [hX]
      have hR' : X.heap[n0 + 1]? = some (.cells #[.int .i64 p.size, .slice A1 p.fixed.length c1, .slice A2 p.files.length c2] 25 (0, 0)) := by
        have h1 := heap_setCell_at (o := 2) (heap_setCell_at (o := 1) (heap_setCell_at (o := 0) HR.out (.int .i64 p.size)) (.slice A1 p.fixed.length c1)) (.slice A2 p.files.length c2)
        rw [hX] at h1
        simpa using h1
      have hne : ∀ (k : Nat), k ≠ n0 + 1 → X.heap[k]? = wr.heap[k]? := fun k hk => by
        rw [← hX]
        exact (Below.heap_setCell _ _ _ _ hk).trans ((Below.heap_setCell _ _ _ _ hk).trans (Below.heap_setCell _ _ _ _ hk))
      have x0 := cell_at hR' 0; have x1 := cell_at hR' 1; have x2 := cell_at hR' 2
      simp only [List.getElem?_toArray, List.getElem?_cons_zero, List.getElem?_cons_succ] at x0 x1 x2
      have hsz : X.heap.size = wr.heap.size := by rw [← hX]; simp
      have hBX : Below w.heap.size w X := by
        rw [← hX]
        exact ((hB.setCell (p := ⟨n0 + 1, 0, none⟩) (by dsimp only; omega) _).setCell (p := ⟨n0 + 1, 1, none⟩) (by dsimp only; omega) _).setCell (p := ⟨n0 + 1, 2, none⟩) (by dsimp only; omega) _
      have k54 : ∀ (j : Nat) c f t, wr.heap[j]? = some (.cells c t f) → t ≠ 25 → X.heap[j]? = some (.cells c t f) := fun j c f t hj ht => (hne j (fun e => by subst e; rw [HR.out] at hj; cases hj; exact ht rfl)).trans hj
      clear hX
      refine bodyPost_ret (v := .agg #[.int .i64 p.size, .slice A1 p.fixed.length c1, .slice A2 p.files.length c2]) (by simp [results, Try.results71, go_sem, x0, x1, x2]) rfl ?_
      refine ⟨⟨F, A1, c1, A2, c2, by omega, by omega, rfl, HX.out.kept (fun j c f hj => k54 j c f 54 hj (by decide)), ?_⟩, hBX⟩
      rcases Hfil.out with h0 | ⟨hF0, rfl, m', hm', ⟨cs, hcs, hcs2⟩, hown, -⟩
      · exact .inl (List.length_eq_zero_iff.1 h0)
      · have hml : m'.length = p.files.length := by
          have := congrArg List.length (hm'.trans Hm.out); simpa using this
        have hmp : m'.map Prod.fst = p.files := hm'.trans Hm.out
        refine .inr ⟨rfl, cs, k54 _ _ _ _ hcs (by decide), fun k hk => ?_⟩
        have hkm : k < m'.length := by omega
        have e : p.files[k] = m'[k].1 := by simp [← hmp]
        obtain ⟨g1, g2⟩ := flatF_get m' k hkm
        rw [e]
        exact ⟨hcs2 _ _ g1, _, _, hcs2 _ _ g2, (hown k hkm (by omega)).kept (fun j c f hj => k54 j c f 52 hj (by decide))⟩
end Go.Proofs.Yteipclnlfanfeaa

/- move: file, fragments. -/
namespace Go.Proofs.Yteipclnlfanfeaa
open Go.RowKit

theorem file1_any (x no : Int) (v : Value) (b : Nat) (w : World) (hc : w.heap[b]? = some (.cells #[.int .i64 x] 3 (0, 0))) :
    Calls Try.prog 85 #[.agg #[.int .i64 no, v], .pointer (some ⟨b, 0, none⟩)] w fun e w' => e = .returned (.bool (no == x)) ∧ Below w.heap.size w w' := by
  have hlt := lt_of_block hc
  have hB := below_alloc (Below.refl _ w) (.cells #[.int .i64 no, v] 46)
  have hc1 := cell_of_one (heap_alloc_old' hc (.cells #[.int .i64 no, v] 46))
  go_enter Try.func85, Try.ntmps85
  go_wp2_with fail
  go_ret
  exact ⟨rfl, hB⟩

/-- the index of a file; -1 if there is none -/
def fileI (l : List Fil) (no : Int) : Int := match l.findIdx? (fun f => f.no == no) with
  | some i => i
  | none => -1

theorem fileI_at {l : List Fil} {no : Int} {k : Nat} (hk : k < l.length) (h : ∀ j (hj : j < k), l[j].no ≠ no) (he : l[k].no = no) : fileI l no = k := by
  have : l.findIdx? (fun f => f.no == no) = some k := by
    rw [List.findIdx?_eq_some_iff_getElem]
    exact ⟨hk, by simp [he], fun j hj => by simp [h j hj]⟩
  simp [fileI, this]
theorem fileI_none {l : List Fil} {no : Int} (h : ∀ j (hj : j < l.length), l[j].no ≠ no) : fileI l no = -1 := by
  have : l.findIdx? (fun f => f.no == no) = none := by
    rw [List.findIdx?_eq_none_iff]
    intro x hx
    obtain ⟨j, hj, rfl⟩ := List.getElem_of_mem hx
    simp [h j hj]
  simp [fileI, this]
theorem fileI_spec (l : List Fil) (no : Int) : (fileI l no = -1 ∧ ∀ f ∈ l, f.no ≠ no) ∨ ∃ k, ∃ h : k < l.length, fileI l no = k ∧ l[k].no = no ∧ ∀ j (hj : j < k), l[j].no ≠ no := by
  unfold fileI
  cases e : l.findIdx? (fun f => f.no == no) with
  | none =>
    rw [List.findIdx?_eq_none_iff] at e
    exact .inl ⟨rfl, fun f hf => by simpa using e f hf⟩
  | some k =>
    rw [List.findIdx?_eq_some_iff_getElem] at e
    obtain ⟨hk, h1, h2⟩ := e
    exact .inr ⟨k, hk, rfl, by simpa using h1, fun j hj => by simpa using h2 j hj⟩

set_option maxRecDepth 100000 in
set_option maxHeartbeats 1000000 in
theorem indexFunc_any (l : List Fil) (A : Option Addr) (c : Nat) (x : Int) (b : Nat) (w : World) (hlen : l.length ≤ 1099511627776) (hl : FilC w A l) (hc : w.heap[b]? = some (.cells #[.int .i64 x] 3 (0, 0))) :
    Calls Try.prog 84 #[.slice A l.length c, .func (.func 85) #[] #[.pointer (some ⟨b, 0, none⟩)]] w fun e w' => e = .returned (.int .i64 (fileI l x)) ∧ Below w.heap.size w w' := by
  go_enter Try.func84, Try.ntmps84
  go_wp2_with fail
  go_loopw [8] (fun i wr => ∃ k : Nat, k ≤ l.length ∧ i = .int .i64 k ∧ (∀ j (hj : j < l.length), j < k → l[j].no ≠ x) ∧ Below w.heap.size w wr) (fun i _ => l.length - (intOf i).toNat)
  case atStart => exact ⟨0, by omega, by simp, fun j _ hj => by omega, Below.refl _ _⟩
  case round =>
    obtain ⟨k, hk, rfl, hno, hB⟩ := hrel
    by_cases hlt : k < l.length
    · obtain ⟨b', o, A', c', rfl, h0, h1, -⟩ := (hl.below hB) k hlt
      have hcB := block_below hc hB
      by_cases he : l[k].no = x
      · have hd : (l[k].no == x) = true := by simpa using he
        go_wp2_with (go_at_call 85; refine (file1_any _ _ _ _ _ hcB).mono ?_; rintro e w' ⟨rfl, hB2⟩)
        go_ret
        refine ⟨?_, below_then hB hB2⟩
        rw [fileI_at hlt (fun j hj => hno j (by omega) hj) he]; rfl
      · have hd : (l[k].no == x) = false := by simpa using he
        go_wp2_with (go_at_call 85; refine (file1_any _ _ _ _ _ hcB).mono ?_; rintro e w' ⟨rfl, hB2⟩)
        refine ⟨⟨k + 1, by omega, by simp, fun j hj hjk => ?_, below_then hB hB2⟩, by simp [intOf]; omega⟩
        by_cases ej : j = k
        · subst ej; exact he
        · exact hno j hj (by omega)
    · obtain rfl : k = l.length := by omega
      go_wp2_with fail
      go_ret
      exact ⟨by rw [fileI_none (fun j hj => hno j hj hj)]; rfl, hB⟩

def FileIPost (l : List Fil) (x : Int) (w : World) (e : Ending) (w' : World) : Prop :=
  ((0 ≤ fileI l x ∧ e = .returned (.int .i64 (fileI l x))) ∨ (¬ 0 ≤ fileI l x ∧ e = faulted 110 3)) ∧ Below w.heap.size w w'

set_option maxRecDepth 100000 in
set_option maxHeartbeats 1000000 in
theorem file_any (n0 P F T : Nat) (s : Spc) (x : Int) (w : World) (hs : SpC n0 P F T s w) (hlen : s.pic.files.length ≤ 1099511627776) :
    Calls Try.prog 59 #[.pointer (some ⟨P, 0, none⟩), .int .i64 x] w (FileIPost s.pic.files x w) := by
  have hmf : ∀ (fn : Fn) (first cap : Array Value) (w : World), (Instr.makeFunc fn first cap).run Try.prog w = .ok (.func fn first cap) w := fun _ _ _ _ => rfl
  have hB0 := below_alloc (Below.refl _ w) (.cells #[.int .i64 x] 3)
  obtain ⟨Ax, cx, Fa, cf, cT, st, -, -, hc2, -, -, -, hfil, -⟩ := (hs.below hB0).cellP
  have hb := World.alloc_heap_new w (.cells #[.int .i64 x] 3)
  have hfc := hfil.c
  clear hfil
  by_cases h0 : 0 ≤ fileI s.pic.files x
  · have hd : decide (0 ≤ fileI s.pic.files x) = true := by simpa using h0
    go_enter Try.func59, Try.ntmps59
    go_wp2_with (first | (go_at_call 84; refine (indexFunc_any _ _ _ _ _ _ hlen hfc hb).mono ?_; rintro e w' ⟨rfl, hB2⟩) | (go_at_call 37; refine (need_yes _ _).mono ?_; rintro e w' ⟨rfl, rfl⟩))
    go_ret
    exact ⟨.inl ⟨h0, rfl⟩, below_then hB0 hB2⟩
  · have hd : decide (0 ≤ fileI s.pic.files x) = false := by simpa using h0
    go_enter Try.func59, Try.ntmps59
    go_wp2_with (first | (go_at_call 84; refine (indexFunc_any _ _ _ _ _ _ hlen hfc hb).mono ?_; rintro e w' ⟨rfl, hB2⟩) | (go_at_call 37; refine (need_no _ _).mono ?_; rintro e w' ⟨rfl, rfl⟩))
    exact ⟨rfl, .inr ⟨by omega, rfl⟩, below_then hB0 hB2⟩

/-- how many fragments -/
def fragL (end_ : Int) : List Run → Int
  | [] => 0
  | r :: l => if r.to = -1 then fragL end_ l else (if r.to = end_ then 0 else 1) + fragL (r.to + r.many) l

/-- the end behind runs -/
def fragE (end_ : Int) : List Run → Int
  | [] => end_
  | r :: l => if r.to = -1 then fragE end_ l else fragE (r.to + r.many) l

theorem fragL_snoc (e : Int) (l : List Run) (r : Run) : fragL e (l ++ [r]) = fragL e l + (if r.to = -1 then 0 else if r.to = fragE e l then 0 else 1) := by
  induction l generalizing e with
  | nil =>
    simp only [List.nil_append, fragL, fragE]
    by_cases h : r.to = -1
    · simp [h]
    · by_cases h2 : r.to = e
      · simp [h, h2]
      · simp [h, h2]
  | cons x l ih =>
    simp only [List.cons_append, fragL, fragE]
    by_cases h : x.to = -1
    · simp only [h, if_true]; exact ih e
    · simp only [h, if_false]; rw [ih]; omega
theorem fragE_snoc (e : Int) (l : List Run) (r : Run) : fragE e (l ++ [r]) = if r.to = -1 then fragE e l else r.to + r.many := by
  induction l generalizing e with
  | nil => simp [fragE]
  | cons x l ih =>
    simp only [List.cons_append, fragE]
    by_cases h : x.to = -1
    · simp only [h, if_true]; exact ih e
    · simp only [h, if_false]; exact ih _

theorem fragL_bound (e : Int) (l : List Run) : 0 ≤ fragL e l ∧ fragL e l ≤ l.length := by
  induction l generalizing e with
  | nil => simp [fragL]
  | cons x l ih =>
    simp only [fragL, List.length_cons]
    have h1 := ih e; have h2 := ih (x.to + x.many)
    split
    · omega
    · split <;> omega

theorem take_succ_snoc {α : Type} {l : List α} {k : Nat} (h : k < l.length) : l.take (k + 1) = l.take k ++ [l[k]] := List.take_succ_eq_append_getElem h

set_option maxRecDepth 100000 in
set_option maxHeartbeats 1000000 in
theorem fragments_any (l : List Run) (A : Option Addr) (c : Nat) (w : World) (hlen : l.length ≤ 1048576) (hl : RunsC w A l) (hb : ∀ r ∈ l, -1 ≤ r.to ∧ r.to ≤ 1125899906842624 ∧ 0 ≤ r.many ∧ r.many ≤ 1125899906842624) :
    Calls Try.prog 45 #[.slice A l.length c] w fun e w' => e = .returned (.int .i64 (fragL (-1) l)) ∧ Below w.heap.size w w' := by
  have Hb := Lib.hid hb; clear hb
  go_enter Try.func45, Try.ntmps45
  go_wp2_with fail
  go_loopw [3, 4, 9] (fun n e i wr => ∃ k : Nat, k ≤ l.length ∧ i = .int .i64 k ∧ n = .int .i64 (fragL (-1) (l.take k)) ∧ e = .int .i64 (fragE (-1) (l.take k)) ∧ Below w.heap.size w wr) (fun _ _ i _ => l.length - (intOf i).toNat)
  case atStart => exact ⟨0, by omega, by simp, by simp [fragL], by simp [fragE], Below.refl _ _⟩
  case round =>
    obtain ⟨k, hk, rfl, rfl, rfl, hB⟩ := hrel
    by_cases hlt : k < l.length
    · obtain ⟨b', o, rfl, h0, h1⟩ := (hl.below hB) k hlt
      have hbd := Hb.out _ (List.getElem_mem hlt)
      have hfb := fragL_bound (-1) (l.take k)
      have hkl : (l.take k).length ≤ l.length := by simp; omega
      have hs1 := fragL_snoc (-1) (l.take k) l[k]
      have hs2 := fragE_snoc (-1) (l.take k) l[k]
      rw [← take_succ_snoc hlt] at hs1 hs2
      have Hs1 := Lib.hid hs1; have Hs2 := Lib.hid hs2; clear hs1 hs2
      by_cases ht : l[k].to = -1
      · have hd : (l[k].to == -1) = true := by simpa using ht
        go_wp2_with fail
        refine ⟨⟨k + 1, by omega, by simp, ?_, ?_, (below_alloc hB _)⟩, by simp [intOf]; omega⟩
        · rw [Hs1.out]; simp [ht]
        · rw [Hs2.out]; simp [ht]
      · have hd : (l[k].to == -1) = false := by simpa using ht
        by_cases he : l[k].to = fragE (-1) (l.take k)
        · have hd2 : (l[k].to != fragE (-1) (l.take k)) = false := by simpa using he
          have He := Lib.hid he; clear he
          go_wp2_with fail
          refine ⟨⟨k + 1, by omega, by simp, ?_, ?_, (below_alloc hB _)⟩, by simp [intOf]; omega⟩
          · rw [Hs1.out, if_neg ht, if_pos He.out]; simp
          · rw [Hs2.out, if_neg ht]
        · have hd2 : (l[k].to != fragE (-1) (l.take k)) = true := by simpa using he
          have He := Lib.hid he; clear he
          go_wp2_with fail
          refine ⟨⟨k + 1, by omega, by simp, ?_, ?_, (below_alloc hB _)⟩, by simp [intOf]; omega⟩
          · rw [Hs1.out, if_neg ht, if_neg He.out]
          · rw [Hs2.out, if_neg ht]
    · obtain rfl : k = l.length := by omega
      go_wp2_with fail
      go_ret
      exact ⟨by rw [List.take_length]; rfl, hB⟩

end Go.Proofs.Yteipclnlfanfeaa

/- move: Equal. -/
namespace Go.Proofs.Yteipclnlfanfeaa
open Go.RowKit


set_option maxRecDepth 100000 in
set_option maxHeartbeats 1000000 in
theorem equalR_any (l l2 : List Run) (A A2 : Option Addr) (c c2 : Nat) (w : World) (hlen : l.length ≤ 1099511627776) (hl : RunsC w A l) (hl2 : RunsC w A2 l2) :
    Calls Try.prog 70 #[.slice A l.length c, .slice A2 l2.length c2] w fun e w' => e = .returned (.bool (decide (l = l2))) ∧ Below w.heap.size w w' := by
  by_cases hn : l.length = l2.length
  · have hd : ((l.length : Int) != (l2.length : Int)) = false := by simp [hn]
    have Hn := Lib.hid hn; clear hn
    go_enter Try.func70, Try.ntmps70
    go_wp2_with fail
    go_loopw [13] (fun i wr => ∃ k : Nat, k ≤ l.length ∧ i = .int .i64 k ∧ l.take k = l2.take k ∧ Below w.heap.size w wr) (fun i _ => l.length - (intOf i).toNat)
    case atStart => exact ⟨0, by omega, by simp, by simp, Below.refl _ _⟩
    case round =>
      obtain ⟨k, hk, rfl, hno, hB⟩ := hrel
      have Hno := Lib.hid hno; clear hno
      by_cases hlt : k < l.length
      · have hlt2 : k < l2.length := by have := Hn.out; omega
        obtain ⟨b, o, rfl, h0, h1⟩ := (hl.below hB) k hlt
        obtain ⟨b', o', rfl, h0', h1'⟩ := (hl2.below hB) k hlt2
        have hq : ∀ (a b c d : Int) (w : World), (binOp .neq 52 (.agg #[.int .i64 a, .int .i64 b]) (.agg #[.int .i64 c, .int .i64 d])).run Try.prog w = .ok (.bool (!(a == c && b == d))) w := by
          intro a b c d w
          have u3 := Try.underlying3
          have hS : Try.prog.underlying 52 = some (.struct (Try.prog.fieldsOf 52)) := by kernel_rfl
          have hp : Try.prog.stoodInHeld 52 = false := by kernel_rfl
          rw [run_neq_struct, show (10000 : Nat) = 9999 + 1 from rfl, run_equalIn_agg w 9999 52 _ _ hS hp]
          simp only [Program.fieldsOf, Try.underlying52]
          go_simp
          by_cases h1 : a = c <;> by_cases h2 : b = d <;> simp [h1, h2]
        by_cases he : l[k] = l2[k]
        · have hd2 : (!(l[k].to == l2[k].to && l[k].many == l2[k].many)) = false := by simp [he]
          have He := Lib.hid he; clear he
          go_wp2_with fail
          go_quiet (fail)
          go_wp2_with fail
          refine ⟨⟨k + 1, by omega, by simp, ?_, below_dr hB _⟩, by simp [intOf]; omega⟩
          rw [take_succ_snoc hlt, take_succ_snoc hlt2, Hno.out, He.out]
        · have hd2 : (!(l[k].to == l2[k].to && l[k].many == l2[k].many)) = true := by
            cases hb : (l[k].to == l2[k].to && l[k].many == l2[k].many) with
            | false => rfl
            | true =>
              simp only [Bool.and_eq_true, beq_iff_eq] at hb
              refine absurd ?_ he
              cases h1 : l[k]; cases h2 : l2[k]
              simp only [h1, h2] at hb
              rw [hb.1, hb.2]
          have He := Lib.hid he; clear he
          go_wp2_with fail
          go_quiet (fail)
          go_wp2_with fail
          go_ret
          refine ⟨?_, below_dr hB _⟩
          have : ¬ l = l2 := fun e => He.out (by subst e; rfl)
          simp [this]
      · obtain rfl : k = l.length := by omega
        go_wp2_with fail
        go_ret
        refine ⟨?_, hB⟩
        have : l = l2 := by have := Hno.out; have hn := Hn.out; rw [List.take_length] at this; rw [this, hn, List.take_length]
        simp [this]
  · have hd : ((l.length : Int) != (l2.length : Int)) = true := by simp; omega
    go_enter Try.func70, Try.ntmps70
    go_wp2_with fail
    go_ret
    have : ¬ l = l2 := fun e => hn (by rw [e])
    exact ⟨by simp [this], Below.refl _ _⟩

set_option maxRecDepth 100000 in
set_option maxHeartbeats 1000000 in
theorem equalE_any (l l2 : List Ext) (A A2 : Option Addr) (c c2 : Nat) (w : World) (hlen : l.length ≤ 1099511627776) (hl : ExtC w A l) (hl2 : ExtC w A2 l2) :
    Calls Try.prog 67 #[.slice A l.length c, .slice A2 l2.length c2] w fun e w' => e = .returned (.bool (decide (l = l2))) ∧ Below w.heap.size w w' := by
  by_cases hn : l.length = l2.length
  · have hd : ((l.length : Int) != (l2.length : Int)) = false := by simp [hn]
    have Hn := Lib.hid hn; clear hn
    go_enter Try.func67, Try.ntmps67
    go_wp2_with fail
    go_loopw [13] (fun i wr => ∃ k : Nat, k ≤ l.length ∧ i = .int .i64 k ∧ l.take k = l2.take k ∧ Below w.heap.size w wr) (fun i _ => l.length - (intOf i).toNat)
    case atStart => exact ⟨0, by omega, by simp, by simp, Below.refl _ _⟩
    case round =>
      obtain ⟨k, hk, rfl, hno, hB⟩ := hrel
      have Hno := Lib.hid hno; clear hno
      by_cases hlt : k < l.length
      · have hlt2 : k < l2.length := by have := Hn.out; omega
        obtain ⟨b, o, rfl, h0, h1⟩ := (hl.below hB) k hlt
        obtain ⟨b', o', rfl, h0', h1'⟩ := (hl2.below hB) k hlt2
        have hq : ∀ (a b c d : Int) (w : World), (binOp .neq 54 (.agg #[.int .i64 a, .int .i64 b]) (.agg #[.int .i64 c, .int .i64 d])).run Try.prog w = .ok (.bool (!(a == c && b == d))) w := by
          intro a b c d w
          have u3 := Try.underlying3
          have hS : Try.prog.underlying 54 = some (.struct (Try.prog.fieldsOf 54)) := by kernel_rfl
          have hp : Try.prog.stoodInHeld 54 = false := by kernel_rfl
          rw [run_neq_struct, show (10000 : Nat) = 9999 + 1 from rfl, run_equalIn_agg w 9999 54 _ _ hS hp]
          simp only [Program.fieldsOf, Try.underlying54]
          go_simp
          by_cases h1 : a = c <;> by_cases h2 : b = d <;> simp [h1, h2]
        by_cases he : l[k] = l2[k]
        · have hd2 : (!(l[k].page == l2[k].page && l[k].many == l2[k].many)) = false := by simp [he]
          have He := Lib.hid he; clear he
          go_wp2_with fail
          go_quiet (fail)
          go_wp2_with fail
          refine ⟨⟨k + 1, by omega, by simp, ?_, below_dr hB _⟩, by simp [intOf]; omega⟩
          rw [take_succ_snoc hlt, take_succ_snoc hlt2, Hno.out, He.out]
        · have hd2 : (!(l[k].page == l2[k].page && l[k].many == l2[k].many)) = true := by
            cases hb : (l[k].page == l2[k].page && l[k].many == l2[k].many) with
            | false => rfl
            | true =>
              simp only [Bool.and_eq_true, beq_iff_eq] at hb
              refine absurd ?_ he
              cases h1 : l[k]; cases h2 : l2[k]
              simp only [h1, h2] at hb
              rw [hb.1, hb.2]
          have He := Lib.hid he; clear he
          go_wp2_with fail
          go_quiet (fail)
          go_wp2_with fail
          go_ret
          refine ⟨?_, below_dr hB _⟩
          have : ¬ l = l2 := fun e => He.out (by subst e; rfl)
          simp [this]
      · obtain rfl : k = l.length := by omega
        go_wp2_with fail
        go_ret
        refine ⟨?_, hB⟩
        have : l = l2 := by have := Hno.out; have hn := Hn.out; rw [List.take_length] at this; rw [this, hn, List.take_length]
        simp [this]
  · have hd : ((l.length : Int) != (l2.length : Int)) = true := by simp; omega
    go_enter Try.func67, Try.ntmps67
    go_wp2_with fail
    go_ret
    have : ¬ l = l2 := fun e => hn (by rw [e])
    exact ⟨by simp [this], Below.refl _ _⟩

end Go.Proofs.Yteipclnlfanfeaa

/- move: open. -/
namespace Go.Proofs.Yteipclnlfanfeaa
open Go.RowKit

/-- the fixed extents are taken -/
def fixL (size : Int) : List Ext → Int → List Bool → Option (List Bool)
  | [], _, tk => some tk
  | x :: l, last, tk => if last ≤ x.page ∧ x.page < size ∧ 1 ≤ x.many ∧ x.many ≤ size - x.page then
      match takeL tk x.page.toNat true x.many.toNat with
      | none => none
      | some t => fixL size l (x.page + x.many) t
    else none
/-- the runs of a file are taken -/
def runsL (size : Int) : List Run → List Bool → Option (List Bool)
  | [], tk => some tk
  | r :: l, tk => if r.to = -1 then runsL size l tk else if 3 ≤ r.to ∧ r.to ≤ size - r.many then
      match takeL tk r.to.toNat true r.many.toNat with
      | none => none
      | some t => runsL size l t
    else none
def filL (size : Int) : List Fil → Int → List Bool → Option (List Bool)
  | [], _, tk => some tk
  | f :: l, no, tk => if no < f.no ∧ f.no ≤ 1073741824 ∧ mustE f.runs = 0 ∧ normL f.runs = f.runs then
      match runsL size f.runs tk with
      | none => none
      | some t => filL size l f.no t
    else none
def openL (p : Pic) : Option Spc :=
  if 4 ≤ p.size ∧ p.size ≤ 768 ∧ p.fixed.length ≤ 200 ∧ p.files.length ≤ 200 then
    match fixL p.size p.fixed 0 (List.replicate p.size.toNat false) with
    | none => none
    | some t => if t[0]? = some true ∧ t[1]? = some true ∧ t[2]? = some true then
        match filL p.size p.files (-1) t with
        | none => none
        | some t => some ⟨p, t, []⟩
      else none
  else none

def OpenPost (p : Pic) (w : World) (e : Ending) (w' : World) : Prop :=
  ((∃ s P F T, openL p = some s ∧ e = .returned (.pointer (some ⟨P, 0, none⟩)) ∧ SpC w.heap.size P F T s w' ∧ F < w'.heap.size) ∨ (openL p = none ∧ e = faulted 110 9)) ∧ Below w.heap.size w w'

/-- the space that is made -/
theorem SpC.make {w : World} {n0 F : Nat} {p : Pic} {Ax Fa : Option Addr} {cx cf n cT : Nat} (hX : ExtT w Ax p.fixed) (hF : FilT w F Fa p.files) (hn : n0 ≤ F) {P T : Nat} (hP : n0 ≤ P) (hT : n0 ≤ T)
    (hPc : w.heap[P]? = some (.cells #[.int .i64 p.size, .slice Ax p.fixed.length cx, .slice Fa p.files.length cf, .slice (some ⟨T, 0, none⟩) n cT, .slice none 0 0] 72 (0, 0)))
    (hTc : w.heap[T]? = some (.cells (Array.replicate n (.bool false)) 4 (0, 0))) :
    SpC n0 P F T ⟨p, List.replicate n false, []⟩ w := by
  refine ⟨hP, hn, hT, Ax, cx, Fa, cf, cT, .slice none 0 0, ?_, hX, hF, ?_, World.ownsRow_nil _ _ _ _⟩
  · simpa using hPc
  · simpa using hTc

theorem info4 : (Try.prog.info? 4).map (fun i => (i.zero, i.size, i.bytes)) = some (some (.bool false), 1, 1) := by kernel_rfl

theorem make_bools (n : Int) (h0 : 0 ≤ n) (h1 : n ≤ 1000000) (w : World) :
    (Instr.makeSlice 70 (.int .i64 n) (.int .i64 n)).run Try.prog w = .ok (.slice (some ⟨w.heap.size, 0, none⟩) n.toNat n.toNat) (w.alloc (.cells (Array.replicate n.toNat (.bool false)) 4)) := by
  obtain ⟨i0, hi, hz0, hz1, hz2⟩ := info_parts info4
  have h := run_makeSlice w 70 4 i0 (.bool false) Try.underlying70 hi hz0 .i64 .i64 n n h0 (Int.le_refl _) (by rw [hz1]; omega) (by rw [hz2]; omega) (by omega)
  have e : madeCells (Value.bool false).cells n.toNat = Array.replicate n.toNat (.bool false) := Array.toList_inj.1 (by rw [show (Value.bool false).cells = #[.bool false] from rfl, toList_madeCells_one, Array.toList_replicate])
  rw [h, hz1, Nat.mul_one, e]

theorem SpC.mono {n0 n1 P F T : Nat} {s : Spc} {w : World} (h : SpC n1 P F T s w) (hn : n0 ≤ n1) : SpC n0 P F T s w := by
  obtain ⟨a1, a2, a3, Ax, cx, Fa, cf, cT, st, h1, h2, h3, h4, h5⟩ := h
  exact ⟨by omega, by omega, by omega, Ax, cx, Fa, cf, cT, st, h1, h2, h3, h4, ownsRow_mono h5 hn⟩

theorem take_int (n0 P F T : Nat) (s : Spc) (page many : Int) (is : Bool) (w : World) (hp : 0 ≤ page) (hm : 0 ≤ many) (hs : SpC n0 P F T s w) (hlen : s.tk.length ≤ 1000000) (hpm : page + many ≤ s.tk.length) :
    Calls Try.prog 72 #[.pointer (some ⟨P, 0, none⟩), .int .i64 page, .int .i64 many, .bool is] w (TakePost n0 P F T s page.toNat is many.toNat w) := by
  obtain ⟨a, rfl⟩ := Int.eq_ofNat_of_zero_le hp
  obtain ⟨b, rfl⟩ := Int.eq_ofNat_of_zero_le hm
  simpa using take_any n0 P F T s a b is w hs hlen (by omega)

abbrev fixOk (size last : Int) (x : Ext) : Prop := last ≤ x.page ∧ x.page < size ∧ 1 ≤ x.many ∧ x.many ≤ size - x.page
theorem fixL_bad {size last : Int} {l : List Ext} {k : Nat} {tk : List Bool} (hk : k < l.length) (h : ¬ fixOk size last l[k]) : fixL size (l.drop k) last tk = none := by
  rw [List.drop_eq_getElem_cons hk, fixL, if_neg h]
theorem fixL_none {size last : Int} {l : List Ext} {k : Nat} {tk : List Bool} (hk : k < l.length) (h : fixOk size last l[k]) (ht : takeL tk l[k].page.toNat true l[k].many.toNat = none) : fixL size (l.drop k) last tk = none := by
  rw [List.drop_eq_getElem_cons hk, fixL, if_pos h, ht]
theorem fixL_some {size last : Int} {l : List Ext} {k : Nat} {tk t : List Bool} (hk : k < l.length) (h : fixOk size last l[k]) (ht : takeL tk l[k].page.toNat true l[k].many.toNat = some t) :
    fixL size (l.drop k) last tk = fixL size (l.drop (k + 1)) (l[k].page + l[k].many) t := by
  rw [List.drop_eq_getElem_cons hk, fixL, if_pos h, ht]

abbrev openB (p : Pic) : Prop := 4 ≤ p.size ∧ p.size ≤ 768 ∧ p.fixed.length ≤ 200 ∧ p.files.length ≤ 200
theorem openL_fix {p : Pic} (hb : openB p) (h : fixL p.size p.fixed 0 (List.replicate p.size.toNat false) = none) : openL p = none := by
  rw [openL, if_pos hb, h]
theorem openL_first {p : Pic} {t : List Bool} (hb : openB p) (h : fixL p.size p.fixed 0 (List.replicate p.size.toNat false) = some t) (h3 : ¬ (t[0]? = some true ∧ t[1]? = some true ∧ t[2]? = some true)) : openL p = none := by
  rw [openL, if_pos hb, h]
  simp only
  rw [if_neg h3]
theorem openL_fil {p : Pic} {t : List Bool} (hb : openB p) (h : fixL p.size p.fixed 0 (List.replicate p.size.toNat false) = some t) (h3 : t[0]? = some true ∧ t[1]? = some true ∧ t[2]? = some true) (h4 : filL p.size p.files (-1) t = none) : openL p = none := by
  rw [openL, if_pos hb, h]
  simp only
  rw [if_pos h3, h4]
theorem openL_some {p : Pic} {t t' : List Bool} (hb : openB p) (h : fixL p.size p.fixed 0 (List.replicate p.size.toNat false) = some t) (h3 : t[0]? = some true ∧ t[1]? = some true ∧ t[2]? = some true) (h4 : filL p.size p.files (-1) t = some t') : openL p = some ⟨p, t', []⟩ := by
  rw [openL, if_pos hb, h]
  simp only
  rw [if_pos h3, h4]

/-- what stands in the loops of open -/
def OpS (n0 n1 P F T : Nat) (p : Pic) (tk : List Bool) (w1 wr : World) : Prop :=
  SpC n1 P F T ⟨p, tk, []⟩ wr ∧ F < wr.heap.size ∧ Below n1 w1 wr ∧ tk.length = p.size.toNat
theorem OpS.below {n0 n1 P F T : Nat} {p : Pic} {tk : List Bool} {w1 wr w2 : World} (h : OpS n0 n1 P F T p tk w1 wr) (hB : Below wr.heap.size wr w2) : OpS n0 n1 P F T p tk w1 w2 := by
  obtain ⟨h1, h2, h3, h4⟩ := h
  have := hB.size
  exact ⟨h1.below hB, by omega, h3.trans (hB.mono (by have := h1.2.1; omega)), h4⟩
theorem OpS.taken {n0 n1 P F T : Nat} {p : Pic} {tk t : List Bool} {w1 wr w2 : World} (h : OpS n0 n1 P F T p tk w1 wr) {a n : Nat} (ht : takeL tk a true n = some t) (hs : SpC n1 P F T ⟨p, t, []⟩ w2) (hF : FrS n1 P F T wr w2) : OpS n0 n1 P F T p t w1 w2 := by
  obtain ⟨h1, h2, h3, h4⟩ := h
  have := hF.1.size
  exact ⟨hs, by omega, h3.trans hF.1, by rw [takeL_length ht, h4]⟩

abbrev filOk (no : Int) (f : Fil) : Prop := no < f.no ∧ f.no ≤ 1073741824 ∧ mustE f.runs = 0 ∧ normL f.runs = f.runs
theorem filL_bad {size no : Int} {l : List Fil} {k : Nat} {tk : List Bool} (hk : k < l.length) (h : ¬ filOk no l[k]) : filL size (l.drop k) no tk = none := by
  rw [List.drop_eq_getElem_cons hk, filL, if_neg h]
theorem filL_none {size no : Int} {l : List Fil} {k : Nat} {tk : List Bool} (hk : k < l.length) (h : filOk no l[k]) (ht : runsL size l[k].runs tk = none) : filL size (l.drop k) no tk = none := by
  rw [List.drop_eq_getElem_cons hk, filL, if_pos h, ht]
theorem filL_some {size no : Int} {l : List Fil} {k : Nat} {tk t : List Bool} (hk : k < l.length) (h : filOk no l[k]) (ht : runsL size l[k].runs tk = some t) :
    filL size (l.drop k) no tk = filL size (l.drop (k + 1)) l[k].no t := by
  rw [List.drop_eq_getElem_cons hk, filL, if_pos h, ht]
theorem runsL_hole {size : Int} {l : List Run} {k : Nat} {tk : List Bool} (hk : k < l.length) (h : l[k].to = -1) : runsL size (l.drop k) tk = runsL size (l.drop (k + 1)) tk := by
  rw [List.drop_eq_getElem_cons hk, runsL, if_pos h]
theorem runsL_bad {size : Int} {l : List Run} {k : Nat} {tk : List Bool} (hk : k < l.length) (h : ¬ l[k].to = -1) (h2 : ¬ (3 ≤ l[k].to ∧ l[k].to ≤ size - l[k].many)) : runsL size (l.drop k) tk = none := by
  rw [List.drop_eq_getElem_cons hk, runsL, if_neg h, if_neg h2]
theorem runsL_none {size : Int} {l : List Run} {k : Nat} {tk : List Bool} (hk : k < l.length) (h : ¬ l[k].to = -1) (h2 : 3 ≤ l[k].to ∧ l[k].to ≤ size - l[k].many) (ht : takeL tk l[k].to.toNat true l[k].many.toNat = none) : runsL size (l.drop k) tk = none := by
  rw [List.drop_eq_getElem_cons hk, runsL, if_neg h, if_pos h2, ht]
theorem runsL_some {size : Int} {l : List Run} {k : Nat} {tk t : List Bool} (hk : k < l.length) (h : ¬ l[k].to = -1) (h2 : 3 ≤ l[k].to ∧ l[k].to ≤ size - l[k].many) (ht : takeL tk l[k].to.toNat true l[k].many.toNat = some t) : runsL size (l.drop k) tk = runsL size (l.drop (k + 1)) t := by
  rw [List.drop_eq_getElem_cons hk, runsL, if_neg h, if_pos h2, ht]

theorem SpC.fileBlock {n0 P F T : Nat} {s : Spc} {w : World} (h : SpC n0 P F T s w) (hne : s.pic.files ≠ []) : ∃ vs, w.heap[F]? = some (.cells vs 46 (0, 0)) := by
  obtain ⟨a1, a2, a3, Ax, cx, Fa, cf, cT, st, h1, h2, h3, h4, h5⟩ := h
  rcases h3 with h3 | ⟨_, vs, hb, _⟩
  · exact absurd h3 hne
  · exact ⟨vs, hb⟩
theorem FrS.t52 {n0 P F T : Nat} {s : Spc} {w w' : World} (h : FrS n0 P F T w w') (hs : SpC n0 P F T s w) (hne : s.pic.files ≠ []) : ∀ (k : Nat) c f, w.heap[k]? = some (.cells c 52 f) → w'.heap[k]? = some (.cells c 52 f) := by
  intro k c f hk
  obtain ⟨vs, hF⟩ := hs.fileBlock hne
  exact h.box hs hk ⟨by decide, by decide, fun e => (by subst e; rw [hF] at hk; cases hk), fun e => absurd e (by decide)⟩

set_option maxRecDepth 100000 in
set_option maxHeartbeats 4000000 in
theorem open_any (p : Pic) (v : Value) (w : World) (hp : PicC w v p) (hn1 : p.fixed.length ≤ 1099511627776) (hn2 : p.files.length ≤ 1099511627776) (hn3 : ∀ f ∈ p.files, f.runs.length ≤ 1099511627776) :
    Calls Try.prog 36 #[v] w (OpenPost p w) := by
  have hpc := hp
  obtain ⟨Ax, cx, Fa, cf, rfl, hx, hf⟩ := hp
  have Hn3 := Lib.hid hn3; clear hn3
  have hmk : ∀ w, 4 ≤ p.size → p.size ≤ 768 → _ := fun w h h' => make_bools p.size (by omega) (by omega) w
  have hB0 := below_alloc (Below.refl _ w) (.cells #[.int .i64 p.size, .slice Ax p.fixed.length cx, .slice Fa p.files.length cf] 25)
  by_cases h1 : 4 ≤ p.size
  rotate_left
  · have d1 : decide (4 ≤ p.size) = false := by simpa using h1
    go_enter Try.func36, Try.ntmps36
    go_wp2_with (go_at_call 37; refine (need_no _ _).mono ?_; rintro e w' ⟨rfl, rfl⟩)
    exact ⟨rfl, .inr ⟨by rw [openL, if_neg (by omega)], rfl⟩, hB0⟩
  have d1 : decide (4 ≤ p.size) = true := by simpa using h1
  by_cases h2 : p.size ≤ 768
  rotate_left
  · have d2 : decide (p.size ≤ 768) = false := by simpa using h2
    go_enter Try.func36, Try.ntmps36
    go_wp2_with (go_at_call 37; refine (need_no _ _).mono ?_; rintro e w' ⟨rfl, rfl⟩)
    exact ⟨rfl, .inr ⟨by rw [openL, if_neg (by omega)], rfl⟩, hB0⟩
  have d2 : decide (p.size ≤ 768) = true := by simpa using h2
  by_cases h3 : p.fixed.length ≤ 200
  rotate_left
  · have d3 : decide ((p.fixed.length : Int) ≤ 200) = false := by simp; omega
    go_enter Try.func36, Try.ntmps36
    go_wp2_with (go_at_call 37; refine (need_no _ _).mono ?_; rintro e w' ⟨rfl, rfl⟩)
    exact ⟨rfl, .inr ⟨by rw [openL, if_neg (by omega)], rfl⟩, hB0⟩
  have d3 : decide ((p.fixed.length : Int) ≤ 200) = true := by simp; omega
  by_cases h4 : p.files.length ≤ 200
  rotate_left
  · have d4 : decide ((p.files.length : Int) ≤ 200) = false := by simp; omega
    go_enter Try.func36, Try.ntmps36
    go_wp2_with (go_at_call 37; refine (need_no _ _).mono ?_; rintro e w' ⟨rfl, rfl⟩)
    exact ⟨rfl, .inr ⟨by rw [openL, if_neg (by omega)], rfl⟩, hB0⟩
  have d4 : decide ((p.files.length : Int) ≤ 200) = true := by simp; omega
  go_enter Try.func36, Try.ntmps36
  go_wp2_with (go_at_call 37; refine (need_yes _ _).mono ?_; rintro e w' ⟨rfl, rfl⟩)
  obtain ⟨w1, hw1⟩ : ∃ w1, (w.alloc (.cells #[.int .i64 p.size, .slice Ax p.fixed.length cx, .slice Fa p.files.length cf] 25)) = w1 := ⟨_, rfl⟩
  have hbox : w1.heap[w.heap.size]? = some (.cells #[.int .i64 p.size, .slice Ax p.fixed.length cx, .slice Fa p.files.length cf] 25 (0, 0)) := by rw [← hw1]; exact World.alloc_heap_new w _
  rw [hw1] at hB0 ⊢
  have hpc1 := hpc.below hB0
  go_cut [3] from 36 to 42 (fun s wx => ∃ P F T, s = .pointer (some ⟨P, 0, none⟩) ∧ SpC w1.heap.size P F T ⟨p, List.replicate p.size.toNat false, []⟩ wx ∧ F < wx.heap.size ∧ Below w1.heap.size w1 wx)
  case first =>
    have hmx : Try.prog.follows .mixedOrders = true := by kernel_rfl
    have c0 := cell_at hbox 0; have c1 := cell_at hbox 1; have c2 := cell_at hbox 2
    simp only [List.getElem?_toArray, List.getElem?_cons_zero, List.getElem?_cons_succ] at c0 c1 c2
    refine wp_region_anyL (L := 7) (C := fun W' => W'.cell? ⟨w.heap.size, 0, none⟩ = some (.int .i64 p.size) ∧ W'.cell? ⟨w.heap.size, 1, none⟩ = some (.slice Ax p.fixed.length cx) ∧ W'.cell? ⟨w.heap.size, 2, none⟩ = some (.slice Fa p.files.length cf)) hmx ?_
    have hCw : (fun W' : World => W'.cell? ⟨w.heap.size, 0, none⟩ = some (.int .i64 p.size) ∧ W'.cell? ⟨w.heap.size, 1, none⟩ = some (.slice Ax p.fixed.length cx) ∧ W'.cell? ⟨w.heap.size, 2, none⟩ = some (.slice Fa p.files.length cf)) w1.drew := ⟨c0, c1, c2⟩
    refine anyL_take (i := 0) ?v0 rfl rfl (by kernel_rfl) (by kernel_rfl) (by kernel_rfl) (by kernel_rfl) (by kernel_rfl) (fun _ _ _ h => h) hCw ⟨.inl ⟨rfl, fun W' hW' => ?y0⟩, fun _ => rfl⟩ ?_
    case y0 => (obtain ⟨q0, q1, q2⟩ := hW'; go_simp; rfl)
    simp only [Act.put, List.setIfInBounds_toArray, List.set_cons_succ, List.set_cons_zero]
    refine anyL_take (i := 2) ?v2 rfl rfl (by kernel_rfl) (by kernel_rfl) (by kernel_rfl) (by kernel_rfl) (by kernel_rfl) (fun _ _ _ h => h) hCw ⟨.inl ⟨rfl, fun W' hW' => ?y2⟩, fun _ => rfl⟩ ?_
    case y2 => (obtain ⟨q0, q1, q2⟩ := hW'; go_simp; rfl)
    simp only [Act.put, List.setIfInBounds_toArray, List.set_cons_succ, List.set_cons_zero]
    refine anyL_take (i := 3) ?v3 rfl rfl (by kernel_rfl) (by kernel_rfl) (by kernel_rfl) (by kernel_rfl) (by kernel_rfl) (fun _ _ _ h => h) hCw ⟨.inl ⟨rfl, fun W' hW' => ?y3⟩, fun _ => rfl⟩ ?_
    case y3 => (obtain ⟨q0, q1, q2⟩ := hW'; go_simp; rfl)
    simp only [Act.put, List.setIfInBounds_toArray, List.set_cons_succ, List.set_cons_zero]
    refine anyL_two (i := 1) (j := 4) (by kernel_rfl) (wpOpIn_step rfl (fun K' hK' => ?_)) (wpOpIn_step rfl (fun K' hK' => ?_))
    · go_simp
      refine ⟨trivial, rfl, (callsIn_wide.2 (copied_any p _ _ (hpc1.below (Below.refl _ _).drew) hn1 hn2 Hn3.out)).mono ?_⟩
      rintro e w2 ⟨⟨F, A1, c1', A2, c2', hF1, hF2, rfl, hX2, hFil2⟩, hB2⟩
      have hCw2 : (fun W' : World => W'.cell? ⟨w.heap.size, 0, none⟩ = some (.int .i64 p.size) ∧ W'.cell? ⟨w.heap.size, 1, none⟩ = some (.slice Ax p.fixed.length cx) ∧ W'.cell? ⟨w.heap.size, 2, none⟩ = some (.slice Fa p.files.length cf)) w2 := ⟨cell_below hCw.1 hB2, cell_below hCw.2.1 hB2, cell_below hCw.2.2 hB2⟩
      refine hK' _ _ ⟨fun _ => hCw2, ?_⟩
      clear hK' K'
      refine anyL_only (i := 4) (by kernel_rfl) (wpOpIn_step rfl (fun K' hK' => ?_))
      go_simp
      have hCw3 : (fun W' : World => W'.cell? ⟨w.heap.size, 0, none⟩ = some (.int .i64 p.size) ∧ W'.cell? ⟨w.heap.size, 1, none⟩ = some (.slice Ax p.fixed.length cx) ∧ W'.cell? ⟨w.heap.size, 2, none⟩ = some (.slice Fa p.files.length cf)) (w2.alloc (.cells (Array.replicate p.size.toNat (.bool false)) 4)) := ⟨cell_below hCw2.1 (below_alloc (Below.refl _ _) _), cell_below hCw2.2.1 (below_alloc (Below.refl _ _) _), cell_below hCw2.2.2 (below_alloc (Below.refl _ _) _)⟩
      refine hK' _ _ ⟨fun _ => hCw3, ?_⟩
      clear hK' K'
      refine anyL_take (i := 5) ?v5 rfl rfl (by kernel_rfl) (by kernel_rfl) (by kernel_rfl) (by kernel_rfl) (by kernel_rfl) (fun _ _ _ h => h) hCw3 ⟨.inl ⟨rfl, fun W' hW' => ?y5⟩, fun _ => rfl⟩ ?_
      case y5 => (skip; go_simp; rfl)
      simp only [Act.put, List.setIfInBounds_toArray, List.set_cons_succ, List.set_cons_zero]
      refine anyL_only (i := 6) (by kernel_rfl) (wpOpIn_step rfl (fun K' hK' => ?_))
      go_simp
      refine hK' _ _ ⟨fun _ => ⟨cell_below hCw3.1 (below_alloc (Below.refl _ _) _), cell_below hCw3.2.1 (below_alloc (Below.refl _ _) _), cell_below hCw3.2.2 (below_alloc (Below.refl _ _) _)⟩, ?_⟩
      clear hK' K'
      refine anyL_last (by kernel_rfl) (by kernel_rfl) (wpOpIn_step rfl (fun K' hK' => ?_))
      go_simp
      refine hK' _ _ ?_
      clear hK' K'
      have hsz : w1.heap.size ≤ w2.heap.size := hB2.size
      have hmono := hB2.mono (B' := w1.heap.size) (Nat.le_refl _)
      go_wp2_with fail
      go_meet
      refine ⟨w2.heap.size + 1, F, w2.heap.size, rfl, SpC.make (cx := c1') (cf := c2') (cT := p.size.toNat) ((hX2.kept (fun k c f hk => heap_alloc_old' hk _)).kept (fun k c f hk => heap_alloc_old' hk _)) ((hFil2.kept (fun k c f hk => heap_alloc_old' hk _) (fun c f hk => heap_alloc_old' hk _)).kept (fun k c f hk => heap_alloc_old' hk _) (fun c f hk => heap_alloc_old' hk _)) hF1 (by omega) hsz (heap_new _ _ (by simp)) (heap_alloc_old' (World.alloc_heap_new w2 _) _), ?_, ?_⟩
      · simp; omega
      · exact ((Below.refl w1.heap.size w1).drew.trans (hB2.alloc (by exact hsz) _)).alloc (by simp; omega) _
    · go_simp
      have hCw2 : (fun W' : World => W'.cell? ⟨w.heap.size, 0, none⟩ = some (.int .i64 p.size) ∧ W'.cell? ⟨w.heap.size, 1, none⟩ = some (.slice Ax p.fixed.length cx) ∧ W'.cell? ⟨w.heap.size, 2, none⟩ = some (.slice Fa p.files.length cf)) (w1.drew.alloc (.cells (Array.replicate p.size.toNat (.bool false)) 4)) := ⟨cell_below hCw.1 (below_alloc (Below.refl _ _) _), cell_below hCw.2.1 (below_alloc (Below.refl _ _) _), cell_below hCw.2.2 (below_alloc (Below.refl _ _) _)⟩
      have hB12 : Below w1.heap.size w1 (w1.drew.alloc (.cells (Array.replicate p.size.toNat (.bool false)) 4)) := (Below.refl _ _).drew.alloc (Nat.le_refl _) _
      refine hK' _ _ ⟨fun _ => hCw2, ?_⟩
      clear hK' K'
      refine anyL_only (i := 1) (by kernel_rfl) (wpOpIn_step rfl (fun K' hK' => ?_))
      go_simp
      refine ⟨trivial, rfl, (callsIn_wide.2 (copied_any p _ _ (hpc1.below hB12) hn1 hn2 Hn3.out)).mono ?_⟩
      rintro e w2 ⟨⟨F, A1, c1', A2, c2', hF1, hF2, rfl, hX2, hFil2⟩, hB2⟩
      have hCw3 : (fun W' : World => W'.cell? ⟨w.heap.size, 0, none⟩ = some (.int .i64 p.size) ∧ W'.cell? ⟨w.heap.size, 1, none⟩ = some (.slice Ax p.fixed.length cx) ∧ W'.cell? ⟨w.heap.size, 2, none⟩ = some (.slice Fa p.files.length cf)) w2 := ⟨cell_below hCw2.1 hB2, cell_below hCw2.2.1 hB2, cell_below hCw2.2.2 hB2⟩
      refine hK' _ _ ⟨fun _ => hCw3, ?_⟩
      clear hK' K'
      refine anyL_take (i := 5) ?v5b rfl rfl (by kernel_rfl) (by kernel_rfl) (by kernel_rfl) (by kernel_rfl) (by kernel_rfl) (fun _ _ _ h => h) hCw3 ⟨.inl ⟨rfl, fun W' hW' => ?y5b⟩, fun _ => rfl⟩ ?_
      case y5b => (skip; go_simp; rfl)
      simp only [Act.put, List.setIfInBounds_toArray, List.set_cons_succ, List.set_cons_zero]
      refine anyL_only (i := 6) (by kernel_rfl) (wpOpIn_step rfl (fun K' hK' => ?_))
      go_simp
      refine hK' _ _ ⟨fun _ => ⟨cell_below hCw3.1 (below_alloc (Below.refl _ _) _), cell_below hCw3.2.1 (below_alloc (Below.refl _ _) _), cell_below hCw3.2.2 (below_alloc (Below.refl _ _) _)⟩, ?_⟩
      clear hK' K'
      refine anyL_last (by kernel_rfl) (by kernel_rfl) (wpOpIn_step rfl (fun K' hK' => ?_))
      go_simp
      refine hK' _ _ ?_
      clear hK' K'
      have hsz : w1.heap.size + 1 ≤ w2.heap.size := by have := hB2.size; simpa using this
      have hTn : w2.heap[w1.heap.size]? = some (.cells (Array.replicate p.size.toNat (.bool false)) 4) := block_below (World.alloc_heap_new w1.drew _) hB2
      have hF1' : w1.heap.size + 1 ≤ F := by simpa using hF1
      go_wp2_with fail
      go_meet
      refine ⟨w2.heap.size, F, w1.heap.size, rfl, SpC.make (cx := c1') (cf := c2') (cT := p.size.toNat) (hX2.kept (fun k c f hk => heap_alloc_old' hk _)) (hFil2.kept (fun k c f hk => heap_alloc_old' hk _) (fun c f hk => heap_alloc_old' hk _)) (by omega) (by omega) (Nat.le_refl _) (World.alloc_heap_new w2 _) (heap_alloc_old' hTn _), ?_, ?_⟩
      · simp; omega
      · exact (below_then hB12 hB2).alloc (by omega) _
  case rest =>
    obtain ⟨P, F, T, rfl, hS, hFs, hB2⟩ := hcut
    have hob : openB p := ⟨h1, h2, h3, h4⟩
    have hn : w1.heap.size = w.heap.size + 1 := by rw [← hw1]; simp
    have hx1 : ExtC w1 Ax p.fixed := hx.below hB0
    have hf1 : FilC w1 Fa p.files := hf.below hB0
    have hOp : OpS w.heap.size w1.heap.size P F T p (List.replicate p.size.toNat false) w1 wc := ⟨hS, hFs, hB2, by simp⟩
    obtain ⟨n1, hn1'⟩ : ∃ n1, w1.heap.size = n1 := ⟨_, rfl⟩
    rw [hn1'] at hOp hB2
    have hbx := block_below hbox (by rw [hn1']; exact hB2)
    have x1 := cell_at hbx 1
    simp only [List.getElem?_toArray, List.getElem?_cons_zero, List.getElem?_cons_succ] at x1
    have Hob := Lib.hid hob; clear hob
    have Hx1 := Lib.hid hx1; have Hf1 := Lib.hid hf1; have Hbox := Lib.hid hbox
    have HOp := Lib.hid hOp
    have HB0 := Lib.hid hB0
    have Hw1 := Lib.hid hw1
    clear hx1 hf1 hbox hOp hB0 hbx hS hpc hpc1 hx hf hw1
    go_wp2_with fail
    go_loopw [4, 46] (fun la i wr => ∃ (k : Nat) (last : Int) (tk : List Bool), k ≤ p.fixed.length ∧ i = .int .i64 k ∧ la = .int .i64 last ∧ Hid (0 ≤ last ∧ last ≤ p.size ∧ fixL p.size p.fixed 0 (List.replicate p.size.toNat false) = fixL p.size (p.fixed.drop k) last tk ∧ OpS w.heap.size n1 P F T p tk w1 wr)) (fun _ i _ => p.fixed.length - (intOf i).toNat)
    case atStart => exact ⟨0, 0, _, by omega, by simp, rfl, Lib.hid ⟨by omega, by omega, by simp, HOp.out⟩⟩
    case round =>
      clear HOp
      obtain ⟨k, last, tk, hk, rfl, rfl, HR⟩ := hrel
      by_cases hlt : k < p.fixed.length
      · obtain ⟨b, o, rfl, e0, e1⟩ := (Hx1.out.below (w' := wr) (by rw [hn1']; exact HR.out.2.2.2.2.2.1)) k hlt
        have hbx := block_below Hbox.out (w' := wr) (by rw [hn1']; exact HR.out.2.2.2.2.2.1)
        have x0 := cell_at hbx 0
        simp only [List.getElem?_toArray, List.getElem?_cons_zero, List.getElem?_cons_succ] at x0
        have hl0 := HR.out.1
        have hl1 := HR.out.2.1
        have hP := HR.out.2.2.2.1.1
        have hfail : ∀ X, Below wr.heap.size wr X → Below w.heap.size w X := fun X hX => HB0.out.trans ((HR.out.2.2.2.2.2.1.trans (hX.mono (by have := HR.out.2.2.2.2.2.1.size; omega))).mono (by omega))
        have x0' := cell_below x0 (below_alloc (Below.refl wr.heap.size wr) (.cells #[.int .i64 p.fixed[k].page, .int .i64 p.fixed[k].many] 54))
        by_cases g1 : last ≤ p.fixed[k].page
        rotate_left
        · have dg1 : decide (last ≤ p.fixed[k].page) = false := by simpa using g1
          go_wp2_with (go_at_call 37; refine (need_no _ _).mono ?_; rintro e w' ⟨rfl, rfl⟩)
          exact ⟨rfl, .inr ⟨openL_fix Hob.out (HR.out.2.2.1.trans (fixL_bad hlt (by omega))), rfl⟩, hfail _ (below_alloc (Below.refl _ _) _)⟩
        have dg1 : decide (last ≤ p.fixed[k].page) = true := by simpa using g1
        by_cases g2 : p.fixed[k].page < p.size
        rotate_left
        · have dg2 : decide (p.fixed[k].page < p.size) = false := by simpa using g2
          go_wp2_with (go_at_call 37; refine (need_no _ _).mono ?_; rintro e w' ⟨rfl, rfl⟩)
          exact ⟨rfl, .inr ⟨openL_fix Hob.out (HR.out.2.2.1.trans (fixL_bad hlt (by omega))), rfl⟩, hfail _ (below_alloc (Below.refl _ _) _)⟩
        have dg2 : decide (p.fixed[k].page < p.size) = true := by simpa using g2
        by_cases g3 : 1 ≤ p.fixed[k].many
        rotate_left
        · have dg3 : decide (1 ≤ p.fixed[k].many) = false := by simpa using g3
          go_wp2_with (go_at_call 37; refine (need_no _ _).mono ?_; rintro e w' ⟨rfl, rfl⟩)
          exact ⟨rfl, .inr ⟨openL_fix Hob.out (HR.out.2.2.1.trans (fixL_bad hlt (by omega))), rfl⟩, hfail _ (below_alloc (Below.refl _ _) _)⟩
        have dg3 : decide (1 ≤ p.fixed[k].many) = true := by simpa using g3
        by_cases g4 : p.fixed[k].many ≤ p.size - p.fixed[k].page
        rotate_left
        · have dg4 : decide (p.fixed[k].many ≤ p.size - p.fixed[k].page) = false := by simpa using g4
          go_wp2_with (go_at_call 37; refine (need_no _ _).mono ?_; rintro e w' ⟨rfl, rfl⟩)
          exact ⟨rfl, .inr ⟨openL_fix Hob.out (HR.out.2.2.1.trans (fixL_bad hlt (by omega))), rfl⟩, hfail _ (below_alloc (Below.refl _ _) _)⟩
        have dg4 : decide (p.fixed[k].many ≤ p.size - p.fixed[k].page) = true := by simpa using g4
        have hfo : fixOk p.size last p.fixed[k] := ⟨g1, g2, g3, g4⟩
        have hOp2 := HR.out.2.2.2.below (below_alloc (Below.refl wr.heap.size wr) (.cells #[.int .i64 p.fixed[k].page, .int .i64 p.fixed[k].many] 54))
        have htl := hOp2.2.2.2
        have HOp2 := Lib.hid hOp2; clear hOp2
        have Hfo := Lib.hid hfo; clear hfo
        go_wp2_with (go_at_call 37; refine (need_yes _ _).mono ?_; rintro e w' ⟨rfl, rfl⟩)
        refine (take_int n1 P F T ⟨p, tk, []⟩ _ _ true _ (by omega) (by omega) HOp2.out.1 (by dsimp only; omega) (by dsimp only; omega)).mono ?_
        rintro e w4 ⟨⟨t, ht, rfl, hs4⟩ | ⟨ht, rfl⟩, hF4⟩
        · have hnx := HOp2.out.taken ht hs4 hF4
          have hfx := HR.out.2.2.1.trans (fixL_some hlt Hfo.out ht)
          have HN := Lib.hid (And.intro (show 0 ≤ p.fixed[k].page + p.fixed[k].many by omega) (And.intro (show p.fixed[k].page + p.fixed[k].many ≤ p.size by omega) (And.intro hfx hnx)))
          clear hnx hfx hs4 hF4 ht
          go_wp2_with fail
          exact ⟨⟨k + 1, p.fixed[k].page + p.fixed[k].many, t, by omega, by simp, rfl, HN⟩, by simp [intOf]; omega⟩
        · have hfx := HR.out.2.2.1.trans (fixL_none hlt Hfo.out ht)
          exact ⟨rfl, .inr ⟨openL_fix Hob.out hfx, rfl⟩, (hfail _ (below_alloc (Below.refl _ _) _)).trans (hF4.1.mono (by omega))⟩
      · obtain rfl : k = p.fixed.length := by omega
        have hfx := HR.out.2.2.1
        rw [List.drop_length] at hfx
        simp only [fixL] at hfx
        have hOp := HR.out.2.2.2
        have Hfx := Lib.hid hfx; have HOp := Lib.hid hOp
        clear hfx hOp HR
        go_wp2_with fail
        have hF0 : w1.heap.size ≤ wr.heap.size := HOp.out.2.2.1.size
        go_loopw [89] (fun i wr => ∃ k : Nat, k ≤ 3 ∧ i = .int .i64 k ∧ Hid ((∀ j, j < k → tk[j]? = some true) ∧ OpS w.heap.size n1 P F T p tk w1 wr)) (fun i _ => 3 - (intOf i).toNat)
        case atStart => exact ⟨0, by omega, by simp, Lib.hid ⟨fun j hj => by omega, HOp.out⟩⟩
        case round =>
          clear HOp hF0
          obtain ⟨k, hk3, rfl, HQ⟩ := hrel
          have htl : tk.length = p.size.toNat := HQ.out.2.2.2.2
          have hfail : ∀ X, Below n1 w1 X → Below w.heap.size w X := fun X hX => HB0.out.trans (hX.mono (by omega))
          by_cases hlt3 : k < 3
          · have hkt : k < tk.length := by omega
            obtain ⟨Ax', cx', Fa', cf', cT', st', -, -, -, y3, -⟩ := HQ.out.2.1.cellP
            obtain ⟨yT, zT⟩ := HQ.out.2.1.cellT hkt
            dsimp only at y3 yT
            cases hb : tk[k] with
            | true =>
              rw [hb] at yT
              go_wp2_with (go_at_call 37; refine (need_yes _ _).mono ?_; rintro e w' ⟨rfl, rfl⟩)
              refine ⟨⟨k + 1, by omega, by simp, Lib.hid ⟨fun j hj => ?_, HQ.out.2⟩⟩, by simp [intOf]; omega⟩
              by_cases e : j = k
              · subst e; rw [List.getElem?_eq_getElem hkt, hb]
              · exact HQ.out.1 j (by omega)
            | false =>
              rw [hb] at yT
              go_wp2_with (go_at_call 37; refine (need_no _ _).mono ?_; rintro e w' ⟨rfl, rfl⟩)
              refine ⟨rfl, .inr ⟨openL_first Hob.out Hfx.out (fun h => ?_), rfl⟩, hfail _ HQ.out.2.2.2.1⟩
              have : tk[k]? = some false := by rw [List.getElem?_eq_getElem hkt, hb]
              have h3 : k = 0 ∨ k = 1 ∨ k = 2 := by omega
              rcases h3 with rfl | rfl | rfl
              · rw [h.1] at this; cases this
              · rw [h.2.1] at this; cases this
              · rw [h.2.2] at this; cases this
          · obtain rfl : k = 3 := by omega
            have h012 : tk[0]? = some true ∧ tk[1]? = some true ∧ tk[2]? = some true := ⟨HQ.out.1 0 (by omega), HQ.out.1 1 (by omega), HQ.out.1 2 (by omega)⟩
            have H012 := Lib.hid h012; clear h012
            have HOp := Lib.hid HQ.out.2; clear HQ
            have hbx := block_below Hbox.out (w' := wr) (by rw [hn1']; exact HOp.out.2.2.1)
            have x2 := cell_at hbx 2
            simp only [List.getElem?_toArray, List.getElem?_cons_zero, List.getElem?_cons_succ] at x2
            clear hbx
            go_wp2_with fail
            go_loopw [8, 104] (fun no i wr => ∃ (k : Nat) (n : Int) (tk' : List Bool), k ≤ p.files.length ∧ i = .int .i64 k ∧ no = .int .i64 n ∧ Hid (filL p.size p.files (-1) tk = filL p.size (p.files.drop k) n tk' ∧ OpS w.heap.size n1 P F T p tk' w1 wr)) (fun _ i _ => p.files.length - (intOf i).toNat)
            case atStart => exact ⟨0, -1, tk, by omega, by simp, rfl, Lib.hid ⟨by simp, HOp.out⟩⟩
            case round =>
              clear HOp
              obtain ⟨k, no, tk', hk', rfl, rfl, HQ⟩ := hrel
              by_cases hltf : k < p.files.length
              rotate_left
              · obtain rfl : k = p.files.length := by omega
                have hfl := HQ.out.1
                rw [List.drop_length] at hfl
                simp only [filL] at hfl
                have hS := HQ.out.2.1
                have hFs := HQ.out.2.2.1
                have hBe := hfail _ HQ.out.2.2.2.1
                have Hfl := Lib.hid hfl; clear hfl
                go_wp2_with fail
                go_ret
                exact ⟨.inl ⟨_, P, F, T, openL_some Hob.out Hfx.out H012.out Hfl.out, rfl, hS.mono (by omega), hFs⟩, hBe⟩
              have hB1 : Below w1.heap.size w1 wr := by rw [hn1']; exact HQ.out.2.2.2.1
              have hsz1 : n1 ≤ wr.heap.size := by have := hB1.size; omega
              obtain ⟨b, o, A', c', rfl, e0, e1, hrun⟩ := (Hf1.out.below hB1) k hltf
              have hup : ∀ (X : World), Below wr.heap.size wr X → Below n1 w1 X := fun X hX => HQ.out.2.2.2.1.trans (hX.mono hsz1)
              have hbx := block_below Hbox.out hB1
              have x0 := cell_at hbx 0
              simp only [List.getElem?_toArray, List.getElem?_cons_zero, List.getElem?_cons_succ] at x0
              have hB46 := below_alloc (Below.refl wr.heap.size wr) (.cells #[.int .i64 p.files[k].no, .slice A' p.files[k].runs.length c'] 46)
              have x0' := cell_below x0 hB46
              have hb46 := World.alloc_heap_new wr (.cells #[.int .i64 p.files[k].no, .slice A' p.files[k].runs.length c'] 46)
              by_cases g1 : no < p.files[k].no
              rotate_left
              · have dg1 : decide (no < p.files[k].no) = false := by simpa using g1
                go_wp2_with (go_at_call 37; refine (need_no _ _).mono ?_; rintro e w' ⟨rfl, rfl⟩)
                exact ⟨rfl, .inr ⟨openL_fil Hob.out Hfx.out H012.out (HQ.out.1.trans (filL_bad hltf (by omega))), rfl⟩, hfail _ (hup _ (below_alloc (Below.refl _ _) _))⟩
              have dg1 : decide (no < p.files[k].no) = true := by simpa using g1
              by_cases g2 : p.files[k].no ≤ 1073741824
              rotate_left
              · have dg2 : decide (p.files[k].no ≤ 1073741824) = false := by simpa using g2
                go_wp2_with (go_at_call 37; refine (need_no _ _).mono ?_; rintro e w' ⟨rfl, rfl⟩)
                exact ⟨rfl, .inr ⟨openL_fil Hob.out Hfx.out H012.out (HQ.out.1.trans (filL_bad hltf (by omega))), rfl⟩, hfail _ (hup _ (below_alloc (Below.refl _ _) _))⟩
              have dg2 : decide (p.files[k].no ≤ 1073741824) = true := by simpa using g2
              have hrl : p.files[k].runs.length ≤ 1099511627776 := Hn3.out _ (List.getElem_mem hltf)
              go_wp2_with (go_at_call 37; refine (need_yes _ _).mono ?_; rintro e w' ⟨rfl, rfl⟩)
              refine (norm_any p.files[k].runs A' c' _ hrl (hrun.below hB46)).mono ?_
              rintro e w4 ⟨⟨A4, c4, rfl, hown4⟩, hB4⟩
              have hBw4 := below_then hB46 hB4
              have hb4 := block_below hb46 hB4
              have f1 := cell_at hb4 1
              simp only [List.getElem?_toArray, List.getElem?_cons_zero, List.getElem?_cons_succ] at f1
              have x4 := cell_below x0 hBw4
              have hQ4 := HQ.out.2.below hBw4
              have hrun4 := hrun.below hBw4
              by_cases g3 : mustE p.files[k].runs = 0
              rotate_left
              · have dg3 : (mustE p.files[k].runs == 0) = false := by simpa using g3
                have Hg3 := Lib.hid g3; clear g3
                clear hown4
                go_wp2_with (first | (go_at_call 37; refine (need_no _ _).mono ?_; rintro e w' ⟨rfl, rfl⟩) )
                exact ⟨rfl, .inr ⟨openL_fil Hob.out Hfx.out H012.out (HQ.out.1.trans (filL_bad hltf (fun h => Hg3.out h.2.2.1))), rfl⟩, hfail _ (hup _ hBw4)⟩
              have dg3 : (mustE p.files[k].runs == 0) = true := by simpa using g3
              rw [if_pos g3] at hown4
              have hif : (if mustE p.files[k].runs = 0 then normL p.files[k].runs else []) = normL p.files[k].runs := if_pos g3
              rw [hif]
              have Hg3 := Lib.hid g3; clear g3 hif
              have hr4 := RunsC.of_owns hown4
              have hnl : (normL p.files[k].runs).length ≤ 1099511627776 := Nat.le_trans (length_normL _) hrl
              by_cases g4 : normL p.files[k].runs = p.files[k].runs
              rotate_left
              · have dg4 : decide (normL p.files[k].runs = p.files[k].runs) = false := by simpa using g4
                have Hg4 := Lib.hid g4; clear g4
                clear hown4
                go_wp2_with (first | (go_at_call 70; refine (equalR_any _ _ _ _ _ _ _ hnl hr4 hrun4).mono ?_; rintro e w5 ⟨rfl, hB5⟩) | (go_at_call 37; refine (need_no _ _).mono ?_; rintro e w' ⟨rfl, rfl⟩) )
                exact ⟨rfl, .inr ⟨openL_fil Hob.out Hfx.out H012.out (HQ.out.1.trans (filL_bad hltf (fun h => Hg4.out h.2.2.2))), rfl⟩, hfail _ (hup _ (below_then hBw4 hB5))⟩
              have dg4 : decide (normL p.files[k].runs = p.files[k].runs) = true := by simpa using g4
              have hT4 := RunsT.of_owns hown4
              rw [g4] at hT4 hr4 hnl dg4
              have g4' := g4
              have hlen4 : (normL p.files[k].runs).length = p.files[k].runs.length := by rw [g4]
              rw [hlen4]
              have Hg4 := Lib.hid g4; clear g4 g4' hown4 hlen4
              have Hrb := Lib.hid (mustE_zero Hg3.out)
              have hnef : p.files ≠ [] := by intro e; rw [e] at hltf; simp at hltf
              have HQ4 := Lib.hid hQ4; have HT4 := Lib.hid hT4
              clear hQ4 hT4
              go_wp2_with (first | (go_at_call 70; refine (equalR_any _ _ _ _ _ _ _ hnl hr4 hrun4).mono ?_; rintro e w5 ⟨rfl, hB5⟩) | (go_at_call 37; refine (need_yes _ _).mono ?_; rintro e w' ⟨rfl, rfl⟩))
              have hQ5 := HQ4.out.below hB5
              have hT5 := HT4.out.kept (fun j c f hj => block_below hj hB5)
              have hx5 := cell_below x4 hB5
              have HS5 := Lib.hid (And.intro hQ5 (And.intro hT5 hx5))
              clear hQ5 hT5 hx5 HQ4 HT4 hr4 hrun4 hb4 f1 x4 hB4 hBw4 hB5 hb46 hB46 x0' x0 hbx hrun e0 e1
              go_loopw [137] (fun i wr => ∃ (j : Nat) (tk2 : List Bool), j ≤ p.files[k].runs.length ∧ i = .int .i64 j ∧ Hid (runsL p.size p.files[k].runs tk' = runsL p.size (p.files[k].runs.drop j) tk2 ∧ OpS w.heap.size n1 P F T p tk2 w1 wr ∧ RunsT wr A4 p.files[k].runs ∧ wr.cell? ⟨w.heap.size, 0, none⟩ = some (.int .i64 p.size))) (fun i _ => p.files[k].runs.length - (intOf i).toNat)
              case atStart => exact ⟨0, tk', by omega, by simp, Lib.hid ⟨by simp, HS5.out⟩⟩
              case round =>
                clear HS5
                obtain ⟨j, tk2, hj, rfl, HJ⟩ := hrel
                by_cases hltj : j < p.files[k].runs.length
                rotate_left
                · obtain rfl : j = p.files[k].runs.length := by omega
                  have hfl := HJ.out.1
                  rw [List.drop_length] at hfl
                  simp only [runsL] at hfl
                  have hnx := HQ.out.1.trans (filL_some hltf ⟨g1, g2, Hg3.out, Hg4.out⟩ hfl)
                  have HN := Lib.hid (And.intro hnx HJ.out.2.1)
                  clear hnx hfl
                  go_wp2_with fail
                  refine ⟨?AA, ?BB⟩
                  case BB => simp [intOf]; omega
                  case AA =>
                    (repeat apply Exists.intro)
                    refine ⟨?rel, rfl⟩
                    exact ⟨k + 1, _, tk2, by omega, by go_num, rfl, HN⟩
                obtain ⟨b4, o4, rfl, r0, r1⟩ := HJ.out.2.2.1.c j hltj
                have hB52 := below_alloc (Below.refl wr.heap.size wr) (.cells #[.int .i64 p.files[k].runs[j].to, .int .i64 p.files[k].runs[j].many] 52)
                have xc := HJ.out.2.2.2
                have xc' := cell_below xc hB52
                obtain ⟨m1, m2, m3, m4⟩ := Hrb.out.2.1 _ (List.getElem_mem hltj)
                by_cases ht1 : p.files[k].runs[j].to = -1
                · have dt : (p.files[k].runs[j].to != -1) = false := by simpa using ht1
                  have hnx := HJ.out.1.trans (runsL_hole hltj ht1)
                  have HN := Lib.hid (And.intro hnx (And.intro (HJ.out.2.1.below hB52) (And.intro (HJ.out.2.2.1.kept (fun q c f hq => block_below hq hB52)) xc')))
                  have Ht1 := Lib.hid ht1
                  clear hnx ht1
                  go_wp2_with fail
                  exact ⟨⟨j + 1, tk2, by omega, by simp, HN⟩, by simp [intOf]; omega⟩
                · have dt : (p.files[k].runs[j].to != -1) = true := by simpa using ht1
                  by_cases q1 : 3 ≤ p.files[k].runs[j].to
                  rotate_left
                  · have dq1 : decide (3 ≤ p.files[k].runs[j].to) = false := by simpa using q1
                    go_wp2_with (go_at_call 37; refine (need_no _ _).mono ?_; rintro e w' ⟨rfl, rfl⟩)
                    exact ⟨rfl, .inr ⟨openL_fil Hob.out Hfx.out H012.out (HQ.out.1.trans (filL_none hltf ⟨g1, g2, Hg3.out, Hg4.out⟩ (HJ.out.1.trans (runsL_bad hltj (by simpa using ht1) (by omega))))), rfl⟩, hfail _ (HJ.out.2.1.below hB52).2.2.1⟩
                  have dq1 : decide (3 ≤ p.files[k].runs[j].to) = true := by simpa using q1
                  by_cases q2 : p.files[k].runs[j].to ≤ p.size - p.files[k].runs[j].many
                  rotate_left
                  · have dq2 : decide (p.files[k].runs[j].to ≤ p.size - p.files[k].runs[j].many) = false := by simpa using q2
                    go_wp2_with (go_at_call 37; refine (need_no _ _).mono ?_; rintro e w' ⟨rfl, rfl⟩)
                    exact ⟨rfl, .inr ⟨openL_fil Hob.out Hfx.out H012.out (HQ.out.1.trans (filL_none hltf ⟨g1, g2, Hg3.out, Hg4.out⟩ (HJ.out.1.trans (runsL_bad hltj (by simpa using ht1) (by omega))))), rfl⟩, hfail _ (HJ.out.2.1.below hB52).2.2.1⟩
                  have dq2 : decide (p.files[k].runs[j].to ≤ p.size - p.files[k].runs[j].many) = true := by simpa using q2
                  have htl2 : tk2.length = p.size.toNat := HJ.out.2.1.2.2.2
                  have hQ52 := HJ.out.2.1.below hB52
                  have HQ52 := Lib.hid hQ52; clear hQ52
                  go_wp2_with (go_at_call 37; refine (need_yes _ _).mono ?_; rintro e w' ⟨rfl, rfl⟩)
                  refine (take_int n1 P F T ⟨p, tk2, []⟩ _ _ true _ (by omega) (by omega) HQ52.out.1 (by dsimp only; omega) (by dsimp only; omega)).mono ?_
                  rintro e w6 ⟨⟨t, ht, rfl, hs6⟩ | ⟨ht, rfl⟩, hF6⟩
                  · have hnx := HJ.out.1.trans (runsL_some hltj ht1 ⟨q1, q2⟩ ht)
                    have hT6 := (HJ.out.2.2.1.kept (fun q c f hq => block_below hq hB52)).kept (hF6.t52 HQ52.out.1 hnef)
                    have hx6 := (World.cell?_of_block (a := ⟨w.heap.size, 0, none⟩) (hF6.1.block w.heap.size (by omega))).trans xc'
                    have HN := Lib.hid (And.intro hnx (And.intro (HQ52.out.taken ht hs6 hF6) (And.intro hT6 hx6)))
                    clear hnx hT6 hx6 hs6 hF6 ht
                    go_wp2_with fail
                    exact ⟨⟨j + 1, t, by omega, by simp, HN⟩, by simp [intOf]; omega⟩
                  · have hnx := HJ.out.1.trans (runsL_none hltj ht1 ⟨q1, q2⟩ ht)
                    exact ⟨rfl, .inr ⟨openL_fil Hob.out Hfx.out H012.out (HQ.out.1.trans (filL_none hltf ⟨g1, g2, Hg3.out, Hg4.out⟩ hnx)), rfl⟩, hfail _ (HQ52.out.2.2.1.trans hF6.1)⟩
end Go.Proofs.Yteipclnlfanfeaa

/- runs: Map as a function. -/
namespace Go.Proofs.Yteipclnlfanfeaa
open Go.RowKit

/-- where a page lies, and for how many pages; none: behind the end -/
def mapL (l : List Run) (page : Int) : Option (Int × Int) := ((startsL 0 (normL l)).find? fun x => decide (page < x.1 + x.2.many)).map (mapR · page)

theorem startsL_end {a : Int} {l : List Run} (h : ∀ r ∈ l, 0 ≤ r.many) {x : Int × Run} (hx : x ∈ startsL a l) : x.1 + x.2.many ≤ a + pagesL l := by
  induction l generalizing a with
  | nil => simp [startsL] at hx
  | cons r l ih =>
    have hn := pagesL_nonneg (fun r hr => h r (by simp [hr]) : ∀ r ∈ l, 0 ≤ r.many)
    simp only [startsL, List.mem_cons] at hx
    simp only [pagesL]
    rcases hx with rfl | hx
    · dsimp only; omega
    · have := ih (fun r hr => h r (by simp [hr])) hx; omega

theorem mapL_out {l : List Run} {page : Int} (h : ∀ r ∈ l, 0 ≤ r.many) (hp : pagesL l ≤ page) : mapL l page = none := by
  unfold mapL
  rw [List.find?_eq_none.2]
  · rfl
  · intro x hx
    have := startsL_end (many_normL h) hx
    rw [pages_normL] at this
    simp; omega

def MapIs (l : List Run) (page : Int) (w : World) (e : Ending) (w' : World) : Prop :=
  ((∃ f m, mapL l page = some (f, m) ∧ e = .returned (.tuple #[.int .i64 f, .int .i64 m, .int .i64 0])) ∨ (mapL l page = none ∧ e = .returned (.tuple #[.int .i64 0, .int .i64 0, .int .i64 24]))) ∧ Below w.heap.size w w'

theorem map_any (l : List Run) (A : Option Addr) (c : Nat) (page : Int) (w : World) (hm : mustE l = 0) (hl : RunsC w A l) (hp : 0 ≤ page) :
    Calls Try.prog 27 #[.slice A l.length c, .int .i64 page] w (MapIs l page w) := by
  by_cases h : page < pagesL l
  · refine (callsIn_wide.1 (map_in l A c page w hm hl hp h)).mono ?_
    rintro e w' ⟨⟨pre, x, hpre, hno, hx, rfl⟩, hB⟩
    refine ⟨.inl ⟨(mapR x page).1, (mapR x page).2, ?_, rfl⟩, hB⟩
    obtain ⟨rest, hr⟩ := hpre
    unfold mapL
    rw [← hr, List.find?_append, List.find?_append]
    rw [List.find?_eq_none.2 (fun y hy => by simpa using hno y hy)]
    simp [hx]
  · refine (callsIn_wide.1 (map_out l A c page w hm hl hp (by omega))).mono ?_
    rintro e w' ⟨rfl, hB⟩
    exact ⟨.inr ⟨mapL_out (fun r hr => by have := (mustE_zero hm).2.1 r hr; omega) (by omega), rfl⟩, hB⟩

end Go.Proofs.Yteipclnlfanfeaa
