/- ref36: Resize, Free, given owners. -/
import Derived.Test.YteipclnlfanfeaaRefD
import Derived.Test.YteipclnlfanfeaaPureX
set_option linter.unusedVariables false
set_option linter.unusedSimpArgs false
namespace Go.Proofs.Yteipclnlfanfeaa
open Go.RowKit

theorem cells3z {W : World} {b : Nat} {u0 u1 u2 : Value} {t : TypeId} (h : W.heap[b]? = some (.cells #[u0, u1, u2] t (0, 0))) (x y z : Value) :
    (((W.setCell ⟨b, 0, none⟩ x).setCell ⟨b, 1, none⟩ y).setCell ⟨b, 2, none⟩ z).heap[b]? = some (.cells #[x, y, z] t (0, 0)) := by
  have e1 := heap_setCell_at (o := 0) h x
  have e2 := heap_setCell_at (o := 1) e1 y
  have e3 := heap_setCell_at (o := 2) e2 z
  simpa using e3
theorem other_set' {W : World} {X : Nat} {x : Obj} (hx : W.heap[X]? = some x) {n i : Nat} {v : Value} (hn : X ≠ n) : (W.setCell ⟨n, i, none⟩ v).heap[X]? = some x := (Below.heap_setCell _ _ _ _ (by dsimp only; omega)).trans hx
/-- a picture and an error, told by their cells -/
def RetPicC (q : Pic × Int) (w : World) (e : Ending) (w' : World) : Prop :=
  (∃ u, e = .returned (.tuple #[u, .int .i64 q.2]) ∧ PicC w' u q.1) ∧ Below w.heap.size w w'
theorem picC_z (w : World) : PicC w (.agg #[.int .i64 0, .slice none 0 0, .slice none 0 0]) picZ := (picC_zero w).c

section
attribute [local go_sem] undef
set_option maxRecDepth 100000 in
set_option maxHeartbeats 4000000 in
theorem refResize_of (H : OwnWalk) (p : Pic) (size : Int) (v : Value) (w : World) (hp : PicC w v p) (hn : PicOk p) :
    Calls Try.prog 30 #[v, .int .i64 size] w (RetPicC (resizeP p size) w) := by
  have hp0 := hp
  obtain ⟨Ax, cx, Fa, cf, rfl, hx, hf⟩ := hp
  have hB := below_alloc (below_alloc (Below.refl _ w) (.cells #[.int .i64 p.size, .slice Ax p.fixed.length cx, .slice Fa p.files.length cf] 25)) (.cells #[.int .i64 0, .slice none 0 0, .slice none 0 0] 25)
  have hb1 := heap_alloc_old' (World.alloc_heap_new w (.cells #[.int .i64 p.size, .slice Ax p.fixed.length cx, .slice Fa p.files.length cf] 25)) (.cells #[.int .i64 0, .slice none 0 0, .slice none 0 0] 25)
  have hb2 := heap_new (w.alloc (.cells #[.int .i64 p.size, .slice Ax p.fixed.length cx, .slice Fa p.files.length cf] 25)) (.cells #[.int .i64 0, .slice none 0 0, .slice none 0 0] 25) (n := w.heap.size + 1) (by simp)
  have hp1 := hp0.below hB
  have Hn := Lib.hid hn
  have Hp := Lib.hid hp1
  have HH := Lib.hid H
  have Hp0 := Lib.hid hp0
  have Hb1 := Lib.hid hb1
  have Hb2 := Lib.hid hb2
  clear hn hp1 hx hf H hp0 hb1 hb2
  go_enter Try.func30, Try.ntmps30
  go_wp2_with fail
  refine (HH.out p _ _ Hp.out Hn.out).mono ?_
  rintro e w1 ⟨⟨t, A, c, ho, rfl, ht⟩ | ⟨ho, rfl⟩, hB1⟩
  rotate_left
  · have hq : resizeP p size = (picZ, 9) := by unfold resizeP; rw [(own_open p).1 ho]
    have Hq := Lib.hid hq
    have hR := block_below Hb2.out hB1
    have zR0 := free_at hR 0; have zR1 := free_at hR 1; have zR2 := free_at hR 2
    have yR0 := cell_at hR 0; have yR1 := cell_at hR 1; have yR2 := cell_at hR 2
    simp only [List.getElem?_toArray, List.getElem?_cons_zero, List.getElem?_cons_succ] at yR0 yR1 yR2
    have hfin := cells3z hR (.int .i64 0) (.slice none 0 0) (.slice none 0 0)
    have hBf := (((below_then hB hB1).setCell (p := ⟨w.heap.size + 1, 0, none⟩) (by dsimp only; omega) (.int .i64 0)).setCell (p := ⟨w.heap.size + 1, 1, none⟩) (by dsimp only; omega) (.slice none 0 0)).setCell (p := ⟨w.heap.size + 1, 2, none⟩) (by dsimp only; omega) (.slice none 0 0)
    have k0 := cell_at hfin 0; have k1 := cell_at hfin 1; have k2 := cell_at hfin 2
    simp only [List.getElem?_toArray, List.getElem?_cons_zero, List.getElem?_cons_succ] at k0 k1 k2
    have HR := Lib.hid hR
    have HBf := Lib.hid hBf
    clear ho hq hR hB1 hfin hBf
    go_wp2_with fail
    refine bodyPost_ret (v := .tuple #[.agg #[.int .i64 0, .slice none 0 0, .slice none 0 0], .int .i64 9]) (by first | (simp [results, Try.results30, go_sem, k0, k1, k2]; done) | (simp [results, Try.results30, go_sem, k0, k1, k2]; rfl)) rfl ⟨⟨_, by rw [Hq.out], by rw [Hq.out]; exact picC_z _⟩, HBf.out⟩
  have hsome : ∃ s, openL p = some s := by
    cases ho' : openL p with
    | none => rw [(own_open p).2 ho'] at ho; cases ho
    | some s => exact ⟨s, rfl⟩
  obtain ⟨s, hs⟩ := hsome
  have hok := ok_of_open hs
  obtain ⟨t', ht1, ht2⟩ := own_ok hok
  rw [ho] at ht1
  cases ht1
  have hsz := hok.size
  have htl : t.length = p.size.toNat := ht2.1
  have hroom := fun (h0 : 0 ≤ size) => room_own hok ht2 (size := size) h0
  have hq1 : ¬ (4 ≤ size ∧ size ≤ 768) → resizeP p size = (picZ, 1) := fun h => by unfold resizeP; rw [hs]; dsimp only; rw [if_pos h]
  have hq2 : (4 ≤ size ∧ size ≤ 768) → ¬ (bynd size p.fixed = false ∧ overF size p.files = 0) → resizeP p size = (picZ, 13) := fun h h2 => by unfold resizeP; rw [hs]; dsimp only; rw [if_neg (fun q => q h), if_neg h2]
  have hq3 : (4 ≤ size ∧ size ≤ 768) → (bynd size p.fixed = false ∧ overF size p.files = 0) → resizeP p size = (⟨size, p.fixed, p.files⟩, 0) := fun h h2 => by unfold resizeP; rw [hs]; dsimp only; rw [if_neg (fun q => q h), if_pos h2]
  have Hq1 := Lib.hid hq1; have Hq2 := Lib.hid hq2; have Hq3 := Lib.hid hq3; have Hroom := Lib.hid hroom
  have Ht := Lib.hid ht
  clear ho hs hok ht2 hroom hq1 hq2 hq3 ht
  have hR := block_below Hb2.out hB1
  have hbx := block_below Hb1.out hB1
  have hBw := below_then hB hB1
  have HR := Lib.hid hR
  have Hbx := Lib.hid hbx
  have b0 := cell_at hbx 0
  simp only [List.getElem?_toArray, List.getElem?_cons_zero, List.getElem?_cons_succ] at b0
  by_cases g1 : size < 4
  · have q1 : decide (size < 4) = true := by simpa using g1
    have Hq := Lib.hid (Hq1.out (by omega))
    have zR0 := free_at hR 0; have zR1 := free_at hR 1; have zR2 := free_at hR 2
    have yR0 := cell_at hR 0; have yR1 := cell_at hR 1; have yR2 := cell_at hR 2
    simp only [List.getElem?_toArray, List.getElem?_cons_zero, List.getElem?_cons_succ] at yR0 yR1 yR2
    have hfin := cells3z hR (.int .i64 0) (.slice none 0 0) (.slice none 0 0)
    have hBf := (((hBw).setCell (p := ⟨w.heap.size + 1, 0, none⟩) (by dsimp only; omega) (.int .i64 0)).setCell (p := ⟨w.heap.size + 1, 1, none⟩) (by dsimp only; omega) (.slice none 0 0)).setCell (p := ⟨w.heap.size + 1, 2, none⟩) (by dsimp only; omega) (.slice none 0 0)
    have k0 := cell_at hfin 0; have k1 := cell_at hfin 1; have k2 := cell_at hfin 2
    simp only [List.getElem?_toArray, List.getElem?_cons_zero, List.getElem?_cons_succ] at k0 k1 k2
    have HBf := Lib.hid hBf
    clear hR hbx hB1 hfin hBf htl
    go_wp2_with fail
    refine bodyPost_ret (v := .tuple #[.agg #[.int .i64 0, .slice none 0 0, .slice none 0 0], .int .i64 1]) (by first | (simp [results, Try.results30, go_sem, k0, k1, k2]; done) | (simp [results, Try.results30, go_sem, k0, k1, k2]; rfl)) rfl ⟨⟨_, by rw [Hq.out], by rw [Hq.out]; exact picC_z _⟩, HBf.out⟩
  have q1 : decide (size < 4) = false := by simpa using g1
  by_cases g2 : 768 < size
  · have q2 : decide (768 < size) = true := by simpa using g2
    have Hq := Lib.hid (Hq1.out (by omega))
    have zR0 := free_at hR 0; have zR1 := free_at hR 1; have zR2 := free_at hR 2
    have yR0 := cell_at hR 0; have yR1 := cell_at hR 1; have yR2 := cell_at hR 2
    simp only [List.getElem?_toArray, List.getElem?_cons_zero, List.getElem?_cons_succ] at yR0 yR1 yR2
    have hfin := cells3z hR (.int .i64 0) (.slice none 0 0) (.slice none 0 0)
    have hBf := (((hBw).setCell (p := ⟨w.heap.size + 1, 0, none⟩) (by dsimp only; omega) (.int .i64 0)).setCell (p := ⟨w.heap.size + 1, 1, none⟩) (by dsimp only; omega) (.slice none 0 0)).setCell (p := ⟨w.heap.size + 1, 2, none⟩) (by dsimp only; omega) (.slice none 0 0)
    have k0 := cell_at hfin 0; have k1 := cell_at hfin 1; have k2 := cell_at hfin 2
    simp only [List.getElem?_toArray, List.getElem?_cons_zero, List.getElem?_cons_succ] at k0 k1 k2
    have HBf := Lib.hid hBf
    clear hR hbx hB1 hfin hBf htl
    go_wp2_with fail
    refine bodyPost_ret (v := .tuple #[.agg #[.int .i64 0, .slice none 0 0, .slice none 0 0], .int .i64 1]) (by first | (simp [results, Try.results30, go_sem, k0, k1, k2]; done) | (simp [results, Try.results30, go_sem, k0, k1, k2]; rfl)) rfl ⟨⟨_, by rw [Hq.out], by rw [Hq.out]; exact picC_z _⟩, HBf.out⟩
  have q2 : decide (768 < size) = false := by simpa using g2
  obtain ⟨z, rfl⟩ := Int.eq_ofNat_of_zero_le (show 0 ≤ size by omega)
  clear hR hbx
  go_wp2_with fail
  go_loopw [8] (fun i wr => ∃ k : Nat, z ≤ k ∧ i = .int .i64 k ∧ (k = z ∨ k ≤ p.size.toNat) ∧ Hid (∀ j : Nat, z ≤ j → j < k → t[j]? = some 0) ∧ wr = w1) (fun i _ => (p.size - (intOf i)).toNat)
  case atStart => exact ⟨z, by omega, rfl, .inl rfl, Lib.hid (fun j _ _ => by omega), rfl⟩
  case round =>
    obtain ⟨k, hzk, rfl, hkk, HA, rfl⟩ := hrel
    by_cases hlt : (k : Int) < p.size
    · have hkt : k < t.length := by omega
      obtain ⟨b, o, rfl, h0⟩ := Ht.out k hkt
      obtain ⟨tv, htv⟩ : ∃ tv, t[k] = tv := ⟨_, rfl⟩
      rw [htv] at h0
      have hd : decide ((k : Int) < p.size) = true := by simpa using hlt
      by_cases g5 : tv = 0
      · have q5 : (tv != 0) = false := by simpa using g5
        have HN : Hid (∀ j : Nat, z ≤ j → j < k + 1 → t[j]? = some 0) := Lib.hid (fun j h1 h2 => by
          by_cases e : j = k
          · subst e; rw [List.getElem?_eq_getElem hkt, htv, g5]
          · exact HA.out j h1 (by omega))
        clear g5 htv
        go_wp2_with fail
        exact ⟨⟨k + 1, by omega, by go_num, .inr (by omega), HN, (by first | rfl | trivial)⟩, by simp [intOf]; omega⟩
      · have q5 : (tv != 0) = true := by simpa using g5
        have Hq := Lib.hid (Hq2.out (by omega) (fun h => by
          have := (Hroom.out (by omega)).1 h k (by omega) hkt
          rw [List.getElem?_eq_getElem hkt, htv] at this
          exact g5 (by injection this)))
        have hR := HR.out
        have zR0 := free_at hR 0; have zR1 := free_at hR 1; have zR2 := free_at hR 2
        have yR0 := cell_at hR 0; have yR1 := cell_at hR 1; have yR2 := cell_at hR 2
        simp only [List.getElem?_toArray, List.getElem?_cons_zero, List.getElem?_cons_succ] at yR0 yR1 yR2
        have hfin := cells3z hR (.int .i64 0) (.slice none 0 0) (.slice none 0 0)
        have hBf := (((hBw).setCell (p := ⟨w.heap.size + 1, 0, none⟩) (by dsimp only; omega) (.int .i64 0)).setCell (p := ⟨w.heap.size + 1, 1, none⟩) (by dsimp only; omega) (.slice none 0 0)).setCell (p := ⟨w.heap.size + 1, 2, none⟩) (by dsimp only; omega) (.slice none 0 0)
        have k0 := cell_at hfin 0; have k1 := cell_at hfin 1; have k2 := cell_at hfin 2
        simp only [List.getElem?_toArray, List.getElem?_cons_zero, List.getElem?_cons_succ] at k0 k1 k2
        have HBf := Lib.hid hBf
        clear hR hB1 hfin hBf g5 htv
        go_wp2_with fail
        refine bodyPost_ret (v := .tuple #[.agg #[.int .i64 0, .slice none 0 0, .slice none 0 0], .int .i64 13]) (by first | (simp [results, Try.results30, go_sem, k0, k1, k2]; done) | (simp [results, Try.results30, go_sem, k0, k1, k2]; rfl)) rfl ⟨⟨_, by rw [Hq.out], by rw [Hq.out]; exact picC_z _⟩, HBf.out⟩
    · have hd : decide ((k : Int) < p.size) = false := by simpa using hlt
      have Hq := Lib.hid (Hq3.out (by omega) ((Hroom.out (by omega)).2 (fun i h1 h2 => HA.out i (by omega) (by omega))))
      have hR := HR.out
      have hbx := Hbx.out
      have zB0 := free_at hbx 0
      have b1 := cell_at hbx 1
      have b2 := cell_at hbx 2
      simp only [List.getElem?_toArray, List.getElem?_cons_zero, List.getElem?_cons_succ] at b1 b2
      have yR0 := cell_at hR 0; have yR1 := cell_at hR 1; have yR2 := cell_at hR 2
      simp only [List.getElem?_toArray, List.getElem?_cons_zero, List.getElem?_cons_succ] at yR0 yR1 yR2
      have zR0 := free_at hR 0; have zR1 := free_at hR 1; have zR2 := free_at hR 2
      have hR2 := other_set' hR (n := w.heap.size) (i := 0) (v := .int .i64 z) (by omega)
      have hfin := cells3z hR2 (.int .i64 z) (.slice Ax p.fixed.length cx) (.slice Fa p.files.length cf)
      have hBf := ((((hBw).setCell (p := ⟨w.heap.size, 0, none⟩) (by dsimp only; omega) (.int .i64 z)).setCell (p := ⟨w.heap.size + 1, 0, none⟩) (by dsimp only; omega) (.int .i64 z)).setCell (p := ⟨w.heap.size + 1, 1, none⟩) (by dsimp only; omega) (.slice Ax p.fixed.length cx)).setCell (p := ⟨w.heap.size + 1, 2, none⟩) (by dsimp only; omega) (.slice Fa p.files.length cf)
      have k0 := cell_at hfin 0; have k1 := cell_at hfin 1; have k2 := cell_at hfin 2
      simp only [List.getElem?_toArray, List.getElem?_cons_zero, List.getElem?_cons_succ] at k0 k1 k2
      have HBf := Lib.hid hBf
      have HR2 := Lib.hid hR2
      clear hR hR2 hbx hB1 hfin hBf
      go_wp2_with fail
      refine bodyPost_ret (v := .tuple #[.agg #[.int .i64 z, .slice Ax p.fixed.length cx, .slice Fa p.files.length cf], .int .i64 0]) (by first | (simp [results, Try.results30, go_sem, k0, k1, k2]; done) | (simp [results, Try.results30, go_sem, k0, k1, k2]; rfl)) rfl ⟨⟨_, by rw [Hq.out], ?_⟩, HBf.out⟩
      rw [Hq.out]
      obtain ⟨Ax', cx', Fa', cf', he, hX, hF⟩ := Hp0.out.below HBf.out
      cases he
      exact ⟨Ax, cx, Fa, cf, rfl, hX, hF⟩
end
theorem addE_ok {out : List Ext} {a : Nat} (h : ∀ y ∈ out, 0 ≤ y.page ∧ 0 ≤ y.many ∧ y.page + y.many ≤ a) : (∀ y ∈ addE out a, 0 ≤ y.page ∧ 0 ≤ y.many ∧ y.page + y.many ≤ (a + 1 : Nat)) ∧ (addE out a).length ≤ out.length + 1 := by
  unfold addE
  cases hl : out.getLast? with
  | none =>
    dsimp only
    refine ⟨fun y hy => ?_, by simp⟩
    rcases List.mem_append.1 hy with hy | hy
    · have := h y hy; omega
    · simp at hy; subst hy; dsimp only; omega
  | some x =>
    dsimp only
    have hx := h x (List.mem_of_getLast? hl)
    have hne : out ≠ [] := by intro e; subst e; simp at hl
    split
    · rename_i he
      refine ⟨fun y hy => ?_, by simp⟩
      rcases List.mem_append.1 hy with hy | hy
      · have := h y (List.dropLast_subset _ hy); omega
      · simp at hy; subst hy; dsimp only; omega
    · refine ⟨fun y hy => ?_, by simp⟩
      rcases List.mem_append.1 hy with hy | hy
      · have := h y hy; omega
      · simp at hy; subst hy; dsimp only; omega
theorem rfGo_ok (l : List Int) : ∀ (out : List Ext) (a : Nat), (∀ y ∈ out, 0 ≤ y.page ∧ 0 ≤ y.many ∧ y.page + y.many ≤ a) →
    (∀ y ∈ rfGo out a l, 0 ≤ y.page ∧ 0 ≤ y.many ∧ y.page + y.many ≤ (a + l.length : Nat)) ∧ (rfGo out a l).length ≤ out.length + l.length := by
  induction l with
  | nil => intro out a h; exact ⟨fun y hy => by simpa [rfGo] using h y hy, by simp [rfGo]⟩
  | cons x l ih =>
    intro out a h
    simp only [rfGo]
    split
    · obtain ⟨h1, h2⟩ := ih out (a + 1) (fun y hy => by have := h y hy; omega)
      exact ⟨fun y hy => by have := h1 y hy; simp only [List.length_cons]; omega, by simp only [List.length_cons]; omega⟩
    · obtain ⟨a1, a2⟩ := addE_ok h
      obtain ⟨h1, h2⟩ := ih (addE out a) (a + 1) a1
      exact ⟨fun y hy => by have := h1 y hy; simp only [List.length_cons]; omega, by simp only [List.length_cons]; omega⟩
theorem rfGo_snoc (l : List Int) (x : Int) : ∀ (out : List Ext) (a : Nat), rfGo out a (l ++ [x]) = if x ≠ 0 then rfGo out a l else addE (rfGo out a l) ((a + l.length : Nat) : Int) := by
  induction l with
  | nil => intro out a; simp only [List.nil_append, rfGo]; split <;> simp
  | cons y l ih =>
    intro out a
    simp only [List.cons_append, rfGo, ih, List.length_cons]
    rw [show a + 1 + l.length = a + (l.length + 1) by omega]
    by_cases hy : y ≠ 0
    · rw [if_pos hy, if_pos hy]
    · rw [if_neg hy, if_neg hy]
theorem rfL_zero (t : List Int) : rfL t 0 = [] := by simp [rfL, rfGo]
theorem rfL_succ {t : List Int} {k : Nat} (h : k < t.length) : rfL t (k + 1) = if t[k] ≠ 0 then rfL t k else addE (rfL t k) k := by
  unfold rfL
  rw [List.take_succ_eq_append_getElem h, rfGo_snoc, List.length_take, Nat.min_eq_left (by omega), Nat.zero_add]
theorem rfL_ok (t : List Int) (k : Nat) : (∀ y ∈ rfL t k, 0 ≤ y.page ∧ 0 ≤ y.many ∧ y.page + y.many ≤ (k : Nat)) ∧ (rfL t k).length ≤ k := by
  obtain ⟨h1, h2⟩ := rfGo_ok (t.take k) [] 0 (fun y hy => by simp at hy)
  have hl : (t.take k).length ≤ k := by simp; omega
  exact ⟨fun y hy => by have := h1 y hy; omega, by simp only [List.length_nil] at h2; unfold rfL; omega⟩
theorem rfL_ge {t : List Int} {k : Nat} (h : t.length ≤ k) : rfL t k = rfL t t.length := by
  unfold rfL
  rw [List.take_of_length_le h, List.take_length]
theorem addE_join {out : List Ext} (hne : out ≠ []) {a : Int} (h : (out.getLast hne).page + (out.getLast hne).many = a) : addE out a = out.dropLast ++ [⟨(out.getLast hne).page, (out.getLast hne).many + 1⟩] := by
  unfold addE
  rw [List.getLast?_eq_some_getLast hne]
  dsimp only
  rw [if_pos h]
theorem addE_app {out : List Ext} (hne : out ≠ []) {a : Int} (h : (out.getLast hne).page + (out.getLast hne).many ≠ a) : addE out a = out ++ [⟨a, 1⟩] := by
  unfold addE
  rw [List.getLast?_eq_some_getLast hne]
  dsimp only
  rw [if_neg h]
theorem flatE_set_last {l : List Ext} (hne : l ≠ []) (m : Int) : flatE (l.dropLast ++ [⟨(l.getLast hne).page, m⟩]) = (flatE l).set ((l.length - 1) * 2 + 1) (.int .i64 m) := by
  have h : l = l.dropLast ++ [l.getLast hne] := (List.dropLast_concat_getLast hne).symm
  have hlen : (flatE l.dropLast).length = (l.length - 1) * 2 := by rw [flatE_length]; simp
  conv => rhs; rw [h, flatE_append]
  rw [flatE_append, List.set_append_right _ _ (by rw [hlen]; simp), hlen]
  simp [flatE]

/-- what Free's loop holds -/
structure FrI (w0 : World) (t : List Int) (A : Option Addr) (v : Value) (k : Nat) (W : World) : Prop where
  below : Below w0.heap.size w0 W
  ints : IntsC W A t
  row : W.ownsRow w0.heap.size 54 2 v (rfL t k).length (flatE (rfL t k))
  lt : ∀ a, A = some a → a.block < w0.heap.size
section
attribute [local go_sem] undef
set_option maxRecDepth 100000 in
set_option maxHeartbeats 4000000 in
theorem refFree_of (H : OwnWalk) (p : Pic) (s : Spc) (size : Nat) (v : Value) (w : World) (hp : PicC w v p) (hn : PicOk p) (hs : openL p = some s) (hz : size ≤ 1000000) :
    Calls Try.prog 32 #[v, .int .i64 size] w fun e w' => (∃ A c, e = .returned (.slice A (freeL s.tk size).length c) ∧ ExtC w' A (freeL s.tk size)) ∧ Below w.heap.size w w' := by
  obtain ⟨i0, hi, hz0, hz1, hz2⟩ := info_parts info54
  have hp0 := hp
  obtain ⟨Ax, cx, Fa, cf, rfl, hx, hf⟩ := hp
  have hB := below_alloc (Below.refl _ w) (.cells #[.int .i64 p.size, .slice Ax p.fixed.length cx, .slice Fa p.files.length cf] 25)
  have hb1 := World.alloc_heap_new w (.cells #[.int .i64 p.size, .slice Ax p.fixed.length cx, .slice Fa p.files.length cf] 25)
  have Hp := Lib.hid (hp0.below hB)
  have HH := Lib.hid H
  have Hn := Lib.hid hn
  have Hs := Lib.hid hs
  have Hb1 := Lib.hid hb1
  clear hn hx hf H hp0 hb1 hs
  go_enter Try.func32, Try.ntmps32
  go_wp2_with fail
  refine (HH.out p _ _ Hp.out Hn.out).mono ?_
  rintro e w1 ⟨⟨t, A, c, ho, rfl, ht⟩ | ⟨ho, rfl⟩, hB1⟩
  rotate_left
  · rw [(own_open p).1 ho] at Hs; exact absurd Hs.out (by simp)
  obtain ⟨hok, -, -, hrep⟩ := open_rep Hs.out
  obtain ⟨t', ht1, ht2⟩ := own_ok hok
  rw [ho] at ht1
  cases ht1
  have hsz := hok.size
  have htl : t.length = p.size.toNat := ht2.1
  have Hfr := Lib.hid (rfL_free ht2 hrep size)
  have htl2 : t.length ≤ 768 := by omega
  have hBw := below_then hB hB1
  have Ht := Lib.hid ht
  clear ho hok ht2 hrep ht htl
  go_wp2_with fail
  go_loopw [7, 8] (fun v i wr => ∃ (k : Nat) (A' : Option Addr) (c' : Nat), k ≤ size ∧ k ≤ t.length ∧ i = .int .i64 k ∧ v = .slice A' (rfL t k).length c' ∧ Hid (Below w1.heap.size w1 wr ∧ wr.ownsRow w1.heap.size 54 2 (.slice A' (rfL t k).length c') (rfL t k).length (flatE (rfL t k)))) (fun _ i _ => size - (intOf i).toNat)
  case atStart => exact ⟨0, none, 0, by omega, by omega, by simp, by rw [rfL_zero]; rfl, Lib.hid ⟨Below.refl _ _, by rw [rfL_zero]; exact World.ownsRow_nil _ _ _ _⟩⟩
  case round =>
    obtain ⟨k, A', c', hk1, hk2, rfl, rfl, HR⟩ := hrel
    by_cases hlt : k < size
    rotate_left
    · obtain rfl : k = size := by omega
      have hd : decide ((k : Int) < (k : Int)) = false := by simp
      go_wp2_with fail
      go_ret
      rw [← Hfr.out]
      exact ⟨⟨A', c', rfl, (ExtT.of_owns HR.out.2).c⟩, hBw.trans (HR.out.1.mono hBw.size)⟩
    have hd : decide ((k : Int) < (size : Int)) = true := by simp; omega
    by_cases hlt2 : k < t.length
    rotate_left
    · obtain rfl : k = t.length := by omega
      have hge : rfL t size = rfL t t.length := rfL_ge (by omega)
      have Hge := Lib.hid (Hfr.out.symm.trans hge)
      clear hge
      have hd2 : decide ((t.length : Int) < (t.length : Int)) = false := by simp
      go_wp2_with fail
      go_ret
      rw [Hge.out]
      exact ⟨⟨A', c', rfl, (ExtT.of_owns HR.out.2).c⟩, hBw.trans (HR.out.1.mono hBw.size)⟩
    have hd2 : decide ((k : Int) < (t.length : Int)) = true := by simp; omega
    obtain ⟨b, o, rfl, h0⟩ := (Ht.out) k hlt2
    have h0 := cell_below h0 HR.out.1
    obtain ⟨tv, htv⟩ : ∃ tv, t[k] = tv := ⟨_, rfl⟩
    have hstep := rfL_succ hlt2
    rw [htv] at h0 hstep
    have Hstep := Lib.hid hstep
    have Hok := Lib.hid (rfL_ok t k)
    have hll : (rfL t k).length ≤ 1000000 := by have := (rfL_ok t k).2; omega
    clear hstep htv
    by_cases g1 : tv = 0
    rotate_left
    · have q1 : (tv != 0) = true := by simpa using g1
      have hnx : rfL t (k + 1) = rfL t k := by rw [Hstep.out, if_pos g1]
      have Hnx := Lib.hid hnx
      clear hnx g1
      go_wp2_with fail
      exact ⟨⟨k + 1, A', c', by omega, by omega, by go_num, by rw [Hnx.out], Lib.hid (by rw [Hnx.out]; exact HR.out)⟩, by simp [intOf]; omega⟩
    have q1 : (tv != 0) = false := by simpa using g1
    have hnx : rfL t (k + 1) = addE (rfL t k) k := by rw [Hstep.out, if_neg (fun h => h g1)]
    have Hnx := Lib.hid hnx
    clear hnx g1 Hstep
    obtain ⟨L, hL⟩ : ∃ L, rfL t k = L := ⟨_, rfl⟩
    rw [hL] at HR Hok hll Hnx ⊢
    clear hL
    by_cases hne : L = []
    · subst hne
      have ha : addE [] (k : Int) = [⟨k, 1⟩] := rfl
      rw [ha] at Hnx
      clear ha
      go_wp2_with fail
      go_quiet (fail)
      go_wp2_with ((at_builtin; refine wpList_append_one _ rfl _ _ 22 rfl w1.heap.size 54 i0 (.agg #[.int .i64 0, .int .i64 0]) 2 16 Try.underlying22 hi hz0 hz1 hz2 rfl (by decide) _ _ _ rfl (ownsRow_below HR.out.2 ?c0a) ⟨wr.heap.size, 0, none⟩ 1 [.int .i64 k, .int .i64 1] rfl rfl ?c1a ?c2a ?c3a ?c4a ?c5a ?_))
      case c0a => repeat (first | exact Below.refl _ _ | refine below_alloc ?_ _ | refine below_dr ?_ _)
      case c1a =>
        intro j u hu
        have hq : ((wr.drewN nq).alloc (.cells #[.int .i64 k, .int .i64 1] 54)).heap[wr.heap.size]? = some (.cells #[.int .i64 k, .int .i64 1] 54 (0, 0)) := World.alloc_heap_new (wr.drewN nq) _
        have ha : ∀ (b j : Nat), (⟨b, 0, none⟩ : Addr).add j = ⟨b, j, none⟩ := fun b j => by unfold Addr.add; split <;> simp_all
        rw [ha, cell_at hq]
        simpa using hu
      case c2a => simp [Value.oneCell']
      case c3a => unfold maxLen; simp
      case c4a => simp
      case c5a => have := HR.out.1.size; simp; omega
      intro g3 c3 w3 hown hg hgo
      have hD : Below w1.heap.size w1 w3 := ((HR.out.1.trans (Below.drewN' w1.heap.size wr nq)).alloc (by have := HR.out.1.size; simpa using this) _).grown hg (by have := HR.out.1.size; simp; omega) (fun q e => (HR.out.2.lt q e).1)
      have HD := Lib.hid hD
      have Hown := Lib.hid hown
      clear hD hown hg hgo
      go_wp2_with fail
      exact ⟨⟨k + 1, some ⟨g3, 0, none⟩, c3, by omega, by omega, by go_num, by rw [Hnx.out]; rfl, Lib.hid ⟨HD.out, by rw [Hnx.out]; simpa [flatE] using Hown.out⟩⟩, by simp [intOf]; omega⟩
    have hpos : 0 < L.length := List.length_pos_iff.2 hne
    obtain ⟨g, rfl⟩ : ∃ g, A' = some ⟨g, 0, none⟩ := by
      rcases HR.out.2.2 with ⟨h, h'⟩ | ⟨g, cap, cur, h, _⟩
      · have h9 : L.length = 0 := by injection h
        omega
      · cases h; exact ⟨g, rfl⟩
    have hfs := fun m => flatE_set_last hne m
    have hg0 : wr.cell? ⟨g, (L.length - 1) * 2, none⟩ = some (.int .i64 (L.getLast hne).page) := by
      rw [HR.out.2.cellAt _ (by omega), List.getLast_eq_getElem]; exact (flatE_get L _ (by omega)).1
    have hg1 : wr.cell? ⟨g, (L.length - 1) * 2 + 1, none⟩ = some (.int .i64 (L.getLast hne).many) := by
      rw [HR.out.2.cellAt _ (by omega), List.getLast_eq_getElem]; exact (flatE_get L _ (by omega)).2
    have hgf := HR.out.2.frozenAt ((L.length - 1) * 2 + 1)
    obtain ⟨n, hn⟩ : ∃ n, L.length = n + 1 := ⟨L.length - 1, by omega⟩
    have hn1 : L.length - 1 = n := by omega
    rw [hn1] at hg0 hg1 hgf
    simp only [hn1] at hfs
    rw [hn] at HR hll
    rw [hn]
    have Hn1 := Lib.hid hn
    clear hn hn1 hpos
    obtain ⟨b1, b2, b3⟩ := Hok.out.1 _ (List.getLast_mem hne)
    have hjn := fun h => Hnx.out.trans (addE_join hne (a := (k : Int)) h)
    have hap := fun h => Hnx.out.trans (addE_app hne (a := (k : Int)) h)
    obtain ⟨y, hy⟩ : ∃ y, L.getLast hne = y := ⟨_, rfl⟩
    rw [hy] at hg0 hg1 b1 b2 b3 hjn hap
    simp only [hy] at hfs
    have Hjn := Lib.hid hjn; have Hap := Lib.hid hap; have Hfs := Lib.hid hfs; have Hne := Lib.hid hne
    clear hjn hap hfs hne hy
    have hwa : IntKind.i64.wrap (y.page + y.many) = y.page + y.many := IntWalk.i64_in _ (by omega)
    by_cases g2 : y.page + y.many = k
    · have q2 : (y.page + y.many == (k : Int)) = true := by simpa using g2
      have HN := Lib.hid (Hjn.out g2)
      clear g2 Hjn Hap
      go_wp2_with fail
      go_quiet (fail)
      clear hwa q2
      go_wp2_with fail
      have hgl := (HR.out.2.lt g rfl).1
      have h3 := (ownsRow_below HR.out.2 (Below.drewN' wr.heap.size wr nq)).stored (n * 2 + 1) (.int .i64 (y.many + 1))
      rw [← Hfs.out] at h3
      have hD : Below w1.heap.size w1 ((wr.drewN nq).setCell ⟨g, n * 2 + 1, none⟩ (.int .i64 (y.many + 1))) := (HR.out.1.trans (Below.drewN' w1.heap.size wr nq)).setCell (p := ⟨g, _, none⟩) (by dsimp only; omega) _
      have hlen : (L.dropLast ++ [(⟨y.page, y.many + 1⟩ : Ext)]).length = n + 1 := by rw [List.length_append, List.length_dropLast, Hn1.out]; rfl
      exact ⟨⟨k + 1, some ⟨g, 0, none⟩, c', by omega, by omega, by go_num, by rw [HN.out, hlen], Lib.hid ⟨hD, by rw [HN.out, hlen]; exact h3.1⟩⟩, by simp [intOf]; omega⟩
    have q2 : (y.page + y.many == (k : Int)) = false := by simpa using g2
    have HN := Lib.hid (Hap.out g2)
    clear g2 Hjn Hap
    go_wp2_with fail
    go_quiet (fail)
    clear hwa q2
    go_wp2_with ((at_builtin; refine wpList_append_one _ rfl _ _ 22 rfl w1.heap.size 54 i0 (.agg #[.int .i64 0, .int .i64 0]) 2 16 Try.underlying22 hi hz0 hz1 hz2 rfl (by decide) _ _ _ rfl (ownsRow_below HR.out.2 ?c0b) ⟨wr.heap.size, 0, none⟩ 1 [.int .i64 k, .int .i64 1] rfl rfl ?c1b ?c2b ?c3b ?c4b ?c5b ?_))
    case c0b => repeat (first | exact Below.refl _ _ | refine below_alloc ?_ _ | refine below_dr ?_ _)
    case c1b =>
      intro j u hu
      have hq : ((wr.drewN nq).alloc (.cells #[.int .i64 k, .int .i64 1] 54)).heap[wr.heap.size]? = some (.cells #[.int .i64 k, .int .i64 1] 54 (0, 0)) := World.alloc_heap_new (wr.drewN nq) _
      have ha : ∀ (b j : Nat), (⟨b, 0, none⟩ : Addr).add j = ⟨b, j, none⟩ := fun b j => by unfold Addr.add; split <;> simp_all
      rw [ha, cell_at hq]
      simpa using hu
    case c2b => simp [Value.oneCell']
    case c3b => unfold maxLen; omega
    case c4b => omega
    case c5b => have := HR.out.1.size; simp; omega
    intro g3 c3 w3 hown hg hgo
    have hD : Below w1.heap.size w1 w3 := ((HR.out.1.trans (Below.drewN' w1.heap.size wr nq)).alloc (by have := HR.out.1.size; simpa using this) _).grown hg (by have := HR.out.1.size; simp; omega) (fun q e => (HR.out.2.lt q e).1)
    have HD := Lib.hid hD
    have Hown := Lib.hid hown
    clear hD hown hg hgo
    go_wp2_with fail
    exact ⟨⟨k + 1, some ⟨g3, 0, none⟩, c3, by omega, by omega, by go_num, by rw [HN.out, List.length_append, Hn1.out]; rfl, Lib.hid ⟨HD.out, by rw [HN.out, List.length_append, Hn1.out, flatE_append]; exact Hown.out⟩⟩, by simp [intOf]; omega⟩
end
end Go.Proofs.Yteipclnlfanfeaa
