/- ref04: Add. -/
import Derived.Test.YteipclnlfanfeaaBaseI
import Derived.Deep.CutRange
set_option linter.unusedVariables false
set_option linter.unusedSimpArgs false
set_option linter.unnecessarySimpa false
namespace Go.Proofs.Yteipclnlfanfeaa
open Go.RowKit

theorem run_copyR (l : List Run) (A : Option Addr) (c g base : Nat) (w : World) (hl : RunsC w A l) (hlen : l.length ≤ 1099511627776)
    (hg : w.ownsRow base 52 2 (.slice (some ⟨g, 0, none⟩) 0 0) 0 []) (hb : base ≤ w.heap.size) :
    ∃ A' c' w', (Builtin.append_ #[44, 44] 44 #[.slice (some ⟨g, 0, none⟩) 0 0, .slice A l.length c]).run Try.prog w = .ok (.slice A' l.length c') w' ∧ w'.ownsRow base 52 2 (.slice A' l.length c') l.length (flatR l) ∧ w.grownBy w' (some g) := by
  cases A with
  | none =>
    obtain rfl : l = [] := by
      cases l with
      | nil => rfl
      | cons x l => obtain ⟨b, o, h, _⟩ := hl 0 (by simp); cases h
    refine ⟨some ⟨g, 0, none⟩, 0, w, by kernel_rfl, hg, ?_⟩
    exact ⟨rfl, rfl, rfl, Nat.le_refl _, fun _ _ _ => rfl⟩
  | some a =>
    obtain ⟨i0, hi, hz0, hz1, hz2⟩ := info_parts info52
    obtain ⟨h1, h2, h3⟩ := hl.src
    obtain ⟨v', w', hr, hown, hgr, -⟩ := run_append_own (P := Try.prog) w base 44 44 52 i0 (.agg #[.int .i64 0, .int .i64 0]) 2 16 Try.underlying44 hi hz0 hz1 hz2 rfl (by decide) _ 0 [] hg a l.length c (flatR l) h1 (by
      intro j u hu
      rcases h3 with h | ⟨b, o, ha, hcell⟩
      · rw [h, Nat.zero_mul] at h1; rw [List.length_eq_zero_iff.1 h1] at hu; simp at hu
      · cases ha
        have hadd : (⟨b, o, none⟩ : Addr).add j = ⟨b, o + j, none⟩ := by unfold Addr.add; split <;> simp_all
        rw [hadd]; exact hcell j u hu) h2 (by simp only [maxLen]; omega) (by omega) hb
    rw [Nat.zero_add] at hown
    obtain ⟨A', c', rfl⟩ := ownsRow_shape hown
    exact ⟨A', c', w', hr, by simpa using hown, hgr⟩

theorem wpList_append_copy {ops : Array Oper} {rest : List Oper} {o : Oper} {a : Act} {Q : Exit → Act → World → Prop} {w : World} (hgd : o.guard = none) (s x : Operand)
    (ho : o.op = .call { callee := .builtin .append, args := #[s, x], argTypes := #[44, 44] }) (hty : o.type = 44) (l : List Run) (A : Option Addr) (c g base : Nat)
    (hs : a.eval s = .slice (some ⟨g, 0, none⟩) 0 0) (hx : a.eval x = .slice A l.length c) (hl : RunsC w A l) (hlen : l.length ≤ 1099511627776)
    (hg : w.ownsRow base 52 2 (.slice (some ⟨g, 0, none⟩) 0 0) 0 []) (hb : base ≤ w.heap.size)
    (h : ∀ A' c' w', w'.ownsRow base 52 2 (.slice A' l.length c') l.length (flatR l) → w.grownBy w' (some g) → wpList Try.prog ops Q rest (a.put o.dst (.slice A' l.length c')) w') : wpList Try.prog ops Q (o :: rest) a w := by
  refine wpList_plain hgd fun K hK => ?_
  obtain ⟨A', c', w', hr, h2, h3⟩ := run_copyR l A c g base w hl hlen hg hb
  unfold Oper.wp execOp
  simp only [ho, hty, resolve, invoke, builtin, Sem.run_bind, Sem.run_pure, Result.andThen_ok, List.map_toArray, List.map_cons, List.map_nil, hs, hx, hr]
  exact hK _ _ (h A' c' w' h2 h3)

def FairR (r : Run) : Prop := -1 ≤ r.to ∧ r.to ≤ 1125899906842624 ∧ 0 ≤ r.many ∧ r.many ≤ 2305843009213693952

theorem ownsRow_base {w : World} {base : Nat} {e : TypeId} {size : Nat} {v : Value} {n : Nat} {xs : List Value} (h : w.ownsRow base e size v n xs) {k : Nat} (hk : v.ownBlock = some k) : base ≤ k := (h.lt k hk).1
theorem hadd0 (b j : Nat) : (⟨b, 0, none⟩ : Addr).add j = ⟨b, j, none⟩ := by unfold Addr.add; split <;> simp_all
theorem wp_region_anyC9 {P : Program} {ops : Array Oper} {Q : Exit → Act → World → Prop} {C : World → Prop} {id : Nat} {a : Act} {w : World} (hm : P.follows .mixedOrders = true)
    (h : anyC Fence.wide 0 P .any ops C Q ops.size (Array.replicate ops.size false) a w.drew) : (Code.region id ops true).wp P Q a w :=
  wpIn_wide.1 (wpIn_region_anyC hm h)
theorem anyC_two' {F : Fence} {n : Nat} {P : Program} {ops : Array Oper} {Q : Exit → Act → World → Prop} {md : Region.Mode} {C : World → Prop} {i j : Nat} {fuel : Nat} {listed : Array Bool} {a : Act} {w : World} (hr : Region.ready md ops listed = [i, j])
    (h1 : wpOpIn F n P ops Q i (fun a' w' => C w' ∧ anyC F n P md ops C Q fuel (listed.setIfInBounds i true) a' w') a w)
    (h2 : wpOpIn F n P ops Q j (fun a' w' => C w' ∧ anyC F n P md ops C Q fuel (listed.setIfInBounds j true) a' w') a w) : anyC F n P md ops C Q (fuel + 1) listed a w :=
  ⟨fun h0 => (by rw [hr] at h0; cases h0), fun k hk => (by
    rw [hr] at hk
    simp only [List.mem_cons, List.not_mem_nil, or_false] at hk
    rcases hk with rfl | rfl
    · exact h1
    · exact h2)⟩

set_option maxRecDepth 100000 in
set_option maxHeartbeats 4000000 in
theorem refAdd_nil (l : List Run) (A : Option Addr) (c : Nat) (r : Run) (w : World) (hl0 : l = []) (hr : r.many ≠ 0) :
    Calls Try.prog 77 #[.slice A l.length c, .agg #[.int .i64 r.to, .int .i64 r.many]] w (RetRuns w (addN l r)) := by
  have hmx : Try.prog.follows .mixedOrders = true := by kernel_rfl
  have hz : (r.many == 0) = false := by simp [hr]
  have Ha := Lib.hid (show addN l r = l ++ [r] by simp [addN, hr, hl0])
  have hl : RunsC w A l := by subst hl0; exact fun k hk => absurd hk (by simp)
  have hlen : l.length ≤ 1099511627776 := by subst hl0; simp
  have hlz : decide (0 < l.length) = false := by simp [hl0]
  clear hr
  clear hl0
  go_enter Try.func77, Try.ntmps77
  go_wp2_with fail
  have hDz : Below w.heap.size w (w.alloc (.cells #[.int .i64 r.to, .int .i64 r.many] 52)) := below_alloc (Below.refl _ _) _
  have hbb := World.alloc_heap_new w (.cells #[.int .i64 r.to, .int .i64 r.many] 52)
  have hbx0 := cell_at hbb 0; have hbx1 := cell_at hbb 1
  simp only [List.getElem?_toArray, List.getElem?_cons_zero, List.getElem?_cons_succ] at hbx0 hbx1
  clear hbb
  obtain ⟨bx, hbx⟩ : ∃ bx, w.heap.size = bx := ⟨_, rfl⟩
  obtain ⟨wz, hwz⟩ : ∃ wz, w.alloc (.cells #[.int .i64 r.to, .int .i64 r.many] 52) = wz := ⟨_, rfl⟩
  rw [hwz] at hDz hbx0 hbx1 ⊢
  rw [hbx] at hbx0 hbx1 ⊢
  have hl := hl.below hDz
  refine wp_region_anyC9 (C := (fun W' : World => W'.cell? ⟨bx, 0, none⟩ = some (.int .i64 r.to) ∧ W'.cell? ⟨bx, 1, none⟩ = some (.int .i64 r.many))) hmx ?_
  have hz0 : Below wz.heap.size wz wz.drew := (Below.refl _ _).drew
  have hCw : (fun W' : World => W'.cell? ⟨bx, 0, none⟩ = some (.int .i64 r.to) ∧ W'.cell? ⟨bx, 1, none⟩ = some (.int .i64 r.many)) wz.drew := ⟨cell_below hbx0 hz0, cell_below hbx1 hz0⟩
  refine anyC_take (i := 1) ?v1a rfl rfl (by kernel_rfl) (by kernel_rfl) (by kernel_rfl) (fun _ _ _ h => h) hCw ⟨.inl ⟨by kernel_rfl, fun W' hW' => ?y1a⟩, fun _ => rfl⟩ ?_
  case y1a => (obtain ⟨q0, q1⟩ := hW'; go_simp; rfl)
  simp only [Act.put, List.setIfInBounds_toArray, List.set_cons_succ, List.set_cons_zero]
  refine anyC_take (i := 3) ?v3a rfl rfl (by kernel_rfl) (by kernel_rfl) (by kernel_rfl) (fun _ _ _ h => h) hCw ⟨.inl ⟨by kernel_rfl, fun W' hW' => ?y3a⟩, fun _ => rfl⟩ ?_
  case y3a => (obtain ⟨q0, q1⟩ := hW'; go_simp; rfl)
  simp only [Act.put, List.setIfInBounds_toArray, List.set_cons_succ, List.set_cons_zero]
  refine anyC_two' (i := 0) (j := 4) (by kernel_rfl) (wpOpIn_step rfl (fun K' hK' => ?_)) (wpOpIn_step rfl (fun K' hK' => ?_))
  · go_simp
    have hNa : Below wz.heap.size wz ((wz.drew).alloc (.cells #[] 52)) := below_alloc hz0 _
    have hCNa : (fun W' : World => W'.cell? ⟨bx, 0, none⟩ = some (.int .i64 r.to) ∧ W'.cell? ⟨bx, 1, none⟩ = some (.int .i64 r.many)) ((wz.drew).alloc (.cells #[] 52)) := ⟨cell_below hbx0 hNa, cell_below hbx1 hNa⟩
    refine hK' _ _ ⟨hCNa, ?_⟩
    clear hK' K'
    have hrowa : World.ownsRow (wz.drew.alloc (.cells #[] 52)) wz.heap.size 52 2 (.slice (some ⟨wz.heap.size, 0, none⟩) 0 0) 0 [] := World.ownsRow_made wz.drew #[] 0 (Nat.le_refl _) (by simp [maxLen]) (by simp)
    obtain ⟨A2, c2, w2, hr2, hown2, hg2⟩ := run_copyR l A c (wz.heap.size) wz.heap.size (wz.drew.alloc (.cells #[] 52)) (hl.below hNa) hlen hrowa (by have := (hNa).size; omega)
    have hD2 : Below wz.heap.size wz w2 := (hNa).grown hg2 (by have := (hNa).size; omega) (fun k e => by cases e; exact Nat.le_refl _)
    have hC2 : (fun W' : World => W'.cell? ⟨bx, 0, none⟩ = some (.int .i64 r.to) ∧ W'.cell? ⟨bx, 1, none⟩ = some (.int .i64 r.many)) w2 := ⟨cell_below hbx0 hD2, cell_below hbx1 hD2⟩
    refine anyC_two' (i := 2) (j := 4) (by kernel_rfl) (wpOpIn_value rfl rfl (by kernel_rfl) rfl (run_exec_append rfl hr2) ⟨hC2, ?_⟩) (wpOpIn_step rfl (fun K' hK' => ?_))
    · simp only [Act.put, List.setIfInBounds_toArray, List.set_cons_succ, List.set_cons_zero]
      refine anyC_only (i := 4) (by kernel_rfl) (wpOpIn_step rfl (fun K' hK' => ?_))
      go_simp
      have hMb : Below wz.heap.size wz ((w2).alloc (.cells #[.int .i64 r.to, .int .i64 r.many] 52)) := below_alloc hD2 _
      have hCMb : (fun W' : World => W'.cell? ⟨bx, 0, none⟩ = some (.int .i64 r.to) ∧ W'.cell? ⟨bx, 1, none⟩ = some (.int .i64 r.many)) ((w2).alloc (.cells #[.int .i64 r.to, .int .i64 r.many] 52)) := ⟨cell_below hbx0 hMb, cell_below hbx1 hMb⟩
      refine hK' _ _ ⟨hCMb, ?_⟩
      clear hK' K'
      have hown9 : World.ownsRow (w2.alloc (.cells #[.int .i64 r.to, .int .i64 r.many] 52)) wz.heap.size 52 2 (.slice A2 l.length c2) l.length (flatR l) := hown2.alloc _
      have hm0 : (w2.alloc (.cells #[.int .i64 r.to, .int .i64 r.many] 52)).heap[w2.heap.size]? = some (.cells #[.int .i64 r.to, .int .i64 r.many] 52 (0, 0)) := World.alloc_heap_new _ _
      obtain ⟨i0, hi, hzz0, hzz1, hzz2⟩ := info_parts info52
      obtain ⟨g3, c3, w3, hr3, hown3, hg3, hgo⟩ := run_append_one (P := Try.prog) (w2.alloc (.cells #[.int .i64 r.to, .int .i64 r.many] 52)) wz.heap.size 44 44 52 i0 (.agg #[.int .i64 0, .int .i64 0]) 2 16 Try.underlying44 hi hzz0 hzz1 hzz2 rfl (by decide) _ _ _ hown9 ⟨w2.heap.size, 0, none⟩ 1 [.int .i64 r.to, .int .i64 r.many] rfl (by
        intro j u hu
        rw [hadd0]
        rcases j with _ | _ | j
        · simp at hu; subst hu; simpa using cell_at hm0 0
        · simp at hu; subst hu; simpa using cell_at hm0 1
        · simp at hu) (by simp [Value.oneCell']) (by simp only [maxLen]; omega) (by omega) (by have := (hMb).size; omega)
      have hD3 : Below wz.heap.size wz w3 := (hMb).grown hg3 (by have := (hMb).size; omega) (fun k e => ownsRow_base hown9 e)
      have hC3 : (fun W' : World => W'.cell? ⟨bx, 0, none⟩ = some (.int .i64 r.to) ∧ W'.cell? ⟨bx, 1, none⟩ = some (.int .i64 r.many)) w3 := ⟨cell_below hbx0 hD3, cell_below hbx1 hD3⟩
      refine anyC_only (i := 5) (by kernel_rfl) (wpOpIn_value rfl rfl (by kernel_rfl) rfl (run_exec_append rfl hr3) ⟨hC3, ?_⟩)
      simp only [Act.put, List.setIfInBounds_toArray, List.set_cons_succ, List.set_cons_zero]
      refine anyC_only (i := 6) (by kernel_rfl) (wpOpIn_step rfl (fun K' hK' => ?_))
      go_simp
      refine hK' _ _ ⟨hC3, ?_⟩
      clear hK' K'
      refine anyC_done (by kernel_rfl) ?_
      go_wp2_with fail
      go_ret
      refine ⟨⟨some ⟨g3, 0, none⟩, c3, by rw [Ha.out]; simp, ?_⟩, below_then hDz hD3⟩
      rw [Ha.out, List.length_append, List.length_singleton, flatR_append]
      exact ownsRow_mono hown3 hDz.size
    · clear hr2 hown2 hg2 hD2 hC2
      go_simp
      have hMd : Below wz.heap.size wz ((wz.drew.alloc (.cells #[] 52)).alloc (.cells #[.int .i64 r.to, .int .i64 r.many] 52)) := below_alloc hNa _
      have hCMd : (fun W' : World => W'.cell? ⟨bx, 0, none⟩ = some (.int .i64 r.to) ∧ W'.cell? ⟨bx, 1, none⟩ = some (.int .i64 r.many)) ((wz.drew.alloc (.cells #[] 52)).alloc (.cells #[.int .i64 r.to, .int .i64 r.many] 52)) := ⟨cell_below hbx0 hMd, cell_below hbx1 hMd⟩
      refine hK' _ _ ⟨hCMd, ?_⟩
      clear hK' K'
      have hrowe : World.ownsRow ((wz.drew.alloc (.cells #[] 52)).alloc (.cells #[.int .i64 r.to, .int .i64 r.many] 52)) wz.heap.size 52 2 (.slice (some ⟨wz.heap.size, 0, none⟩) 0 0) 0 [] := (World.ownsRow_made wz.drew #[] 0 (Nat.le_refl _) (by simp [maxLen]) (by simp)).alloc _
      obtain ⟨A2, c2, w2, hr2, hown2, hg2⟩ := run_copyR l A c (wz.heap.size) wz.heap.size ((wz.drew.alloc (.cells #[] 52)).alloc (.cells #[.int .i64 r.to, .int .i64 r.many] 52)) (hl.below hMd) hlen hrowe (by have := (hMd).size; omega)
      have hD2 : Below wz.heap.size wz w2 := (hMd).grown hg2 (by have := (hMd).size; omega) (fun k e => by cases e; exact Nat.le_refl _)
      have hC2 : (fun W' : World => W'.cell? ⟨bx, 0, none⟩ = some (.int .i64 r.to) ∧ W'.cell? ⟨bx, 1, none⟩ = some (.int .i64 r.many)) w2 := ⟨cell_below hbx0 hD2, cell_below hbx1 hD2⟩
      refine anyC_only (i := 2) (by kernel_rfl) (wpOpIn_value rfl rfl (by kernel_rfl) rfl (run_exec_append rfl hr2) ⟨hC2, ?_⟩)
      simp only [Act.put, List.setIfInBounds_toArray, List.set_cons_succ, List.set_cons_zero]
      have hown9 : World.ownsRow (w2) wz.heap.size 52 2 (.slice A2 l.length c2) l.length (flatR l) := hown2
      have hm0 : (w2).heap[wz.heap.size + 1]? = some (.cells #[.int .i64 r.to, .int .i64 r.many] 52 (0, 0)) := (hg2.block _ (by simp) (by simp)).trans (by have h9 := World.alloc_heap_new (wz.drew.alloc (.cells #[] 52)) (.cells #[.int .i64 r.to, .int .i64 r.many] 52); simpa using h9)
      obtain ⟨i0, hi, hzz0, hzz1, hzz2⟩ := info_parts info52
      obtain ⟨g3, c3, w3, hr3, hown3, hg3, hgo⟩ := run_append_one (P := Try.prog) (w2) wz.heap.size 44 44 52 i0 (.agg #[.int .i64 0, .int .i64 0]) 2 16 Try.underlying44 hi hzz0 hzz1 hzz2 rfl (by decide) _ _ _ hown9 ⟨wz.heap.size + 1, 0, none⟩ 1 [.int .i64 r.to, .int .i64 r.many] rfl (by
        intro j u hu
        rw [hadd0]
        rcases j with _ | _ | j
        · simp at hu; subst hu; simpa using cell_at hm0 0
        · simp at hu; subst hu; simpa using cell_at hm0 1
        · simp at hu) (by simp [Value.oneCell']) (by simp only [maxLen]; omega) (by omega) (by have := (hD2).size; omega)
      have hD3 : Below wz.heap.size wz w3 := (hD2).grown hg3 (by have := (hD2).size; omega) (fun k e => ownsRow_base hown9 e)
      have hC3 : (fun W' : World => W'.cell? ⟨bx, 0, none⟩ = some (.int .i64 r.to) ∧ W'.cell? ⟨bx, 1, none⟩ = some (.int .i64 r.many)) w3 := ⟨cell_below hbx0 hD3, cell_below hbx1 hD3⟩
      refine anyC_only (i := 5) (by kernel_rfl) (wpOpIn_value rfl rfl (by kernel_rfl) rfl (run_exec_append rfl hr3) ⟨hC3, ?_⟩)
      simp only [Act.put, List.setIfInBounds_toArray, List.set_cons_succ, List.set_cons_zero]
      refine anyC_only (i := 6) (by kernel_rfl) (wpOpIn_step rfl (fun K' hK' => ?_))
      go_simp
      refine hK' _ _ ⟨hC3, ?_⟩
      clear hK' K'
      refine anyC_done (by kernel_rfl) ?_
      go_wp2_with fail
      go_ret
      refine ⟨⟨some ⟨g3, 0, none⟩, c3, by rw [Ha.out]; simp, ?_⟩, below_then hDz hD3⟩
      rw [Ha.out, List.length_append, List.length_singleton, flatR_append]
      exact ownsRow_mono hown3 hDz.size
  · go_simp
    have hMg : Below wz.heap.size wz ((wz.drew).alloc (.cells #[.int .i64 r.to, .int .i64 r.many] 52)) := below_alloc hz0 _
    have hCMg : (fun W' : World => W'.cell? ⟨bx, 0, none⟩ = some (.int .i64 r.to) ∧ W'.cell? ⟨bx, 1, none⟩ = some (.int .i64 r.many)) ((wz.drew).alloc (.cells #[.int .i64 r.to, .int .i64 r.many] 52)) := ⟨cell_below hbx0 hMg, cell_below hbx1 hMg⟩
    refine hK' _ _ ⟨hCMg, ?_⟩
    clear hK' K'
    refine anyC_only (i := 0) (by kernel_rfl) (wpOpIn_step rfl (fun K' hK' => ?_))
    go_simp
    have hNh : Below wz.heap.size wz ((wz.drew.alloc (.cells #[.int .i64 r.to, .int .i64 r.many] 52)).alloc (.cells #[] 52)) := below_alloc hMg _
    have hCNh : (fun W' : World => W'.cell? ⟨bx, 0, none⟩ = some (.int .i64 r.to) ∧ W'.cell? ⟨bx, 1, none⟩ = some (.int .i64 r.many)) ((wz.drew.alloc (.cells #[.int .i64 r.to, .int .i64 r.many] 52)).alloc (.cells #[] 52)) := ⟨cell_below hbx0 hNh, cell_below hbx1 hNh⟩
    refine hK' _ _ ⟨hCNh, ?_⟩
    clear hK' K'
    have hrowi : World.ownsRow ((wz.drew.alloc (.cells #[.int .i64 r.to, .int .i64 r.many] 52)).alloc (.cells #[] 52)) wz.heap.size 52 2 (.slice (some ⟨wz.heap.size + 1, 0, none⟩) 0 0) 0 [] := (by have h9 := World.ownsRow_made (base := wz.heap.size) (e := 52) (size := 2) (wz.drew.alloc (.cells #[.int .i64 r.to, .int .i64 r.many] 52)) #[] 0 (by simp) (by simp [maxLen]) (by simp); simpa using h9)
    obtain ⟨A2, c2, w2, hr2, hown2, hg2⟩ := run_copyR l A c (wz.heap.size + 1) wz.heap.size ((wz.drew.alloc (.cells #[.int .i64 r.to, .int .i64 r.many] 52)).alloc (.cells #[] 52)) (hl.below hNh) hlen hrowi (by have := (hNh).size; omega)
    have hD2 : Below wz.heap.size wz w2 := (hNh).grown hg2 (by have := (hNh).size; omega) (fun k e => by cases e; exact Nat.le_succ _)
    have hC2 : (fun W' : World => W'.cell? ⟨bx, 0, none⟩ = some (.int .i64 r.to) ∧ W'.cell? ⟨bx, 1, none⟩ = some (.int .i64 r.many)) w2 := ⟨cell_below hbx0 hD2, cell_below hbx1 hD2⟩
    refine anyC_only (i := 2) (by kernel_rfl) (wpOpIn_value rfl rfl (by kernel_rfl) rfl (run_exec_append rfl hr2) ⟨hC2, ?_⟩)
    simp only [Act.put, List.setIfInBounds_toArray, List.set_cons_succ, List.set_cons_zero]
    have hown9 : World.ownsRow (w2) wz.heap.size 52 2 (.slice A2 l.length c2) l.length (flatR l) := hown2
    have hm0 : (w2).heap[wz.heap.size]? = some (.cells #[.int .i64 r.to, .int .i64 r.many] 52 (0, 0)) := (hg2.block _ (by simp <;> omega) (by simp)).trans (heap_alloc_old' (World.alloc_heap_new _ _) _)
    obtain ⟨i0, hi, hzz0, hzz1, hzz2⟩ := info_parts info52
    obtain ⟨g3, c3, w3, hr3, hown3, hg3, hgo⟩ := run_append_one (P := Try.prog) (w2) wz.heap.size 44 44 52 i0 (.agg #[.int .i64 0, .int .i64 0]) 2 16 Try.underlying44 hi hzz0 hzz1 hzz2 rfl (by decide) _ _ _ hown9 ⟨wz.heap.size, 0, none⟩ 1 [.int .i64 r.to, .int .i64 r.many] rfl (by
      intro j u hu
      rw [hadd0]
      rcases j with _ | _ | j
      · simp at hu; subst hu; simpa using cell_at hm0 0
      · simp at hu; subst hu; simpa using cell_at hm0 1
      · simp at hu) (by simp [Value.oneCell']) (by simp only [maxLen]; omega) (by omega) (by have := (hD2).size; omega)
    have hD3 : Below wz.heap.size wz w3 := (hD2).grown hg3 (by have := (hD2).size; omega) (fun k e => ownsRow_base hown9 e)
    have hC3 : (fun W' : World => W'.cell? ⟨bx, 0, none⟩ = some (.int .i64 r.to) ∧ W'.cell? ⟨bx, 1, none⟩ = some (.int .i64 r.many)) w3 := ⟨cell_below hbx0 hD3, cell_below hbx1 hD3⟩
    refine anyC_only (i := 5) (by kernel_rfl) (wpOpIn_value rfl rfl (by kernel_rfl) rfl (run_exec_append rfl hr3) ⟨hC3, ?_⟩)
    simp only [Act.put, List.setIfInBounds_toArray, List.set_cons_succ, List.set_cons_zero]
    refine anyC_only (i := 6) (by kernel_rfl) (wpOpIn_step rfl (fun K' hK' => ?_))
    go_simp
    refine hK' _ _ ⟨hC3, ?_⟩
    clear hK' K'
    refine anyC_done (by kernel_rfl) ?_
    go_wp2_with fail
    go_ret
    refine ⟨⟨some ⟨g3, 0, none⟩, c3, by rw [Ha.out]; simp, ?_⟩, below_then hDz hD3⟩
    rw [Ha.out, List.length_append, List.length_singleton, flatR_append]
    exact ownsRow_mono hown3 hDz.size

set_option maxRecDepth 100000 in
set_option maxHeartbeats 8000000 in
theorem refAdd_app (l : List Run) (A : Option Addr) (c : Nat) (r : Run) (w : World) (hl : RunsC w A l) (hlen : l.length ≤ 1048576) (hr : r.many ≠ 0) (hr0 : FairR r) (hne : l ≠ []) (hf : FairR (l.getLast hne))
    (hj : joinsB (l.getLast hne) r = false) :
    Calls Try.prog 77 #[.slice A l.length c, .agg #[.int .i64 r.to, .int .i64 r.many]] w (RetRuns w (addN l r)) := by
  have hmx : Try.prog.follows .mixedOrders = true := by kernel_rfl
  have hz : (r.many == 0) = false := by simp [hr]
  have hpos : 0 < l.length := List.length_pos_iff.2 hne
  have hlz : decide (0 < l.length) = true := by simp [hpos]
  have Ha := Lib.hid (addN_app hne hr hj)
  have hsub : 0 ≤ (l.length : Int) - 1 := by omega
  have hlk := hl (l.length - 1) (by omega)
  obtain ⟨b, o, rfl, hg0, hg1⟩ := hlk
  rw [← List.getLast_eq_getElem hne] at hg0 hg1
  obtain ⟨f1, f2, f3, f4⟩ := hf
  obtain ⟨f5, f6, f7, f8⟩ := hr0
  have Hr := Lib.hid hr; clear hr
  have Hj := Lib.hid hj; clear hj
  have Hl := Lib.hid hl; clear hl
  have hbl : b < w.heap.size := World.block_lt_of_cell? w ⟨b, _, none⟩ hg0
  by_cases k1 : (l.getLast hne).to = -1
  · have e1 : ((l.getLast hne).to == -1) = true := by simp [k1]
    have e2 : (r.to == -1) = false := by have := Hj.out; simp [joinsB, k1] at this; simpa using this
    have e3 : decide (0 ≤ (l.getLast hne).to) = false := by simp; omega
    clear k1
    go_enter Try.func77, Try.ntmps77
    go_wp2_with fail
    have hlen := Nat.le_trans hlen (show 1048576 ≤ 1099511627776 by decide)
    have hDz : Below w.heap.size w ((w.alloc (.cells #[.int .i64 r.to, .int .i64 r.many] 52)).alloc (.cells #[.int .i64 (l.getLast hne).to, .int .i64 (l.getLast hne).many] 52)) := below_alloc (below_alloc (Below.refl _ _) _) _
    have hbb := heap_alloc_old' (World.alloc_heap_new w (.cells #[.int .i64 r.to, .int .i64 r.many] 52)) (.cells #[.int .i64 (l.getLast hne).to, .int .i64 (l.getLast hne).many] 52)
    have hbx0 := cell_at hbb 0; have hbx1 := cell_at hbb 1
    simp only [List.getElem?_toArray, List.getElem?_cons_zero, List.getElem?_cons_succ] at hbx0 hbx1
    clear hbb
    obtain ⟨bx, hbx⟩ : ∃ bx, w.heap.size = bx := ⟨_, rfl⟩
    obtain ⟨wz, hwz⟩ : ∃ wz, (w.alloc (.cells #[.int .i64 r.to, .int .i64 r.many] 52)).alloc (.cells #[.int .i64 (l.getLast hne).to, .int .i64 (l.getLast hne).many] 52) = wz := ⟨_, rfl⟩
    have hl := Hl.out.below hDz
    rw [hwz] at hDz hbx0 hbx1 hl ⊢
    rw [hbx] at hbx0 hbx1 ⊢
    obtain ⟨A, hA⟩ : ∃ A : Option Addr, some ⟨b, o, none⟩ = A := ⟨_, rfl⟩
    rw [hA] at hl ⊢
    refine wp_region_anyC9 (C := (fun W' : World => W'.cell? ⟨bx, 0, none⟩ = some (.int .i64 r.to) ∧ W'.cell? ⟨bx, 1, none⟩ = some (.int .i64 r.many))) hmx ?_
    have hz0 : Below wz.heap.size wz wz.drew := (Below.refl _ _).drew
    have hCw : (fun W' : World => W'.cell? ⟨bx, 0, none⟩ = some (.int .i64 r.to) ∧ W'.cell? ⟨bx, 1, none⟩ = some (.int .i64 r.many)) wz.drew := ⟨cell_below hbx0 hz0, cell_below hbx1 hz0⟩
    refine anyC_take (i := 1) ?v1al rfl rfl (by kernel_rfl) (by kernel_rfl) (by kernel_rfl) (fun _ _ _ h => h) hCw ⟨.inl ⟨by kernel_rfl, fun W' hW' => ?y1al⟩, fun _ => rfl⟩ ?_
    case y1al => (obtain ⟨q0, q1⟩ := hW'; go_simp; rfl)
    simp only [Act.put, List.setIfInBounds_toArray, List.set_cons_succ, List.set_cons_zero]
    refine anyC_take (i := 3) ?v3al rfl rfl (by kernel_rfl) (by kernel_rfl) (by kernel_rfl) (fun _ _ _ h => h) hCw ⟨.inl ⟨by kernel_rfl, fun W' hW' => ?y3al⟩, fun _ => rfl⟩ ?_
    case y3al => (obtain ⟨q0, q1⟩ := hW'; go_simp; rfl)
    simp only [Act.put, List.setIfInBounds_toArray, List.set_cons_succ, List.set_cons_zero]
    refine anyC_two' (i := 0) (j := 4) (by kernel_rfl) (wpOpIn_step rfl (fun K' hK' => ?_)) (wpOpIn_step rfl (fun K' hK' => ?_))
    · go_simp
      have hNa : Below wz.heap.size wz ((wz.drew).alloc (.cells #[] 52)) := below_alloc hz0 _
      have hCNa : (fun W' : World => W'.cell? ⟨bx, 0, none⟩ = some (.int .i64 r.to) ∧ W'.cell? ⟨bx, 1, none⟩ = some (.int .i64 r.many)) ((wz.drew).alloc (.cells #[] 52)) := ⟨cell_below hbx0 hNa, cell_below hbx1 hNa⟩
      refine hK' _ _ ⟨hCNa, ?_⟩
      clear hK' K'
      have hrowa : World.ownsRow (wz.drew.alloc (.cells #[] 52)) wz.heap.size 52 2 (.slice (some ⟨wz.heap.size, 0, none⟩) 0 0) 0 [] := World.ownsRow_made wz.drew #[] 0 (Nat.le_refl _) (by simp [maxLen]) (by simp)
      obtain ⟨A2, c2, w2, hr2, hown2, hg2⟩ := run_copyR l A c (wz.heap.size) wz.heap.size (wz.drew.alloc (.cells #[] 52)) (hl.below hNa) hlen hrowa (by have := (hNa).size; omega)
      have hD2 : Below wz.heap.size wz w2 := (hNa).grown hg2 (by have := (hNa).size; omega) (fun k e => by cases e; exact Nat.le_refl _)
      have hC2 : (fun W' : World => W'.cell? ⟨bx, 0, none⟩ = some (.int .i64 r.to) ∧ W'.cell? ⟨bx, 1, none⟩ = some (.int .i64 r.many)) w2 := ⟨cell_below hbx0 hD2, cell_below hbx1 hD2⟩
      refine anyC_two' (i := 2) (j := 4) (by kernel_rfl) (wpOpIn_value rfl rfl (by kernel_rfl) rfl (run_exec_append rfl hr2) ⟨hC2, ?_⟩) (wpOpIn_step rfl (fun K' hK' => ?_))
      · simp only [Act.put, List.setIfInBounds_toArray, List.set_cons_succ, List.set_cons_zero]
        refine anyC_only (i := 4) (by kernel_rfl) (wpOpIn_step rfl (fun K' hK' => ?_))
        go_simp
        have hMb : Below wz.heap.size wz ((w2).alloc (.cells #[.int .i64 r.to, .int .i64 r.many] 52)) := below_alloc hD2 _
        have hCMb : (fun W' : World => W'.cell? ⟨bx, 0, none⟩ = some (.int .i64 r.to) ∧ W'.cell? ⟨bx, 1, none⟩ = some (.int .i64 r.many)) ((w2).alloc (.cells #[.int .i64 r.to, .int .i64 r.many] 52)) := ⟨cell_below hbx0 hMb, cell_below hbx1 hMb⟩
        refine hK' _ _ ⟨hCMb, ?_⟩
        clear hK' K'
        have hown9 : World.ownsRow (w2.alloc (.cells #[.int .i64 r.to, .int .i64 r.many] 52)) wz.heap.size 52 2 (.slice A2 l.length c2) l.length (flatR l) := hown2.alloc _
        have hm0 : (w2.alloc (.cells #[.int .i64 r.to, .int .i64 r.many] 52)).heap[w2.heap.size]? = some (.cells #[.int .i64 r.to, .int .i64 r.many] 52 (0, 0)) := World.alloc_heap_new _ _
        obtain ⟨i0, hi, hzz0, hzz1, hzz2⟩ := info_parts info52
        obtain ⟨g3, c3, w3, hr3, hown3, hg3, hgo⟩ := run_append_one (P := Try.prog) (w2.alloc (.cells #[.int .i64 r.to, .int .i64 r.many] 52)) wz.heap.size 44 44 52 i0 (.agg #[.int .i64 0, .int .i64 0]) 2 16 Try.underlying44 hi hzz0 hzz1 hzz2 rfl (by decide) _ _ _ hown9 ⟨w2.heap.size, 0, none⟩ 1 [.int .i64 r.to, .int .i64 r.many] rfl (by
          intro j u hu
          rw [hadd0]
          rcases j with _ | _ | j
          · simp at hu; subst hu; simpa using cell_at hm0 0
          · simp at hu; subst hu; simpa using cell_at hm0 1
          · simp at hu) (by simp [Value.oneCell']) (by simp only [maxLen]; omega) (by omega) (by have := (hMb).size; omega)
        have hD3 : Below wz.heap.size wz w3 := (hMb).grown hg3 (by have := (hMb).size; omega) (fun k e => ownsRow_base hown9 e)
        have hC3 : (fun W' : World => W'.cell? ⟨bx, 0, none⟩ = some (.int .i64 r.to) ∧ W'.cell? ⟨bx, 1, none⟩ = some (.int .i64 r.many)) w3 := ⟨cell_below hbx0 hD3, cell_below hbx1 hD3⟩
        refine anyC_only (i := 5) (by kernel_rfl) (wpOpIn_value rfl rfl (by kernel_rfl) rfl (run_exec_append rfl hr3) ⟨hC3, ?_⟩)
        simp only [Act.put, List.setIfInBounds_toArray, List.set_cons_succ, List.set_cons_zero]
        refine anyC_only (i := 6) (by kernel_rfl) (wpOpIn_step rfl (fun K' hK' => ?_))
        go_simp
        refine hK' _ _ ⟨hC3, ?_⟩
        clear hK' K'
        refine anyC_done (by kernel_rfl) ?_
        go_wp2_with fail
        go_ret
        refine ⟨⟨some ⟨g3, 0, none⟩, c3, by rw [Ha.out]; simp, ?_⟩, below_then hDz hD3⟩
        rw [Ha.out, List.length_append, List.length_singleton, flatR_append]
        exact ownsRow_mono hown3 hDz.size
      · clear hr2 hown2 hg2 hD2 hC2
        go_simp
        have hMd : Below wz.heap.size wz ((wz.drew.alloc (.cells #[] 52)).alloc (.cells #[.int .i64 r.to, .int .i64 r.many] 52)) := below_alloc hNa _
        have hCMd : (fun W' : World => W'.cell? ⟨bx, 0, none⟩ = some (.int .i64 r.to) ∧ W'.cell? ⟨bx, 1, none⟩ = some (.int .i64 r.many)) ((wz.drew.alloc (.cells #[] 52)).alloc (.cells #[.int .i64 r.to, .int .i64 r.many] 52)) := ⟨cell_below hbx0 hMd, cell_below hbx1 hMd⟩
        refine hK' _ _ ⟨hCMd, ?_⟩
        clear hK' K'
        have hrowe : World.ownsRow ((wz.drew.alloc (.cells #[] 52)).alloc (.cells #[.int .i64 r.to, .int .i64 r.many] 52)) wz.heap.size 52 2 (.slice (some ⟨wz.heap.size, 0, none⟩) 0 0) 0 [] := (World.ownsRow_made wz.drew #[] 0 (Nat.le_refl _) (by simp [maxLen]) (by simp)).alloc _
        obtain ⟨A2, c2, w2, hr2, hown2, hg2⟩ := run_copyR l A c (wz.heap.size) wz.heap.size ((wz.drew.alloc (.cells #[] 52)).alloc (.cells #[.int .i64 r.to, .int .i64 r.many] 52)) (hl.below hMd) hlen hrowe (by have := (hMd).size; omega)
        have hD2 : Below wz.heap.size wz w2 := (hMd).grown hg2 (by have := (hMd).size; omega) (fun k e => by cases e; exact Nat.le_refl _)
        have hC2 : (fun W' : World => W'.cell? ⟨bx, 0, none⟩ = some (.int .i64 r.to) ∧ W'.cell? ⟨bx, 1, none⟩ = some (.int .i64 r.many)) w2 := ⟨cell_below hbx0 hD2, cell_below hbx1 hD2⟩
        refine anyC_only (i := 2) (by kernel_rfl) (wpOpIn_value rfl rfl (by kernel_rfl) rfl (run_exec_append rfl hr2) ⟨hC2, ?_⟩)
        simp only [Act.put, List.setIfInBounds_toArray, List.set_cons_succ, List.set_cons_zero]
        have hown9 : World.ownsRow (w2) wz.heap.size 52 2 (.slice A2 l.length c2) l.length (flatR l) := hown2
        have hm0 : (w2).heap[wz.heap.size + 1]? = some (.cells #[.int .i64 r.to, .int .i64 r.many] 52 (0, 0)) := (hg2.block _ (by simp) (by simp)).trans (by have h9 := World.alloc_heap_new (wz.drew.alloc (.cells #[] 52)) (.cells #[.int .i64 r.to, .int .i64 r.many] 52); simpa using h9)
        obtain ⟨i0, hi, hzz0, hzz1, hzz2⟩ := info_parts info52
        obtain ⟨g3, c3, w3, hr3, hown3, hg3, hgo⟩ := run_append_one (P := Try.prog) (w2) wz.heap.size 44 44 52 i0 (.agg #[.int .i64 0, .int .i64 0]) 2 16 Try.underlying44 hi hzz0 hzz1 hzz2 rfl (by decide) _ _ _ hown9 ⟨wz.heap.size + 1, 0, none⟩ 1 [.int .i64 r.to, .int .i64 r.many] rfl (by
          intro j u hu
          rw [hadd0]
          rcases j with _ | _ | j
          · simp at hu; subst hu; simpa using cell_at hm0 0
          · simp at hu; subst hu; simpa using cell_at hm0 1
          · simp at hu) (by simp [Value.oneCell']) (by simp only [maxLen]; omega) (by omega) (by have := (hD2).size; omega)
        have hD3 : Below wz.heap.size wz w3 := (hD2).grown hg3 (by have := (hD2).size; omega) (fun k e => ownsRow_base hown9 e)
        have hC3 : (fun W' : World => W'.cell? ⟨bx, 0, none⟩ = some (.int .i64 r.to) ∧ W'.cell? ⟨bx, 1, none⟩ = some (.int .i64 r.many)) w3 := ⟨cell_below hbx0 hD3, cell_below hbx1 hD3⟩
        refine anyC_only (i := 5) (by kernel_rfl) (wpOpIn_value rfl rfl (by kernel_rfl) rfl (run_exec_append rfl hr3) ⟨hC3, ?_⟩)
        simp only [Act.put, List.setIfInBounds_toArray, List.set_cons_succ, List.set_cons_zero]
        refine anyC_only (i := 6) (by kernel_rfl) (wpOpIn_step rfl (fun K' hK' => ?_))
        go_simp
        refine hK' _ _ ⟨hC3, ?_⟩
        clear hK' K'
        refine anyC_done (by kernel_rfl) ?_
        go_wp2_with fail
        go_ret
        refine ⟨⟨some ⟨g3, 0, none⟩, c3, by rw [Ha.out]; simp, ?_⟩, below_then hDz hD3⟩
        rw [Ha.out, List.length_append, List.length_singleton, flatR_append]
        exact ownsRow_mono hown3 hDz.size
    · go_simp
      have hMg : Below wz.heap.size wz ((wz.drew).alloc (.cells #[.int .i64 r.to, .int .i64 r.many] 52)) := below_alloc hz0 _
      have hCMg : (fun W' : World => W'.cell? ⟨bx, 0, none⟩ = some (.int .i64 r.to) ∧ W'.cell? ⟨bx, 1, none⟩ = some (.int .i64 r.many)) ((wz.drew).alloc (.cells #[.int .i64 r.to, .int .i64 r.many] 52)) := ⟨cell_below hbx0 hMg, cell_below hbx1 hMg⟩
      refine hK' _ _ ⟨hCMg, ?_⟩
      clear hK' K'
      refine anyC_only (i := 0) (by kernel_rfl) (wpOpIn_step rfl (fun K' hK' => ?_))
      go_simp
      have hNh : Below wz.heap.size wz ((wz.drew.alloc (.cells #[.int .i64 r.to, .int .i64 r.many] 52)).alloc (.cells #[] 52)) := below_alloc hMg _
      have hCNh : (fun W' : World => W'.cell? ⟨bx, 0, none⟩ = some (.int .i64 r.to) ∧ W'.cell? ⟨bx, 1, none⟩ = some (.int .i64 r.many)) ((wz.drew.alloc (.cells #[.int .i64 r.to, .int .i64 r.many] 52)).alloc (.cells #[] 52)) := ⟨cell_below hbx0 hNh, cell_below hbx1 hNh⟩
      refine hK' _ _ ⟨hCNh, ?_⟩
      clear hK' K'
      have hrowi : World.ownsRow ((wz.drew.alloc (.cells #[.int .i64 r.to, .int .i64 r.many] 52)).alloc (.cells #[] 52)) wz.heap.size 52 2 (.slice (some ⟨wz.heap.size + 1, 0, none⟩) 0 0) 0 [] := (by have h9 := World.ownsRow_made (base := wz.heap.size) (e := 52) (size := 2) (wz.drew.alloc (.cells #[.int .i64 r.to, .int .i64 r.many] 52)) #[] 0 (by simp) (by simp [maxLen]) (by simp); simpa using h9)
      obtain ⟨A2, c2, w2, hr2, hown2, hg2⟩ := run_copyR l A c (wz.heap.size + 1) wz.heap.size ((wz.drew.alloc (.cells #[.int .i64 r.to, .int .i64 r.many] 52)).alloc (.cells #[] 52)) (hl.below hNh) hlen hrowi (by have := (hNh).size; omega)
      have hD2 : Below wz.heap.size wz w2 := (hNh).grown hg2 (by have := (hNh).size; omega) (fun k e => by cases e; exact Nat.le_succ _)
      have hC2 : (fun W' : World => W'.cell? ⟨bx, 0, none⟩ = some (.int .i64 r.to) ∧ W'.cell? ⟨bx, 1, none⟩ = some (.int .i64 r.many)) w2 := ⟨cell_below hbx0 hD2, cell_below hbx1 hD2⟩
      refine anyC_only (i := 2) (by kernel_rfl) (wpOpIn_value rfl rfl (by kernel_rfl) rfl (run_exec_append rfl hr2) ⟨hC2, ?_⟩)
      simp only [Act.put, List.setIfInBounds_toArray, List.set_cons_succ, List.set_cons_zero]
      have hown9 : World.ownsRow (w2) wz.heap.size 52 2 (.slice A2 l.length c2) l.length (flatR l) := hown2
      have hm0 : (w2).heap[wz.heap.size]? = some (.cells #[.int .i64 r.to, .int .i64 r.many] 52 (0, 0)) := (hg2.block _ (by simp <;> omega) (by simp)).trans (heap_alloc_old' (World.alloc_heap_new _ _) _)
      obtain ⟨i0, hi, hzz0, hzz1, hzz2⟩ := info_parts info52
      obtain ⟨g3, c3, w3, hr3, hown3, hg3, hgo⟩ := run_append_one (P := Try.prog) (w2) wz.heap.size 44 44 52 i0 (.agg #[.int .i64 0, .int .i64 0]) 2 16 Try.underlying44 hi hzz0 hzz1 hzz2 rfl (by decide) _ _ _ hown9 ⟨wz.heap.size, 0, none⟩ 1 [.int .i64 r.to, .int .i64 r.many] rfl (by
        intro j u hu
        rw [hadd0]
        rcases j with _ | _ | j
        · simp at hu; subst hu; simpa using cell_at hm0 0
        · simp at hu; subst hu; simpa using cell_at hm0 1
        · simp at hu) (by simp [Value.oneCell']) (by simp only [maxLen]; omega) (by omega) (by have := (hD2).size; omega)
      have hD3 : Below wz.heap.size wz w3 := (hD2).grown hg3 (by have := (hD2).size; omega) (fun k e => ownsRow_base hown9 e)
      have hC3 : (fun W' : World => W'.cell? ⟨bx, 0, none⟩ = some (.int .i64 r.to) ∧ W'.cell? ⟨bx, 1, none⟩ = some (.int .i64 r.many)) w3 := ⟨cell_below hbx0 hD3, cell_below hbx1 hD3⟩
      refine anyC_only (i := 5) (by kernel_rfl) (wpOpIn_value rfl rfl (by kernel_rfl) rfl (run_exec_append rfl hr3) ⟨hC3, ?_⟩)
      simp only [Act.put, List.setIfInBounds_toArray, List.set_cons_succ, List.set_cons_zero]
      refine anyC_only (i := 6) (by kernel_rfl) (wpOpIn_step rfl (fun K' hK' => ?_))
      go_simp
      refine hK' _ _ ⟨hC3, ?_⟩
      clear hK' K'
      refine anyC_done (by kernel_rfl) ?_
      go_wp2_with fail
      go_ret
      refine ⟨⟨some ⟨g3, 0, none⟩, c3, by rw [Ha.out]; simp, ?_⟩, below_then hDz hD3⟩
      rw [Ha.out, List.length_append, List.length_singleton, flatR_append]
      exact ownsRow_mono hown3 hDz.size
  · have e1 : ((l.getLast hne).to == -1) = false := by simp [k1]
    have e3 : decide (0 ≤ (l.getLast hne).to) = true := by simp; omega
    have e4 : (r.to == (l.getLast hne).to + (l.getLast hne).many) = false := by have := Hj.out; simp [joinsB, k1] at this; by_cases q : r.to = (l.getLast hne).to + (l.getLast hne).many; (exact absurd q (this (by omega))); simpa using q
    clear k1
    go_enter Try.func77, Try.ntmps77
    go_wp2_with fail
    have hlen := Nat.le_trans hlen (show 1048576 ≤ 1099511627776 by decide)
    have hDz : Below w.heap.size w ((w.alloc (.cells #[.int .i64 r.to, .int .i64 r.many] 52)).alloc (.cells #[.int .i64 (l.getLast hne).to, .int .i64 (l.getLast hne).many] 52)) := below_alloc (below_alloc (Below.refl _ _) _) _
    have hbb := heap_alloc_old' (World.alloc_heap_new w (.cells #[.int .i64 r.to, .int .i64 r.many] 52)) (.cells #[.int .i64 (l.getLast hne).to, .int .i64 (l.getLast hne).many] 52)
    have hbx0 := cell_at hbb 0; have hbx1 := cell_at hbb 1
    simp only [List.getElem?_toArray, List.getElem?_cons_zero, List.getElem?_cons_succ] at hbx0 hbx1
    clear hbb
    obtain ⟨bx, hbx⟩ : ∃ bx, w.heap.size = bx := ⟨_, rfl⟩
    obtain ⟨wz, hwz⟩ : ∃ wz, (w.alloc (.cells #[.int .i64 r.to, .int .i64 r.many] 52)).alloc (.cells #[.int .i64 (l.getLast hne).to, .int .i64 (l.getLast hne).many] 52) = wz := ⟨_, rfl⟩
    have hl := Hl.out.below hDz
    rw [hwz] at hDz hbx0 hbx1 hl ⊢
    rw [hbx] at hbx0 hbx1 ⊢
    obtain ⟨A, hA⟩ : ∃ A : Option Addr, some ⟨b, o, none⟩ = A := ⟨_, rfl⟩
    rw [hA] at hl ⊢
    refine wp_region_anyC9 (C := (fun W' : World => W'.cell? ⟨bx, 0, none⟩ = some (.int .i64 r.to) ∧ W'.cell? ⟨bx, 1, none⟩ = some (.int .i64 r.many))) hmx ?_
    have hz0 : Below wz.heap.size wz wz.drew := (Below.refl _ _).drew
    have hCw : (fun W' : World => W'.cell? ⟨bx, 0, none⟩ = some (.int .i64 r.to) ∧ W'.cell? ⟨bx, 1, none⟩ = some (.int .i64 r.many)) wz.drew := ⟨cell_below hbx0 hz0, cell_below hbx1 hz0⟩
    refine anyC_take (i := 1) ?v1am rfl rfl (by kernel_rfl) (by kernel_rfl) (by kernel_rfl) (fun _ _ _ h => h) hCw ⟨.inl ⟨by kernel_rfl, fun W' hW' => ?y1am⟩, fun _ => rfl⟩ ?_
    case y1am => (obtain ⟨q0, q1⟩ := hW'; go_simp; rfl)
    simp only [Act.put, List.setIfInBounds_toArray, List.set_cons_succ, List.set_cons_zero]
    refine anyC_take (i := 3) ?v3am rfl rfl (by kernel_rfl) (by kernel_rfl) (by kernel_rfl) (fun _ _ _ h => h) hCw ⟨.inl ⟨by kernel_rfl, fun W' hW' => ?y3am⟩, fun _ => rfl⟩ ?_
    case y3am => (obtain ⟨q0, q1⟩ := hW'; go_simp; rfl)
    simp only [Act.put, List.setIfInBounds_toArray, List.set_cons_succ, List.set_cons_zero]
    refine anyC_two' (i := 0) (j := 4) (by kernel_rfl) (wpOpIn_step rfl (fun K' hK' => ?_)) (wpOpIn_step rfl (fun K' hK' => ?_))
    · go_simp
      have hNa : Below wz.heap.size wz ((wz.drew).alloc (.cells #[] 52)) := below_alloc hz0 _
      have hCNa : (fun W' : World => W'.cell? ⟨bx, 0, none⟩ = some (.int .i64 r.to) ∧ W'.cell? ⟨bx, 1, none⟩ = some (.int .i64 r.many)) ((wz.drew).alloc (.cells #[] 52)) := ⟨cell_below hbx0 hNa, cell_below hbx1 hNa⟩
      refine hK' _ _ ⟨hCNa, ?_⟩
      clear hK' K'
      have hrowa : World.ownsRow (wz.drew.alloc (.cells #[] 52)) wz.heap.size 52 2 (.slice (some ⟨wz.heap.size, 0, none⟩) 0 0) 0 [] := World.ownsRow_made wz.drew #[] 0 (Nat.le_refl _) (by simp [maxLen]) (by simp)
      obtain ⟨A2, c2, w2, hr2, hown2, hg2⟩ := run_copyR l A c (wz.heap.size) wz.heap.size (wz.drew.alloc (.cells #[] 52)) (hl.below hNa) hlen hrowa (by have := (hNa).size; omega)
      have hD2 : Below wz.heap.size wz w2 := (hNa).grown hg2 (by have := (hNa).size; omega) (fun k e => by cases e; exact Nat.le_refl _)
      have hC2 : (fun W' : World => W'.cell? ⟨bx, 0, none⟩ = some (.int .i64 r.to) ∧ W'.cell? ⟨bx, 1, none⟩ = some (.int .i64 r.many)) w2 := ⟨cell_below hbx0 hD2, cell_below hbx1 hD2⟩
      refine anyC_two' (i := 2) (j := 4) (by kernel_rfl) (wpOpIn_value rfl rfl (by kernel_rfl) rfl (run_exec_append rfl hr2) ⟨hC2, ?_⟩) (wpOpIn_step rfl (fun K' hK' => ?_))
      · simp only [Act.put, List.setIfInBounds_toArray, List.set_cons_succ, List.set_cons_zero]
        refine anyC_only (i := 4) (by kernel_rfl) (wpOpIn_step rfl (fun K' hK' => ?_))
        go_simp
        have hMb : Below wz.heap.size wz ((w2).alloc (.cells #[.int .i64 r.to, .int .i64 r.many] 52)) := below_alloc hD2 _
        have hCMb : (fun W' : World => W'.cell? ⟨bx, 0, none⟩ = some (.int .i64 r.to) ∧ W'.cell? ⟨bx, 1, none⟩ = some (.int .i64 r.many)) ((w2).alloc (.cells #[.int .i64 r.to, .int .i64 r.many] 52)) := ⟨cell_below hbx0 hMb, cell_below hbx1 hMb⟩
        refine hK' _ _ ⟨hCMb, ?_⟩
        clear hK' K'
        have hown9 : World.ownsRow (w2.alloc (.cells #[.int .i64 r.to, .int .i64 r.many] 52)) wz.heap.size 52 2 (.slice A2 l.length c2) l.length (flatR l) := hown2.alloc _
        have hm0 : (w2.alloc (.cells #[.int .i64 r.to, .int .i64 r.many] 52)).heap[w2.heap.size]? = some (.cells #[.int .i64 r.to, .int .i64 r.many] 52 (0, 0)) := World.alloc_heap_new _ _
        obtain ⟨i0, hi, hzz0, hzz1, hzz2⟩ := info_parts info52
        obtain ⟨g3, c3, w3, hr3, hown3, hg3, hgo⟩ := run_append_one (P := Try.prog) (w2.alloc (.cells #[.int .i64 r.to, .int .i64 r.many] 52)) wz.heap.size 44 44 52 i0 (.agg #[.int .i64 0, .int .i64 0]) 2 16 Try.underlying44 hi hzz0 hzz1 hzz2 rfl (by decide) _ _ _ hown9 ⟨w2.heap.size, 0, none⟩ 1 [.int .i64 r.to, .int .i64 r.many] rfl (by
          intro j u hu
          rw [hadd0]
          rcases j with _ | _ | j
          · simp at hu; subst hu; simpa using cell_at hm0 0
          · simp at hu; subst hu; simpa using cell_at hm0 1
          · simp at hu) (by simp [Value.oneCell']) (by simp only [maxLen]; omega) (by omega) (by have := (hMb).size; omega)
        have hD3 : Below wz.heap.size wz w3 := (hMb).grown hg3 (by have := (hMb).size; omega) (fun k e => ownsRow_base hown9 e)
        have hC3 : (fun W' : World => W'.cell? ⟨bx, 0, none⟩ = some (.int .i64 r.to) ∧ W'.cell? ⟨bx, 1, none⟩ = some (.int .i64 r.many)) w3 := ⟨cell_below hbx0 hD3, cell_below hbx1 hD3⟩
        refine anyC_only (i := 5) (by kernel_rfl) (wpOpIn_value rfl rfl (by kernel_rfl) rfl (run_exec_append rfl hr3) ⟨hC3, ?_⟩)
        simp only [Act.put, List.setIfInBounds_toArray, List.set_cons_succ, List.set_cons_zero]
        refine anyC_only (i := 6) (by kernel_rfl) (wpOpIn_step rfl (fun K' hK' => ?_))
        go_simp
        refine hK' _ _ ⟨hC3, ?_⟩
        clear hK' K'
        refine anyC_done (by kernel_rfl) ?_
        go_wp2_with fail
        go_ret
        refine ⟨⟨some ⟨g3, 0, none⟩, c3, by rw [Ha.out]; simp, ?_⟩, below_then hDz hD3⟩
        rw [Ha.out, List.length_append, List.length_singleton, flatR_append]
        exact ownsRow_mono hown3 hDz.size
      · clear hr2 hown2 hg2 hD2 hC2
        go_simp
        have hMd : Below wz.heap.size wz ((wz.drew.alloc (.cells #[] 52)).alloc (.cells #[.int .i64 r.to, .int .i64 r.many] 52)) := below_alloc hNa _
        have hCMd : (fun W' : World => W'.cell? ⟨bx, 0, none⟩ = some (.int .i64 r.to) ∧ W'.cell? ⟨bx, 1, none⟩ = some (.int .i64 r.many)) ((wz.drew.alloc (.cells #[] 52)).alloc (.cells #[.int .i64 r.to, .int .i64 r.many] 52)) := ⟨cell_below hbx0 hMd, cell_below hbx1 hMd⟩
        refine hK' _ _ ⟨hCMd, ?_⟩
        clear hK' K'
        have hrowe : World.ownsRow ((wz.drew.alloc (.cells #[] 52)).alloc (.cells #[.int .i64 r.to, .int .i64 r.many] 52)) wz.heap.size 52 2 (.slice (some ⟨wz.heap.size, 0, none⟩) 0 0) 0 [] := (World.ownsRow_made wz.drew #[] 0 (Nat.le_refl _) (by simp [maxLen]) (by simp)).alloc _
        obtain ⟨A2, c2, w2, hr2, hown2, hg2⟩ := run_copyR l A c (wz.heap.size) wz.heap.size ((wz.drew.alloc (.cells #[] 52)).alloc (.cells #[.int .i64 r.to, .int .i64 r.many] 52)) (hl.below hMd) hlen hrowe (by have := (hMd).size; omega)
        have hD2 : Below wz.heap.size wz w2 := (hMd).grown hg2 (by have := (hMd).size; omega) (fun k e => by cases e; exact Nat.le_refl _)
        have hC2 : (fun W' : World => W'.cell? ⟨bx, 0, none⟩ = some (.int .i64 r.to) ∧ W'.cell? ⟨bx, 1, none⟩ = some (.int .i64 r.many)) w2 := ⟨cell_below hbx0 hD2, cell_below hbx1 hD2⟩
        refine anyC_only (i := 2) (by kernel_rfl) (wpOpIn_value rfl rfl (by kernel_rfl) rfl (run_exec_append rfl hr2) ⟨hC2, ?_⟩)
        simp only [Act.put, List.setIfInBounds_toArray, List.set_cons_succ, List.set_cons_zero]
        have hown9 : World.ownsRow (w2) wz.heap.size 52 2 (.slice A2 l.length c2) l.length (flatR l) := hown2
        have hm0 : (w2).heap[wz.heap.size + 1]? = some (.cells #[.int .i64 r.to, .int .i64 r.many] 52 (0, 0)) := (hg2.block _ (by simp) (by simp)).trans (by have h9 := World.alloc_heap_new (wz.drew.alloc (.cells #[] 52)) (.cells #[.int .i64 r.to, .int .i64 r.many] 52); simpa using h9)
        obtain ⟨i0, hi, hzz0, hzz1, hzz2⟩ := info_parts info52
        obtain ⟨g3, c3, w3, hr3, hown3, hg3, hgo⟩ := run_append_one (P := Try.prog) (w2) wz.heap.size 44 44 52 i0 (.agg #[.int .i64 0, .int .i64 0]) 2 16 Try.underlying44 hi hzz0 hzz1 hzz2 rfl (by decide) _ _ _ hown9 ⟨wz.heap.size + 1, 0, none⟩ 1 [.int .i64 r.to, .int .i64 r.many] rfl (by
          intro j u hu
          rw [hadd0]
          rcases j with _ | _ | j
          · simp at hu; subst hu; simpa using cell_at hm0 0
          · simp at hu; subst hu; simpa using cell_at hm0 1
          · simp at hu) (by simp [Value.oneCell']) (by simp only [maxLen]; omega) (by omega) (by have := (hD2).size; omega)
        have hD3 : Below wz.heap.size wz w3 := (hD2).grown hg3 (by have := (hD2).size; omega) (fun k e => ownsRow_base hown9 e)
        have hC3 : (fun W' : World => W'.cell? ⟨bx, 0, none⟩ = some (.int .i64 r.to) ∧ W'.cell? ⟨bx, 1, none⟩ = some (.int .i64 r.many)) w3 := ⟨cell_below hbx0 hD3, cell_below hbx1 hD3⟩
        refine anyC_only (i := 5) (by kernel_rfl) (wpOpIn_value rfl rfl (by kernel_rfl) rfl (run_exec_append rfl hr3) ⟨hC3, ?_⟩)
        simp only [Act.put, List.setIfInBounds_toArray, List.set_cons_succ, List.set_cons_zero]
        refine anyC_only (i := 6) (by kernel_rfl) (wpOpIn_step rfl (fun K' hK' => ?_))
        go_simp
        refine hK' _ _ ⟨hC3, ?_⟩
        clear hK' K'
        refine anyC_done (by kernel_rfl) ?_
        go_wp2_with fail
        go_ret
        refine ⟨⟨some ⟨g3, 0, none⟩, c3, by rw [Ha.out]; simp, ?_⟩, below_then hDz hD3⟩
        rw [Ha.out, List.length_append, List.length_singleton, flatR_append]
        exact ownsRow_mono hown3 hDz.size
    · go_simp
      have hMg : Below wz.heap.size wz ((wz.drew).alloc (.cells #[.int .i64 r.to, .int .i64 r.many] 52)) := below_alloc hz0 _
      have hCMg : (fun W' : World => W'.cell? ⟨bx, 0, none⟩ = some (.int .i64 r.to) ∧ W'.cell? ⟨bx, 1, none⟩ = some (.int .i64 r.many)) ((wz.drew).alloc (.cells #[.int .i64 r.to, .int .i64 r.many] 52)) := ⟨cell_below hbx0 hMg, cell_below hbx1 hMg⟩
      refine hK' _ _ ⟨hCMg, ?_⟩
      clear hK' K'
      refine anyC_only (i := 0) (by kernel_rfl) (wpOpIn_step rfl (fun K' hK' => ?_))
      go_simp
      have hNh : Below wz.heap.size wz ((wz.drew.alloc (.cells #[.int .i64 r.to, .int .i64 r.many] 52)).alloc (.cells #[] 52)) := below_alloc hMg _
      have hCNh : (fun W' : World => W'.cell? ⟨bx, 0, none⟩ = some (.int .i64 r.to) ∧ W'.cell? ⟨bx, 1, none⟩ = some (.int .i64 r.many)) ((wz.drew.alloc (.cells #[.int .i64 r.to, .int .i64 r.many] 52)).alloc (.cells #[] 52)) := ⟨cell_below hbx0 hNh, cell_below hbx1 hNh⟩
      refine hK' _ _ ⟨hCNh, ?_⟩
      clear hK' K'
      have hrowi : World.ownsRow ((wz.drew.alloc (.cells #[.int .i64 r.to, .int .i64 r.many] 52)).alloc (.cells #[] 52)) wz.heap.size 52 2 (.slice (some ⟨wz.heap.size + 1, 0, none⟩) 0 0) 0 [] := (by have h9 := World.ownsRow_made (base := wz.heap.size) (e := 52) (size := 2) (wz.drew.alloc (.cells #[.int .i64 r.to, .int .i64 r.many] 52)) #[] 0 (by simp) (by simp [maxLen]) (by simp); simpa using h9)
      obtain ⟨A2, c2, w2, hr2, hown2, hg2⟩ := run_copyR l A c (wz.heap.size + 1) wz.heap.size ((wz.drew.alloc (.cells #[.int .i64 r.to, .int .i64 r.many] 52)).alloc (.cells #[] 52)) (hl.below hNh) hlen hrowi (by have := (hNh).size; omega)
      have hD2 : Below wz.heap.size wz w2 := (hNh).grown hg2 (by have := (hNh).size; omega) (fun k e => by cases e; exact Nat.le_succ _)
      have hC2 : (fun W' : World => W'.cell? ⟨bx, 0, none⟩ = some (.int .i64 r.to) ∧ W'.cell? ⟨bx, 1, none⟩ = some (.int .i64 r.many)) w2 := ⟨cell_below hbx0 hD2, cell_below hbx1 hD2⟩
      refine anyC_only (i := 2) (by kernel_rfl) (wpOpIn_value rfl rfl (by kernel_rfl) rfl (run_exec_append rfl hr2) ⟨hC2, ?_⟩)
      simp only [Act.put, List.setIfInBounds_toArray, List.set_cons_succ, List.set_cons_zero]
      have hown9 : World.ownsRow (w2) wz.heap.size 52 2 (.slice A2 l.length c2) l.length (flatR l) := hown2
      have hm0 : (w2).heap[wz.heap.size]? = some (.cells #[.int .i64 r.to, .int .i64 r.many] 52 (0, 0)) := (hg2.block _ (by simp <;> omega) (by simp)).trans (heap_alloc_old' (World.alloc_heap_new _ _) _)
      obtain ⟨i0, hi, hzz0, hzz1, hzz2⟩ := info_parts info52
      obtain ⟨g3, c3, w3, hr3, hown3, hg3, hgo⟩ := run_append_one (P := Try.prog) (w2) wz.heap.size 44 44 52 i0 (.agg #[.int .i64 0, .int .i64 0]) 2 16 Try.underlying44 hi hzz0 hzz1 hzz2 rfl (by decide) _ _ _ hown9 ⟨wz.heap.size, 0, none⟩ 1 [.int .i64 r.to, .int .i64 r.many] rfl (by
        intro j u hu
        rw [hadd0]
        rcases j with _ | _ | j
        · simp at hu; subst hu; simpa using cell_at hm0 0
        · simp at hu; subst hu; simpa using cell_at hm0 1
        · simp at hu) (by simp [Value.oneCell']) (by simp only [maxLen]; omega) (by omega) (by have := (hD2).size; omega)
      have hD3 : Below wz.heap.size wz w3 := (hD2).grown hg3 (by have := (hD2).size; omega) (fun k e => ownsRow_base hown9 e)
      have hC3 : (fun W' : World => W'.cell? ⟨bx, 0, none⟩ = some (.int .i64 r.to) ∧ W'.cell? ⟨bx, 1, none⟩ = some (.int .i64 r.many)) w3 := ⟨cell_below hbx0 hD3, cell_below hbx1 hD3⟩
      refine anyC_only (i := 5) (by kernel_rfl) (wpOpIn_value rfl rfl (by kernel_rfl) rfl (run_exec_append rfl hr3) ⟨hC3, ?_⟩)
      simp only [Act.put, List.setIfInBounds_toArray, List.set_cons_succ, List.set_cons_zero]
      refine anyC_only (i := 6) (by kernel_rfl) (wpOpIn_step rfl (fun K' hK' => ?_))
      go_simp
      refine hK' _ _ ⟨hC3, ?_⟩
      clear hK' K'
      refine anyC_done (by kernel_rfl) ?_
      go_wp2_with fail
      go_ret
      refine ⟨⟨some ⟨g3, 0, none⟩, c3, by rw [Ha.out]; simp, ?_⟩, below_then hDz hD3⟩
      rw [Ha.out, List.length_append, List.length_singleton, flatR_append]
      exact ownsRow_mono hown3 hDz.size

set_option maxRecDepth 100000 in
set_option maxHeartbeats 8000000 in
theorem refAdd_join (l : List Run) (A : Option Addr) (c : Nat) (r : Run) (w : World) (hl : RunsC w A l) (hlen : l.length ≤ 1048576) (hr : r.many ≠ 0) (hr0 : FairR r) (hne : l ≠ []) (hf : FairR (l.getLast hne))
    (hj : joinsB (l.getLast hne) r = true) :
    Calls Try.prog 77 #[.slice A l.length c, .agg #[.int .i64 r.to, .int .i64 r.many]] w (RetRuns w (addN l r)) := by
  have hmx : Try.prog.follows .mixedOrders = true := by kernel_rfl
  have hz : (r.many == 0) = false := by simp [hr]
  have hpos : 0 < l.length := List.length_pos_iff.2 hne
  have hlz : decide (0 < l.length) = true := by simp [hpos]
  have Ha := Lib.hid (addN_join hne hr hj)
  have hsub : 0 ≤ (l.length : Int) - 1 := by omega
  have hlk := hl (l.length - 1) (by omega)
  obtain ⟨b, o, rfl, hg0, hg1⟩ := hlk
  rw [← List.getLast_eq_getElem hne] at hg0 hg1
  obtain ⟨f1, f2, f3, f4⟩ := hf
  obtain ⟨f5, f6, f7, f8⟩ := hr0
  have Hr := Lib.hid hr; clear hr
  have Hj := Lib.hid hj; clear hj
  have Hl := Lib.hid hl; clear hl
  have hbl : b < w.heap.size := World.block_lt_of_cell? w ⟨b, _, none⟩ hg0
  by_cases k1 : (l.getLast hne).to = -1
  · have e1 : ((l.getLast hne).to == -1) = true := by simp [k1]
    have e2 : (r.to == -1) = true := by have := Hj.out; simp [joinsB, k1] at this; simpa using this
    clear k1
    go_enter Try.func77, Try.ntmps77
    go_wp2_with ((at_builtin; refine wpList_append_copy rfl _ _ rfl rfl l (some ⟨b, o, none⟩) c ((w.heap.size + 1) + 1) ((w.heap.size + 1) + 1) rfl rfl (Hl.out.below ?c0) (by omega) ?c1 ?c2 ?_))
    case c0 => repeat (first | exact Below.refl _ _ | refine below_alloc ?_ _)
    case c1 => (have h9 := World.ownsRow_made (base := w.heap.size + 1 + 1) (e := 52) (size := 2) ((w.alloc (.cells #[.int .i64 r.to, .int .i64 r.many] 52)).alloc (.cells #[.int .i64 (l.getLast hne).to, .int .i64 (l.getLast hne).many] 52)) #[] 0 (by simp) (by simp [maxLen]) (by simp); simpa using h9)
    case c2 => simp
    intro A2 c2 w2 hown hg
    obtain ⟨g, rfl⟩ : ∃ g, A2 = some ⟨g, 0, none⟩ := by
      rcases hown.2 with ⟨h, h'⟩ | ⟨g, cap, cur, h, _⟩
      · omega
      · cases h; exact ⟨g, rfl⟩
    have hgb : w.heap.size + 1 + 1 ≤ g := (hown.lt g rfl).1
    have hD2 : Below w.heap.size w w2 := (below_alloc (below_alloc (below_alloc (Below.refl _ w) (.cells #[.int .i64 r.to, .int .i64 r.many] 52)) (.cells #[.int .i64 (l.getLast hne).to, .int .i64 (l.getLast hne).many] 52)) (.cells #[] 52)).grown hg (by simp; omega) (fun k e => by cases e; omega)
    have hbb : w2.heap[w.heap.size]? = some (.cells #[.int .i64 r.to, .int .i64 r.many] 52 (0, 0)) := (hg.block _ (by simp; omega) (by simp; omega)).trans (heap_alloc_old' (heap_alloc_old' (World.alloc_heap_new w (.cells #[.int .i64 r.to, .int .i64 r.many] 52)) (.cells #[.int .i64 (l.getLast hne).to, .int .i64 (l.getLast hne).many] 52)) (.cells #[] 52))
    have hbx0 := cell_at hbb 0; have hbx1 := cell_at hbb 1
    simp only [List.getElem?_toArray, List.getElem?_cons_zero, List.getElem?_cons_succ] at hbx0 hbx1
    have hl0 : w2.cell? ⟨g, (l.length - 1) * 2, none⟩ = some (.int .i64 (l.getLast hne).to) := by
      rw [hown.cellAt _ (by omega), List.getLast_eq_getElem]; exact (flatR_get l _ (by omega)).1
    have hl1 : w2.cell? ⟨g, (l.length - 1) * 2 + 1, none⟩ = some (.int .i64 (l.getLast hne).many) := by
      rw [hown.cellAt _ (by omega), List.getLast_eq_getElem]; exact (flatR_get l _ (by omega)).2
    have hgf := hown.frozenAt ((l.length - 1) * 2 + 1)
    have Hown := Lib.hid hown
    clear hown hg hbb
    go_wp2_with fail
    go_region
    go_wp2_with fail
    go_ret
    have hlen9 : (l.dropLast ++ [(⟨(l.getLast hne).to, (l.getLast hne).many + r.many⟩ : Run)]).length = l.length := by simp; omega
    have h3 := ownsRow_below Hown.out ((Below.refl w2.heap.size w2).drew)
    have hs := h3.stored ((l.length - 1) * 2 + 1) (.int .i64 ((l.getLast hne).many + r.many))
    refine ⟨⟨some ⟨g, 0, none⟩, c2, by rw [Ha.out, hlen9]; rfl, ?_⟩, ?_⟩
    · rw [Ha.out, hlen9, flatR_set_last]
      exact ownsRow_mono hs.1 (by omega)
    · exact (hD2.drew).setCell (p := ⟨g, _, none⟩) (by dsimp only; omega) _
  · have e1 : ((l.getLast hne).to == -1) = false := by simp [k1]
    have e3 : decide (0 ≤ (l.getLast hne).to) = true := by simp; omega
    have e4 : (r.to == (l.getLast hne).to + (l.getLast hne).many) = true := by have := Hj.out; simp [joinsB, k1] at this; simpa using this.2
    clear k1
    go_enter Try.func77, Try.ntmps77
    go_wp2_with ((at_builtin; refine wpList_append_copy rfl _ _ rfl rfl l (some ⟨b, o, none⟩) c ((w.heap.size + 1) + 1) ((w.heap.size + 1) + 1) rfl rfl (Hl.out.below ?c0) (by omega) ?c1 ?c2 ?_))
    case c0 => repeat (first | exact Below.refl _ _ | refine below_alloc ?_ _)
    case c1 => (have h9 := World.ownsRow_made (base := w.heap.size + 1 + 1) (e := 52) (size := 2) ((w.alloc (.cells #[.int .i64 r.to, .int .i64 r.many] 52)).alloc (.cells #[.int .i64 (l.getLast hne).to, .int .i64 (l.getLast hne).many] 52)) #[] 0 (by simp) (by simp [maxLen]) (by simp); simpa using h9)
    case c2 => simp
    intro A2 c2 w2 hown hg
    obtain ⟨g, rfl⟩ : ∃ g, A2 = some ⟨g, 0, none⟩ := by
      rcases hown.2 with ⟨h, h'⟩ | ⟨g, cap, cur, h, _⟩
      · omega
      · cases h; exact ⟨g, rfl⟩
    have hgb : w.heap.size + 1 + 1 ≤ g := (hown.lt g rfl).1
    have hD2 : Below w.heap.size w w2 := (below_alloc (below_alloc (below_alloc (Below.refl _ w) (.cells #[.int .i64 r.to, .int .i64 r.many] 52)) (.cells #[.int .i64 (l.getLast hne).to, .int .i64 (l.getLast hne).many] 52)) (.cells #[] 52)).grown hg (by simp; omega) (fun k e => by cases e; omega)
    have hbb : w2.heap[w.heap.size]? = some (.cells #[.int .i64 r.to, .int .i64 r.many] 52 (0, 0)) := (hg.block _ (by simp; omega) (by simp; omega)).trans (heap_alloc_old' (heap_alloc_old' (World.alloc_heap_new w (.cells #[.int .i64 r.to, .int .i64 r.many] 52)) (.cells #[.int .i64 (l.getLast hne).to, .int .i64 (l.getLast hne).many] 52)) (.cells #[] 52))
    have hbx0 := cell_at hbb 0; have hbx1 := cell_at hbb 1
    simp only [List.getElem?_toArray, List.getElem?_cons_zero, List.getElem?_cons_succ] at hbx0 hbx1
    have hl0 : w2.cell? ⟨g, (l.length - 1) * 2, none⟩ = some (.int .i64 (l.getLast hne).to) := by
      rw [hown.cellAt _ (by omega), List.getLast_eq_getElem]; exact (flatR_get l _ (by omega)).1
    have hl1 : w2.cell? ⟨g, (l.length - 1) * 2 + 1, none⟩ = some (.int .i64 (l.getLast hne).many) := by
      rw [hown.cellAt _ (by omega), List.getLast_eq_getElem]; exact (flatR_get l _ (by omega)).2
    have hgf := hown.frozenAt ((l.length - 1) * 2 + 1)
    have Hown := Lib.hid hown
    clear hown hg hbb
    go_wp2_with fail
    go_region
    go_wp2_with fail
    go_ret
    have hlen9 : (l.dropLast ++ [(⟨(l.getLast hne).to, (l.getLast hne).many + r.many⟩ : Run)]).length = l.length := by simp; omega
    have h3 := ownsRow_below Hown.out ((Below.refl w2.heap.size w2).drew)
    have hs := h3.stored ((l.length - 1) * 2 + 1) (.int .i64 ((l.getLast hne).many + r.many))
    refine ⟨⟨some ⟨g, 0, none⟩, c2, by rw [Ha.out, hlen9]; rfl, ?_⟩, ?_⟩
    · rw [Ha.out, hlen9, flatR_set_last]
      exact ownsRow_mono hs.1 (by omega)
    · exact (hD2.drew).setCell (p := ⟨g, _, none⟩) (by dsimp only; omega) _

theorem refAdd_any (l : List Run) (A : Option Addr) (c : Nat) (r : Run) (w : World) (hl : RunsC w A l) (hlen : l.length ≤ 1048576) (hr : r.many ≠ 0) (hr0 : FairR r) (hf : ∀ x ∈ l, FairR x) :
    Calls Try.prog 77 #[.slice A l.length c, .agg #[.int .i64 r.to, .int .i64 r.many]] w (RetRuns w (addN l r)) := by
  by_cases hne : l = []
  · exact refAdd_nil l A c r w hne hr
  · by_cases hj : joinsB (l.getLast hne) r = true
    · exact refAdd_join l A c r w hl hlen hr hr0 hne (hf _ (List.getLast_mem hne)) hj
    · exact refAdd_app l A c r w hl hlen hr hr0 hne (hf _ (List.getLast_mem hne)) (by simpa using hj)

theorem retRuns_c {w w' : World} {q : List Run} {e : Ending} (h : RetRuns w q e w') : (∃ A c, e = .returned (.slice A q.length c) ∧ RunsC w' A q) ∧ Below w.heap.size w w' := by
  obtain ⟨⟨A, c, rfl, hown⟩, hB⟩ := h
  exact ⟨⟨A, c, rfl, (RunsT.of_owns hown).c⟩, hB⟩

set_option maxRecDepth 100000 in
set_option maxHeartbeats 1000000 in
theorem refNorm_any (l : List Run) (A : Option Addr) (c : Nat) (w : World) (hl : RunsC w A l) (hf : FairIn l) (hm : ∀ r ∈ l, r.many ≠ 0) :
    Calls Try.prog 76 #[.slice A l.length c] w fun e w' => (∃ A' c', e = .returned (.slice A' (normL l).length c') ∧ RunsC w' A' (normL l)) ∧ Below w.heap.size w w' := by
  have hlen : l.length ≤ 1048000 := hf.2.2
  have Hf := Lib.hid hf; clear hf
  have Hm := Lib.hid hm; clear hm
  go_enter Try.func76, Try.ntmps76
  go_wp2_with fail
  go_loopw [3, 4] (fun o i wr => ∃ k : Nat, k ≤ l.length ∧ i = .int .i64 k ∧ (∃ A' n c', o = .slice A' n c' ∧ Hid (n = (normL (l.take k)).length ∧ RunsC wr A' (normL (l.take k)))) ∧ Below w.heap.size w wr) (fun _ i _ => l.length - (intOf i).toNat)
  case atStart => exact ⟨0, by omega, by simp, ⟨none, 0, 0, rfl, Lib.hid ⟨rfl, fun k hk => absurd hk (by simp [normL])⟩⟩, Below.refl _ _⟩
  case round =>
    obtain ⟨k, hk, rfl, ⟨A', n, c', rfl, HO⟩, hB⟩ := hrel
    by_cases hlt : k < l.length
    · obtain ⟨b', o', rfl, h0, h1⟩ := (hl.below hB) k hlt
      have hnn := HO.out.1
      go_wp2_with fail
      rw [hnn]
      have hfn := (Hf.out.pfx (List.take_prefix k l)).norm
      have hfk := Hf.out.1 _ (List.getElem_mem hlt)
      refine (refAdd_any (normL (l.take k)) A' c' l[k] wr HO.out.2 hfn.2.2 (Hm.out _ (List.getElem_mem hlt)) ⟨hfk.1, by omega, hfk.2.2.1, by omega⟩ (fun x hx => ⟨(hfn.1 x hx).1, (hfn.1 x hx).2.1, (hfn.many hx).1, (hfn.many hx).2⟩)).mono ?_
      rintro e w2 hres
      obtain ⟨⟨A2, c2, rfl, hr2⟩, hB2⟩ := retRuns_c hres
      rw [← normL_snoc, ← take_succ_snoc hlt] at hr2 ⊢
      have Hr2 := Lib.hid hr2
      clear hr2 hfn hfk hnn hres
      go_wp2_with fail
      refine ⟨⟨k + 1, by omega, by simp, ⟨A2, _, c2, rfl, Lib.hid ⟨rfl, Hr2.out⟩⟩, below_then hB hB2⟩, by simp [intOf]; omega⟩
    · obtain rfl : k = l.length := by omega
      go_wp2_with fail
      go_ret
      have h2 := HO.out
      rw [List.take_length] at h2
      exact ⟨⟨A', c', by rw [h2.1]; rfl, h2.2⟩, hB⟩
end Go.Proofs.Yteipclnlfanfeaa
