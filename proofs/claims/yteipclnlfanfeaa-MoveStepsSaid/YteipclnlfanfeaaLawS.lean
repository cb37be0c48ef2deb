/- MoveSteps: the walk, given owners. -/
import Derived.Test.YteipclnlfanfeaaRefI
import Derived.Test.YteipclnlfanfeaaLawT
set_option linter.unusedVariables false
set_option linter.unusedSimpArgs false
namespace Go.Proofs.Yteipclnlfanfeaa
open Go.RowKit

/-- the law's own box, and what lay there before -/
structure StB (w : World) (v1 v2 : Value) (p : Pic) (W : World) : Prop where
  bp : W.heap[w.heap.size]? = some (.cells #[.int .i64 p.size, v1, v2] 25 (0, 0))
  below : Below w.heap.size w W
section
variable {w : World} {v1 v2 : Value} {p : Pic} {W W' : World}
theorem StB.next (h : StB w v1 v2 p W) (hB : Below W.heap.size W W') : StB w v1 v2 p W' := ⟨block_below h.bp hB, below_then h.below hB⟩
theorem StB.set3 (h : StB w v1 v2 p W) {n : Nat} (hn : w.heap.size < n) (x y z : Value) : StB w v1 v2 p (((W.setCell ⟨n, 0, none⟩ x).setCell ⟨n, 1, none⟩ y).setCell ⟨n, 2, none⟩ z) :=
  ⟨other_set' (other_set' (other_set' h.bp (by omega)) (by omega)) (by omega), ((h.below.setCell (p := ⟨n, 0, none⟩) (by dsimp only; omega) _).setCell (p := ⟨n, 1, none⟩) (by dsimp only; omega) _).setCell (p := ⟨n, 2, none⟩) (by dsimp only; omega) _⟩
theorem StB.c0 (h : StB w v1 v2 p W) : W.cell? ⟨w.heap.size, 0, none⟩ = some (.int .i64 p.size) := by simpa using cell_at h.bp 0
theorem StB.c1 (h : StB w v1 v2 p W) : W.cell? ⟨w.heap.size, 1, none⟩ = some v1 := by simpa using cell_at h.bp 1
theorem StB.c2 (h : StB w v1 v2 p W) : W.cell? ⟨w.heap.size, 2, none⟩ = some v2 := by simpa using cell_at h.bp 2
end
/-- a box with a picture that stays while boxes turn -/
structure NBox (n0 nb : Nat) (v0 v1 v2 : Value) (p : Pic) (W : World) : Prop where
  box : W.heap[nb]? = some (.cells #[v0, v1, v2] 25 (0, 0))
  pic : PicN n0 W (.agg #[v0, v1, v2]) p
section
variable {n0 nb : Nat} {v0 v1 v2 : Value} {p : Pic} {W W' : World}
theorem NBox.next (h : NBox n0 nb v0 v1 v2 p W) (hn : n0 ≤ W.heap.size) (hB : Below W.heap.size W W') : NBox n0 nb v0 v1 v2 p W' := ⟨block_below h.box hB, h.pic.kept (KeepN.of_below hn hB)⟩
theorem NBox.other (h : NBox n0 nb v0 v1 v2 p W) {n : Nat} (hne : nb ≠ n) (x y z : Value) (hk : KeepN n0 W (((W.setCell ⟨n, 0, none⟩ x).setCell ⟨n, 1, none⟩ y).setCell ⟨n, 2, none⟩ z)) : NBox n0 nb v0 v1 v2 p (((W.setCell ⟨n, 0, none⟩ x).setCell ⟨n, 1, none⟩ y).setCell ⟨n, 2, none⟩ z) :=
  ⟨other_set' (other_set' (other_set' h.box hne) hne) hne, h.pic.kept hk⟩
theorem NBox.c0 (h : NBox n0 nb v0 v1 v2 p W) : W.cell? ⟨nb, 0, none⟩ = some v0 := by simpa using cell_at h.box 0
theorem NBox.c1 (h : NBox n0 nb v0 v1 v2 p W) : W.cell? ⟨nb, 1, none⟩ = some v1 := by simpa using cell_at h.box 1
theorem NBox.c2 (h : NBox n0 nb v0 v1 v2 p W) : W.cell? ⟨nb, 2, none⟩ = some v2 := by simpa using cell_at h.box 2
end
theorem ExtN.of_t {n0 : Nat} {w : World} {A : Option Addr} {l : List Ext} (h : ExtT w A l) : ExtN n0 w A l := by
  refine ⟨h.c, fun a hl ha => ?_⟩
  rcases h with h | ⟨b, cs, hA, hb, _⟩
  · exact absurd h hl
  · rw [ha] at hA; cases hA
    exact .inr ⟨_, _, _, hb, by decide⟩
theorem PicN.of_d {n0 : Nat} {w : World} {v : Value} {p : Pic} (h : PicD w v p) : PicN n0 w v p := by
  obtain ⟨Ax, cx, Fa, cf, F, h0, h1, h2⟩ := h
  refine ⟨Ax, cx, Fa, cf, h0, .of_t h1, fun k hk => ?_⟩
  have h3 := h2.c k hk
  rcases h2 with h2 | h2
  · simp [h2] at hk
  · obtain ⟨hA, vs, hb, hc⟩ := h2
    obtain ⟨g1, A', c', g2, g3⟩ := hc k hk
    exact ⟨F, 0, A', c', hA, by rw [Nat.zero_add, cell_at hb, g1], by rw [Nat.zero_add, cell_at hb, g2], .of_t g3, .inr ⟨_, _, _, hb, by decide⟩⟩
theorem inv_applyAll {l : List Step} : ∀ {s s' : Spc}, Inv s → applyAll s l = .ok s' → Inv s' := by
  induction l with
  | nil => intro s s' hi h; simp [applyAll] at h; subst h; exact hi
  | cons x l ih =>
    intro s s' hi h
    simp only [applyAll] at h
    split at h
    · rename_i s1 h1; exact ih (inv_applyL hi h1) h
    · cases h
theorem run_ok {p : Pic} (l : List Step) : PicOk (runP p l).1 := by
  have hz : PicOk picZ := ⟨by decide, by decide, fun f hf => by simp [picZ] at hf⟩
  unfold runP
  cases ho : openL p with
  | none => exact hz
  | some s =>
    dsimp only
    split
    · cases ha : applyAll s l with
      | ok s' => exact (inv_applyAll (inv_open ho).1 ha).picOk
      | error e => exact hz
    · exact hz

section
attribute [local go_sem] undef
set_option maxRecDepth 100000 in
set_option maxHeartbeats 16000000 in
theorem steps_of (H : OwnWalk) (p : Pic) (l : List Step) (v : Value) (A : Option Addr) (c : Nat) (w : World) (hp : PicC w v p) (hl : StepC w A l) :
    Calls Try.prog 3 #[v, .slice A l.length c] w fun e w' => e = .returned (.bool true) ∧ Below w.heap.size w w' := by
  have hmx : Try.prog.follows .mixedOrders = true := by kernel_rfl
  have hp' := hp
  obtain ⟨Ax, cx, Fa, cf, rfl, -, -⟩ := hp'
  have hS : StB w (.slice Ax p.fixed.length cx) (.slice Fa p.files.length cf) p (w.alloc (.cells #[.int .i64 p.size, .slice Ax p.fixed.length cx, .slice Fa p.files.length cf] 25)) := ⟨World.alloc_heap_new w _, below_alloc (Below.refl _ _) _⟩
  have HS0 := Lib.hid hS
  have HH := Lib.hid H
  have Hp := Lib.hid hp
  have Hl := Lib.hid hl
  clear hS H hp hl
  go_enter Try.func3, Try.ntmps3
  go_upto_region 1 with (fail)
  go_cut [26] from 9 to 26 (fun q wx => ∃ bb : Bool, q = .bool bb ∧ Hid (bb = false → PicOk p ∧ l.length ≤ 5005) ∧ Below (w.alloc (.cells #[.int .i64 p.size, .slice Ax p.fixed.length cx, .slice Fa p.files.length cf] 25)).heap.size (w.alloc (.cells #[.int .i64 p.size, .slice Ax p.fixed.length cx, .slice Fa p.files.length cf] 25)) wx)
  case first =>
    go_wp2_with fail
    refine (few_any p _ _ (Hp.out.below HS0.out.below)).mono ?_
    rintro e w1 ⟨rfl, hB1⟩
    cases hfew : fewB p with
    | false =>
      go_wp2_with fail
      go_meet
      exact ⟨true, rfl, Lib.hid (fun h => by cases h), hB1⟩
    | true =>
    have Hok := Lib.hid (few_ok hfew)
    clear hfew
    by_cases g1 : 40 < l.length
    · have d1 : decide ((40 : Int) < (l.length : Int)) = true := by simp; omega
      by_cases g2 : l.length ≤ 5000
      · have d2 : decide ((l.length : Int) ≤ 5000) = true := by simp; omega
        go_wp2_with fail
        go_meet
        exact ⟨true, rfl, Lib.hid (fun h => by cases h), hB1⟩
      have d2 : decide ((l.length : Int) ≤ 5000) = false := by simp; omega
      by_cases g3 : 5005 < l.length
      · have d3 : decide ((5005 : Int) < (l.length : Int)) = true := by simp; omega
        go_wp2_with fail
        go_meet
        exact ⟨true, rfl, Lib.hid (fun h => by cases h), hB1⟩
      have d3 : decide ((5005 : Int) < (l.length : Int)) = false := by simp; omega
      go_wp2_with fail
      go_meet
      exact ⟨false, rfl, Lib.hid (fun _ => ⟨Hok.out, by omega⟩), hB1⟩
    · have d1 : decide ((40 : Int) < (l.length : Int)) = false := by simp; omega
      have d3 : decide ((5005 : Int) < (l.length : Int)) = false := by simp; omega
      go_wp2_with fail
      go_meet
      exact ⟨false, rfl, Lib.hid (fun _ => ⟨Hok.out, by omega⟩), hB1⟩
  case rest =>
  obtain ⟨bb, rfl, Hbb, hB1⟩ := hcut
  obtain ⟨w1, rfl⟩ : ∃ w1 : World, w1 = wc := ⟨_, rfl⟩
  have HS1 := Lib.hid (HS0.out.next hB1)
  clear HS0 hB1
  cases bb with
  | true =>
    have hBw1 := HS1.out.below
    go_wp2_with fail
    refine (sanity_any _).mono ?_
    rintro e wz ⟨rfl, hBz⟩
    go_wp2_with fail
    go_ret
    exact ⟨rfl, below_then hBw1 hBz⟩
  | false =>
  have Hok := Lib.hid (Hbb.out rfl).1
  have hln : l.length ≤ 1099511627776 := by have := (Hbb.out rfl).2; omega
  clear Hbb
  have p0 := HS1.out.c0; have p1 := HS1.out.c1; have p2 := HS1.out.c2
  go_wp2_with fail
  refine (run_pic p l _ A c _ (Hp.out.below HS1.out.below) Hok.out (Hl.out.below HS1.out.below) hln).mono ?_
  rintro e w2 ⟨⟨u, rfl, hu⟩, hB2⟩
  have hu' := hu
  obtain ⟨A1, c1, F1, d1, Fz, rfl, -, -⟩ := hu'
  obtain ⟨⟨q, er⟩, hq⟩ : ∃ qe, runP p l = qe := ⟨_, rfl⟩
  have hqo := run_ok (p := p) l
  rw [hq] at hu hqo ⊢
  have Hq := Lib.hid hq
  have Hqo := Lib.hid hqo
  clear hq hqo
  dsimp only at hu ⊢
  have hB2' := below_then hB2 (below_alloc (Below.refl _ w2) (.cells #[.int .i64 q.size, .slice A1 q.fixed.length c1, .slice F1 q.files.length d1] 25))
  have HS2 := Lib.hid (HS1.out.next hB2')
  have HA2 : Hid (NBox w.heap.size w2.heap.size (.int .i64 q.size) (.slice A1 q.fixed.length c1) (.slice F1 q.files.length d1) q (w2.alloc (.cells #[.int .i64 q.size, .slice A1 q.fixed.length c1, .slice F1 q.files.length d1] 25))) := Lib.hid ⟨World.alloc_heap_new _ _, (PicN.of_d hu).kept (KeepN.of_below (Nat.le_trans HS1.out.below.size hB2.size) (below_alloc (Below.refl _ _) _))⟩
  have hnaw : w.heap.size < w2.heap.size := Nat.lt_of_lt_of_le (lt_of_block HS1.out.bp) hB2.size
  have hp1' := cell_below p1 hB2'
  clear p0 p1 p2 hu hB2 hB2' hp1'
  have p0 := HS2.out.c0; have p1 := HS2.out.c1; have p2 := HS2.out.c2
  go_wp2_with fail
  obtain ⟨na, hna⟩ : ∃ na, w2.heap.size = na := ⟨_, rfl⟩
  obtain ⟨w3, hw3⟩ : ∃ w3, w2.alloc (.cells #[.int .i64 q.size, .slice A1 q.fixed.length c1, .slice F1 q.files.length d1] 25) = w3 := ⟨_, rfl⟩
  rw [hna, hw3] at HA2
  rw [hw3] at HS2 ⊢
  rw [hna] at hnaw ⊢
  clear HS1 p0 p1 p2 hw3 hna
  refine (refRun_of HH.out p l _ A c _ (Hp.out.below HS2.out.below) Hok.out (Hl.out.below HS2.out.below) hln).mono ?_
  rintro e w4 ⟨⟨u, rfl, hu⟩, hB4⟩
  rw [Hq.out] at hu ⊢
  have hu' := hu
  obtain ⟨A2, c2, F2, d2, rfl, -, -⟩ := hu'
  dsimp only at hu ⊢
  have hB4' := below_then hB4 (below_alloc (Below.refl _ w4) (.cells #[.int .i64 q.size, .slice A2 q.fixed.length c2, .slice F2 q.files.length d2] 25))
  have HS4 := Lib.hid (HS2.out.next hB4')
  have HA4 := Lib.hid (HA2.out.next HS2.out.below.size hB4')
  have hnab : na < w4.heap.size := Nat.lt_of_lt_of_le (lt_of_block HA2.out.box) hB4.size
  have HBt := Lib.hid (TBox.new hu)
  clear hu hB4 hB4' HS2 HA2
  have p0 := HS4.out.c0; have p1 := HS4.out.c1; have p2 := HS4.out.c2
  have a0 := HA4.out.c0; have a1 := HA4.out.c1; have a2 := HA4.out.c2
  go_wp2_with fail
  obtain ⟨nb, hnb⟩ : ∃ nb, w4.heap.size = nb := ⟨_, rfl⟩
  obtain ⟨w5, hw5⟩ : ∃ w5, w4.alloc (.cells #[.int .i64 q.size, .slice A2 q.fixed.length c2, .slice F2 q.files.length d2] 25) = w5 := ⟨_, rfl⟩
  rw [hw5] at HS4 HA4 ⊢
  rw [hw5, hnb] at HBt
  rw [hnb] at hnab ⊢
  clear hw5 hnb p0 p1 p2 a0 a1 a2
  have hself : decide (q = q) = true := by simp
  refine (refSame_pic q q _ _ _ HA4.out.pic.c HBt.out.pic Hqo.out).mono ?_
  rintro e w6 ⟨rfl, hB6⟩
  rw [hself]
  clear hself
  have HS6 := Lib.hid (HS4.out.next hB6)
  have HA6 := Lib.hid (HA4.out.next HS4.out.below.size hB6)
  have HB6 := Lib.hid (block_below HBt.out.box hB6)
  clear HS4 HA4 HBt hB6
  have dee : (er != er) = false := by simp
  by_cases hl0 : l.length = 0
  · have d0 : ((l.length : Int) == 0) = true := by rw [hl0]; rfl
    clear hl0
    have hBw1 := HS6.out.below
    go_wp2_with fail
    refine (sanity_any _).mono ?_
    rintro e wz ⟨rfl, hBz⟩
    go_wp2_with fail
    go_ret
    exact ⟨rfl, below_then hBw1 hBz⟩
  have d0 : ((l.length : Int) == 0) = false := beq_eq_false_iff_ne.2 (by omega)
  obtain ⟨b, o, rfl, h0, h1, h2, h3⟩ := Hl.out 0 (by omega)
  simp only [Nat.zero_mul, Nat.add_zero] at h0 h1 h2 h3
  have hl0' : 0 < l.length := by omega
  obtain ⟨x, hx⟩ : ∃ x, l[0] = x := ⟨_, rfl⟩
  rw [hx] at h0 h1 h2 h3
  clear hx hl0
  have hCof : ∀ W' : World, Below w.heap.size w W' → ∀ (hb : W'.heap[w.heap.size]? = some (.cells #[.int .i64 p.size, .slice Ax p.fixed.length cx, .slice Fa p.files.length cf] 25 (0, 0))), (fun W' : World => W'.cell? ⟨w.heap.size, 0, none⟩ = some (.int .i64 p.size) ∧ W'.cell? ⟨w.heap.size, 1, none⟩ = some (.slice Ax p.fixed.length cx) ∧ W'.cell? ⟨w.heap.size, 2, none⟩ = some (.slice Fa p.files.length cf) ∧ W'.cell? ⟨b, o, none⟩ = some (.int .i64 x.no) ∧ W'.cell? ⟨b, o + 1, none⟩ = some (.int .i64 x.from_) ∧ W'.cell? ⟨b, o + 2, none⟩ = some (.int .i64 x.to) ∧ W'.cell? ⟨b, o + 3, none⟩ = some (.int .i64 x.many)) W' := fun W' h hb => ⟨by simpa using cell_at hb 0, by simpa using cell_at hb 1, by simpa using cell_at hb 2, cell_below h0 h, cell_below h1 h, cell_below h2 h, cell_below h3 h⟩
  have HCof := Lib.hid hCof
  obtain ⟨⟨q1, e1⟩, hq1⟩ : ∃ qe, runP p [x] = qe := ⟨_, rfl⟩
  have hqo1 := run_ok (p := p) [x]
  rw [hq1] at hqo1
  have Hq1 := Lib.hid hq1
  have Hqo1 := Lib.hid hqo1
  clear hq1 hqo1 hCof h0 h1 h2 h3
  go_wp2_with fail
  have hCW : (fun W' : World => W'.cell? ⟨w.heap.size, 0, none⟩ = some (.int .i64 p.size) ∧ W'.cell? ⟨w.heap.size, 1, none⟩ = some (.slice Ax p.fixed.length cx) ∧ W'.cell? ⟨w.heap.size, 2, none⟩ = some (.slice Fa p.files.length cf) ∧ W'.cell? ⟨b, o, none⟩ = some (.int .i64 x.no) ∧ W'.cell? ⟨b, o + 1, none⟩ = some (.int .i64 x.from_) ∧ W'.cell? ⟨b, o + 2, none⟩ = some (.int .i64 x.to) ∧ W'.cell? ⟨b, o + 3, none⟩ = some (.int .i64 x.many)) w6.drew := HCof.out _ (HS6.out.below.drew) HS6.out.bp
  refine wp_region_anyN (C := (fun W' : World => W'.cell? ⟨w.heap.size, 0, none⟩ = some (.int .i64 p.size) ∧ W'.cell? ⟨w.heap.size, 1, none⟩ = some (.slice Ax p.fixed.length cx) ∧ W'.cell? ⟨w.heap.size, 2, none⟩ = some (.slice Fa p.files.length cf) ∧ W'.cell? ⟨b, o, none⟩ = some (.int .i64 x.no) ∧ W'.cell? ⟨b, o + 1, none⟩ = some (.int .i64 x.from_) ∧ W'.cell? ⟨b, o + 2, none⟩ = some (.int .i64 x.to) ∧ W'.cell? ⟨b, o + 3, none⟩ = some (.int .i64 x.many))) 10 (by kernel_rfl) hmx ?_
  refine anyC_take (i := 0) ?v0A rfl rfl (by kernel_rfl) (by kernel_rfl) (by kernel_rfl) (fun _ _ _ h => h) hCW ⟨.inl ⟨by kernel_rfl, fun W' hW' => ?y0A⟩, fun _ => rfl⟩ ?_
  case y0A => (obtain ⟨p0, p1, p2, h0, h1, h2, h3⟩ := hW'; go_simp; rfl)
  simp only [Act.put, List.setIfInBounds_toArray, List.set_cons_succ, List.set_cons_zero]
  refine anyC_take (i := 1) ?v1A rfl rfl (by kernel_rfl) (by kernel_rfl) (by kernel_rfl) (fun _ _ _ h => h) hCW ⟨.inl ⟨by kernel_rfl, fun W' hW' => ?y1A⟩, fun _ => rfl⟩ ?_
  case y1A => (obtain ⟨p0, p1, p2, h0, h1, h2, h3⟩ := hW'; go_simp; rfl)
  simp only [Act.put, List.setIfInBounds_toArray, List.set_cons_succ, List.set_cons_zero]
  refine anyC_take (i := 2) ?v2A rfl rfl (by kernel_rfl) (by kernel_rfl) (by kernel_rfl) (fun _ _ _ h => h) hCW ⟨.inl ⟨by kernel_rfl, fun W' hW' => ?y2A⟩, fun _ => rfl⟩ ?_
  case y2A => (obtain ⟨p0, p1, p2, h0, h1, h2, h3⟩ := hW'; go_simp; rfl)
  simp only [Act.put, List.setIfInBounds_toArray, List.set_cons_succ, List.set_cons_zero]
  refine anyC_take (i := 3) ?v3A rfl rfl (by kernel_rfl) (by kernel_rfl) (by kernel_rfl) (fun _ _ _ h => h) hCW ⟨.inl ⟨by kernel_rfl, fun W' hW' => ?y3A⟩, fun _ => rfl⟩ ?_
  case y3A => (obtain ⟨p0, p1, p2, h0, h1, h2, h3⟩ := hW'; go_simp; rfl)
  simp only [Act.put, List.setIfInBounds_toArray, List.set_cons_succ, List.set_cons_zero]
  refine anyC_only (i := 4) (by kernel_rfl) (wpOpIn_step rfl (fun K' hK' => ?_))
  go_simp
  refine ⟨trivial, rfl, (callsIn_wide.2 (apply_pic p x _ _ (Hp.out.below HS6.out.below.drew) Hok.out)).mono ?_⟩
  rintro e XA ⟨⟨u, rfl, hu⟩, hxA⟩
  have hWXA : Below w6.heap.size w6 XA := ((Below.refl _ _).drew).trans hxA
  have hBXA : Below w.heap.size w XA := below_then HS6.out.below hWXA
  have hCXA : (fun W' : World => W'.cell? ⟨w.heap.size, 0, none⟩ = some (.int .i64 p.size) ∧ W'.cell? ⟨w.heap.size, 1, none⟩ = some (.slice Ax p.fixed.length cx) ∧ W'.cell? ⟨w.heap.size, 2, none⟩ = some (.slice Fa p.files.length cf) ∧ W'.cell? ⟨b, o, none⟩ = some (.int .i64 x.no) ∧ W'.cell? ⟨b, o + 1, none⟩ = some (.int .i64 x.from_) ∧ W'.cell? ⟨b, o + 2, none⟩ = some (.int .i64 x.to) ∧ W'.cell? ⟨b, o + 3, none⟩ = some (.int .i64 x.many)) XA := HCof.out _ hBXA (block_below HS6.out.bp hWXA)
  rw [Hq1.out] at hu ⊢
  have hu' := hu
  obtain ⟨A1A, c1A, F1A, d1A, F9, rfl, -, -⟩ := hu'
  refine hK' _ _ ⟨hCXA, ?_⟩
  clear hK' K'
  refine anyC_take (i := 5) ?v5A rfl rfl (by kernel_rfl) (by kernel_rfl) (by kernel_rfl) (fun _ _ _ h => h) hCXA ⟨.inl ⟨by kernel_rfl, fun W' hW' => ?y5A⟩, fun _ => rfl⟩ ?_
  case y5A => (skip; go_simp; rfl)
  simp only [Act.put, List.setIfInBounds_toArray, List.set_cons_succ, List.set_cons_zero]
  refine anyC_take (i := 6) ?v6A rfl rfl (by kernel_rfl) (by kernel_rfl) (by kernel_rfl) (fun _ _ _ h => h) hCXA ⟨.inl ⟨by kernel_rfl, fun W' hW' => ?y6A⟩, fun _ => rfl⟩ ?_
  case y6A => (skip; go_simp; rfl)
  simp only [Act.put, List.setIfInBounds_toArray, List.set_cons_succ, List.set_cons_zero]
  refine anyC_take (i := 7) ?v7A rfl rfl (by kernel_rfl) (by kernel_rfl) (by kernel_rfl) (fun _ _ _ h => h) hCXA ⟨.inl ⟨by kernel_rfl, fun W' hW' => ?y7A⟩, fun _ => rfl⟩ ?_
  case y7A => (skip; go_simp; rfl)
  simp only [Act.put, List.setIfInBounds_toArray, List.set_cons_succ, List.set_cons_zero]
  have hbbA := block_below HA6.out.box hWXA
  have z0 := free_at hbbA 0; have z1 := free_at hbbA 1; have z2 := free_at hbbA 2
  have y0 := cell_at hbbA 0; have y1 := cell_at hbbA 1; have y2 := cell_at hbbA 2
  simp only [List.getElem?_toArray, List.getElem?_cons_zero, List.getElem?_cons_succ] at y0 y1 y2
  have hHSA := (HS6.out.next hWXA).set3 (n := na) (by omega) (.int .i64 q1.size) (.slice A1A q1.fixed.length c1A) (.slice F1A q1.files.length d1A)
  have HSA := Lib.hid hHSA
  have hknA := keepN_three (n0 := w.heap.size) hbbA (by omega) (.int .i64 q1.size) (.slice A1A q1.fixed.length c1A) (.slice F1A q1.files.length d1A)
  have hboxA := cells3z hbbA (.int .i64 q1.size) (.slice A1A q1.fixed.length c1A) (.slice F1A q1.files.length d1A)
  have HAA : Hid (NBox w.heap.size na (.int .i64 q1.size) (.slice A1A q1.fixed.length c1A) (.slice F1A q1.files.length d1A) q1 (((XA.setCell ⟨na, 0, none⟩ (.int .i64 q1.size)).setCell ⟨na, 1, none⟩ (.slice A1A q1.fixed.length c1A)).setCell ⟨na, 2, none⟩ (.slice F1A q1.files.length d1A))) := Lib.hid ⟨hboxA, (PicN.of_d hu).kept hknA⟩
  have HBA : Hid ((World.heap (((XA.setCell ⟨na, 0, none⟩ (.int .i64 q1.size)).setCell ⟨na, 1, none⟩ (.slice A1A q1.fixed.length c1A)).setCell ⟨na, 2, none⟩ (.slice F1A q1.files.length d1A)))[nb]? = some (.cells #[.int .i64 q.size, .slice A2 q.fixed.length c2, .slice F2 q.files.length d2] 25 (0, 0))) := Lib.hid (other_set' (other_set' (other_set' (block_below HB6.out hWXA) (by omega)) (by omega)) (by omega))
  refine anyC_only (i := 8) (by kernel_rfl) (wpOpIn_step rfl (fun K' hK' => ?_))
  go_simp
  have hCSA : (fun W' : World => W'.cell? ⟨w.heap.size, 0, none⟩ = some (.int .i64 p.size) ∧ W'.cell? ⟨w.heap.size, 1, none⟩ = some (.slice Ax p.fixed.length cx) ∧ W'.cell? ⟨w.heap.size, 2, none⟩ = some (.slice Fa p.files.length cf) ∧ W'.cell? ⟨b, o, none⟩ = some (.int .i64 x.no) ∧ W'.cell? ⟨b, o + 1, none⟩ = some (.int .i64 x.from_) ∧ W'.cell? ⟨b, o + 2, none⟩ = some (.int .i64 x.to) ∧ W'.cell? ⟨b, o + 3, none⟩ = some (.int .i64 x.many)) (((XA.setCell ⟨na, 0, none⟩ (.int .i64 q1.size)).setCell ⟨na, 1, none⟩ (.slice A1A q1.fixed.length c1A)).setCell ⟨na, 2, none⟩ (.slice F1A q1.files.length d1A)) := HCof.out _ HSA.out.below HSA.out.bp
  refine hK' _ _ ⟨hCSA, ?_⟩
  clear hK' K' z0 z1 z2 y0 y1 y2 hu hknA hboxA hHSA hbbA hCXA
  refine anyC_take (i := 9) ?v9A rfl rfl (by kernel_rfl) (by kernel_rfl) (by kernel_rfl) (fun _ _ _ h => h) hCSA ⟨.inl ⟨by kernel_rfl, fun W' hW' => ?y9A⟩, fun _ => rfl⟩ ?_
  case y9A => (skip; go_simp; rfl)
  simp only [Act.put, List.setIfInBounds_toArray, List.set_cons_succ, List.set_cons_zero]
  refine anyC_done (by kernel_rfl) ?_
  obtain ⟨VA, hVA⟩ : ∃ VA, (((XA.setCell ⟨na, 0, none⟩ (.int .i64 q1.size)).setCell ⟨na, 1, none⟩ (.slice A1A q1.fixed.length c1A)).setCell ⟨na, 2, none⟩ (.slice F1A q1.files.length d1A)) = VA := ⟨_, rfl⟩
  rw [hVA] at HSA HAA HBA ⊢
  clear hVA hCSA
  go_wp2_with fail
  have hCW : (fun W' : World => W'.cell? ⟨w.heap.size, 0, none⟩ = some (.int .i64 p.size) ∧ W'.cell? ⟨w.heap.size, 1, none⟩ = some (.slice Ax p.fixed.length cx) ∧ W'.cell? ⟨w.heap.size, 2, none⟩ = some (.slice Fa p.files.length cf) ∧ W'.cell? ⟨b, o, none⟩ = some (.int .i64 x.no) ∧ W'.cell? ⟨b, o + 1, none⟩ = some (.int .i64 x.from_) ∧ W'.cell? ⟨b, o + 2, none⟩ = some (.int .i64 x.to) ∧ W'.cell? ⟨b, o + 3, none⟩ = some (.int .i64 x.many)) VA.drew := HCof.out _ (HSA.out.below.drew) HSA.out.bp
  refine wp_region_anyN (C := (fun W' : World => W'.cell? ⟨w.heap.size, 0, none⟩ = some (.int .i64 p.size) ∧ W'.cell? ⟨w.heap.size, 1, none⟩ = some (.slice Ax p.fixed.length cx) ∧ W'.cell? ⟨w.heap.size, 2, none⟩ = some (.slice Fa p.files.length cf) ∧ W'.cell? ⟨b, o, none⟩ = some (.int .i64 x.no) ∧ W'.cell? ⟨b, o + 1, none⟩ = some (.int .i64 x.from_) ∧ W'.cell? ⟨b, o + 2, none⟩ = some (.int .i64 x.to) ∧ W'.cell? ⟨b, o + 3, none⟩ = some (.int .i64 x.many))) 10 (by kernel_rfl) hmx ?_
  refine anyC_take (i := 0) ?v0B rfl rfl (by kernel_rfl) (by kernel_rfl) (by kernel_rfl) (fun _ _ _ h => h) hCW ⟨.inl ⟨by kernel_rfl, fun W' hW' => ?y0B⟩, fun _ => rfl⟩ ?_
  case y0B => (obtain ⟨p0, p1, p2, h0, h1, h2, h3⟩ := hW'; go_simp; rfl)
  simp only [Act.put, List.setIfInBounds_toArray, List.set_cons_succ, List.set_cons_zero]
  refine anyC_take (i := 1) ?v1B rfl rfl (by kernel_rfl) (by kernel_rfl) (by kernel_rfl) (fun _ _ _ h => h) hCW ⟨.inl ⟨by kernel_rfl, fun W' hW' => ?y1B⟩, fun _ => rfl⟩ ?_
  case y1B => (obtain ⟨p0, p1, p2, h0, h1, h2, h3⟩ := hW'; go_simp; rfl)
  simp only [Act.put, List.setIfInBounds_toArray, List.set_cons_succ, List.set_cons_zero]
  refine anyC_take (i := 2) ?v2B rfl rfl (by kernel_rfl) (by kernel_rfl) (by kernel_rfl) (fun _ _ _ h => h) hCW ⟨.inl ⟨by kernel_rfl, fun W' hW' => ?y2B⟩, fun _ => rfl⟩ ?_
  case y2B => (obtain ⟨p0, p1, p2, h0, h1, h2, h3⟩ := hW'; go_simp; rfl)
  simp only [Act.put, List.setIfInBounds_toArray, List.set_cons_succ, List.set_cons_zero]
  refine anyC_take (i := 3) ?v3B rfl rfl (by kernel_rfl) (by kernel_rfl) (by kernel_rfl) (fun _ _ _ h => h) hCW ⟨.inl ⟨by kernel_rfl, fun W' hW' => ?y3B⟩, fun _ => rfl⟩ ?_
  case y3B => (obtain ⟨p0, p1, p2, h0, h1, h2, h3⟩ := hW'; go_simp; rfl)
  simp only [Act.put, List.setIfInBounds_toArray, List.set_cons_succ, List.set_cons_zero]
  refine anyC_only (i := 4) (by kernel_rfl) (wpOpIn_step rfl (fun K' hK' => ?_))
  go_simp
  refine ⟨trivial, rfl, (callsIn_wide.2 (refApply_of HH.out w.heap.size p x.no x.from_ x.to x.many _ _ ((PicN.of_c Hp.out).kept (KeepN.of_below (Nat.le_refl _) HSA.out.below.drew)) (HSA.out.below.drew).size Hok.out)).mono ?_⟩
  rintro e XB ⟨⟨u, rfl, hu⟩, hxB⟩
  have hWXB : Below VA.heap.size VA XB := ((Below.refl _ _).drew).trans hxB
  have hBXB : Below w.heap.size w XB := below_then HSA.out.below hWXB
  have hCXB : (fun W' : World => W'.cell? ⟨w.heap.size, 0, none⟩ = some (.int .i64 p.size) ∧ W'.cell? ⟨w.heap.size, 1, none⟩ = some (.slice Ax p.fixed.length cx) ∧ W'.cell? ⟨w.heap.size, 2, none⟩ = some (.slice Fa p.files.length cf) ∧ W'.cell? ⟨b, o, none⟩ = some (.int .i64 x.no) ∧ W'.cell? ⟨b, o + 1, none⟩ = some (.int .i64 x.from_) ∧ W'.cell? ⟨b, o + 2, none⟩ = some (.int .i64 x.to) ∧ W'.cell? ⟨b, o + 3, none⟩ = some (.int .i64 x.many)) XB := HCof.out _ hBXB (block_below HSA.out.bp hWXB)
  rw [Hq1.out] at hu ⊢
  have hu' := hu
  obtain ⟨A1B, c1B, F1B, d1B, rfl, -, -⟩ := hu'
  refine hK' _ _ ⟨hCXB, ?_⟩
  clear hK' K'
  refine anyC_take (i := 5) ?v5B rfl rfl (by kernel_rfl) (by kernel_rfl) (by kernel_rfl) (fun _ _ _ h => h) hCXB ⟨.inl ⟨by kernel_rfl, fun W' hW' => ?y5B⟩, fun _ => rfl⟩ ?_
  case y5B => (skip; go_simp; rfl)
  simp only [Act.put, List.setIfInBounds_toArray, List.set_cons_succ, List.set_cons_zero]
  refine anyC_take (i := 6) ?v6B rfl rfl (by kernel_rfl) (by kernel_rfl) (by kernel_rfl) (fun _ _ _ h => h) hCXB ⟨.inl ⟨by kernel_rfl, fun W' hW' => ?y6B⟩, fun _ => rfl⟩ ?_
  case y6B => (skip; go_simp; rfl)
  simp only [Act.put, List.setIfInBounds_toArray, List.set_cons_succ, List.set_cons_zero]
  refine anyC_take (i := 7) ?v7B rfl rfl (by kernel_rfl) (by kernel_rfl) (by kernel_rfl) (fun _ _ _ h => h) hCXB ⟨.inl ⟨by kernel_rfl, fun W' hW' => ?y7B⟩, fun _ => rfl⟩ ?_
  case y7B => (skip; go_simp; rfl)
  simp only [Act.put, List.setIfInBounds_toArray, List.set_cons_succ, List.set_cons_zero]
  have hbbB := block_below HBA.out hWXB
  have z0 := free_at hbbB 0; have z1 := free_at hbbB 1; have z2 := free_at hbbB 2
  have y0 := cell_at hbbB 0; have y1 := cell_at hbbB 1; have y2 := cell_at hbbB 2
  simp only [List.getElem?_toArray, List.getElem?_cons_zero, List.getElem?_cons_succ] at y0 y1 y2
  have hHSB := (HSA.out.next hWXB).set3 (n := nb) (by omega) (.int .i64 q1.size) (.slice A1B q1.fixed.length c1B) (.slice F1B q1.files.length d1B)
  have HSB := Lib.hid hHSB
  have hknB := keepN_three (n0 := w.heap.size) hbbB (by omega) (.int .i64 q1.size) (.slice A1B q1.fixed.length c1B) (.slice F1B q1.files.length d1B)
  have hboxB := cells3z hbbB (.int .i64 q1.size) (.slice A1B q1.fixed.length c1B) (.slice F1B q1.files.length d1B)
  have HBB : Hid (NBox w.heap.size nb (.int .i64 q1.size) (.slice A1B q1.fixed.length c1B) (.slice F1B q1.files.length d1B) q1 (((XB.setCell ⟨nb, 0, none⟩ (.int .i64 q1.size)).setCell ⟨nb, 1, none⟩ (.slice A1B q1.fixed.length c1B)).setCell ⟨nb, 2, none⟩ (.slice F1B q1.files.length d1B))) := Lib.hid ⟨hboxB, hu.kept hknB⟩
  have HAB := Lib.hid ((HAA.out.next HSA.out.below.size hWXB).other (by omega) _ _ _ hknB)
  refine anyC_only (i := 8) (by kernel_rfl) (wpOpIn_step rfl (fun K' hK' => ?_))
  go_simp
  have hCSB : (fun W' : World => W'.cell? ⟨w.heap.size, 0, none⟩ = some (.int .i64 p.size) ∧ W'.cell? ⟨w.heap.size, 1, none⟩ = some (.slice Ax p.fixed.length cx) ∧ W'.cell? ⟨w.heap.size, 2, none⟩ = some (.slice Fa p.files.length cf) ∧ W'.cell? ⟨b, o, none⟩ = some (.int .i64 x.no) ∧ W'.cell? ⟨b, o + 1, none⟩ = some (.int .i64 x.from_) ∧ W'.cell? ⟨b, o + 2, none⟩ = some (.int .i64 x.to) ∧ W'.cell? ⟨b, o + 3, none⟩ = some (.int .i64 x.many)) (((XB.setCell ⟨nb, 0, none⟩ (.int .i64 q1.size)).setCell ⟨nb, 1, none⟩ (.slice A1B q1.fixed.length c1B)).setCell ⟨nb, 2, none⟩ (.slice F1B q1.files.length d1B)) := HCof.out _ HSB.out.below HSB.out.bp
  refine hK' _ _ ⟨hCSB, ?_⟩
  clear hK' K' z0 z1 z2 y0 y1 y2 hu hknB hboxB hHSB hbbB hCXB
  refine anyC_take (i := 9) ?v9B rfl rfl (by kernel_rfl) (by kernel_rfl) (by kernel_rfl) (fun _ _ _ h => h) hCSB ⟨.inl ⟨by kernel_rfl, fun W' hW' => ?y9B⟩, fun _ => rfl⟩ ?_
  case y9B => (skip; go_simp; rfl)
  simp only [Act.put, List.setIfInBounds_toArray, List.set_cons_succ, List.set_cons_zero]
  refine anyC_done (by kernel_rfl) ?_
  obtain ⟨VB, hVB⟩ : ∃ VB, (((XB.setCell ⟨nb, 0, none⟩ (.int .i64 q1.size)).setCell ⟨nb, 1, none⟩ (.slice A1B q1.fixed.length c1B)).setCell ⟨nb, 2, none⟩ (.slice F1B q1.files.length d1B)) = VB := ⟨_, rfl⟩
  rw [hVB] at HSB HAB HBB ⊢
  clear hVB hCSB
  have dee1 : (e1 == e1) = true := by simp
  go_wp2_with fail
  refine (sanity_any _).mono ?_
  rintro e w8 ⟨rfl, hB8⟩
  have HS8 := Lib.hid (HSB.out.next hB8)
  have HA8 := Lib.hid (HAB.out.next HSB.out.below.size hB8)
  have HB8 := Lib.hid (HBB.out.next HSB.out.below.size hB8)
  clear HSB HAB HBB hB8
  have a0 := HA8.out.c0; have a1 := HA8.out.c1; have a2 := HA8.out.c2
  have b0 := HB8.out.c0; have b1 := HB8.out.c1; have b2 := HB8.out.c2
  go_wp2_with fail
  refine (refSame_pic q1 q1 _ _ _ HA8.out.pic.c HB8.out.pic.c Hqo1.out).mono ?_
  rintro e w9 ⟨rfl, hB9⟩
  have hself : decide (q1 = q1) = true := by simp
  rw [hself]
  clear hself
  go_wp2_with fail
  go_ret
  exact ⟨rfl, below_then HS8.out.below hB9⟩
end
end Go.Proofs.Yteipclnlfanfeaa
