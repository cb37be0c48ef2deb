/- MoveTells: the walk, given owners. -/
import Derived.Test.YteipclnlfanfeaaRefE
set_option linter.unusedVariables false
set_option linter.unusedSimpArgs false
namespace Go.Proofs.Yteipclnlfanfeaa
open Go.RowKit

/-- a picture in its box -/
structure TBox (nb : Nat) (v0 v1 v2 : Value) (p : Pic) (W : World) : Prop where
  box : W.heap[nb]? = some (.cells #[v0, v1, v2] 25 (0, 0))
  pic : PicC W (.agg #[v0, v1, v2]) p
theorem TBox.below {nb : Nat} {v0 v1 v2 : Value} {p : Pic} {W W' : World} (h : TBox nb v0 v1 v2 p W) (hB : Below W.heap.size W W') : TBox nb v0 v1 v2 p W' := ⟨block_below h.box hB, h.pic.below hB⟩
theorem TBox.c0 {nb : Nat} {v0 v1 v2 : Value} {p : Pic} {W : World} (h : TBox nb v0 v1 v2 p W) : W.cell? ⟨nb, 0, none⟩ = some v0 := by simpa using cell_at h.box 0
theorem TBox.c1 {nb : Nat} {v0 v1 v2 : Value} {p : Pic} {W : World} (h : TBox nb v0 v1 v2 p W) : W.cell? ⟨nb, 1, none⟩ = some v1 := by simpa using cell_at h.box 1
theorem TBox.c2 {nb : Nat} {v0 v1 v2 : Value} {p : Pic} {W : World} (h : TBox nb v0 v1 v2 p W) : W.cell? ⟨nb, 2, none⟩ = some v2 := by simpa using cell_at h.box 2
theorem TBox.new {v0 v1 v2 : Value} {p : Pic} {W : World} (h : PicC W (.agg #[v0, v1, v2]) p) : TBox W.heap.size v0 v1 v2 p (W.alloc (.cells #[v0, v1, v2] 25)) := ⟨World.alloc_heap_new _ _, h.below (below_alloc (Below.refl _ _) _)⟩

theorem resize_ok {p : Pic} {size : Int} (h : PicOk p) : PicOk (resizeP p size).1 := by
  have hz : PicOk picZ := ⟨by decide, by decide, fun f hf => by simp [picZ] at hf⟩
  unfold resizeP
  cases openL p with
  | none => exact hz
  | some s =>
    dsimp only
    split
    · exact hz
    · split
      · exact h
      · exact hz

section
attribute [local go_sem] undef
set_option maxRecDepth 100000 in
set_option maxHeartbeats 8000000 in
theorem tells_of (H : OwnWalk) (p q : Pic) (no size : Int) (v u : Value) (w : World) (hp : PicC w v p) (hq : PicC w u q) :
    Calls Try.prog 7 #[v, u, .int .i64 no, .int .i64 size] w fun e w' => e = .returned (.bool true) ∧ Below w.heap.size w w' := by
  have hmx : Try.prog.follows .mixedOrders = true := by kernel_rfl
  have hp' := hp
  have hq' := hq
  obtain ⟨Ax, cx, Fa, cf, rfl, -, -⟩ := hp'
  obtain ⟨Ay, cy, Fb, cg, rfl, -, -⟩ := hq'
  have hB0 := below_alloc (below_alloc (Below.refl _ w) (.cells #[.int .i64 p.size, .slice Ax p.fixed.length cx, .slice Fa p.files.length cf] 25)) (.cells #[.int .i64 q.size, .slice Ay q.fixed.length cy, .slice Fb q.files.length cg] 25)
  have hP : TBox w.heap.size (.int .i64 p.size) (.slice Ax p.fixed.length cx) (.slice Fa p.files.length cf) p ((w.alloc (.cells #[.int .i64 p.size, .slice Ax p.fixed.length cx, .slice Fa p.files.length cf] 25)).alloc (.cells #[.int .i64 q.size, .slice Ay q.fixed.length cy, .slice Fb q.files.length cg] 25)) := ⟨heap_alloc_old' (World.alloc_heap_new w _) _, hp.below hB0⟩
  have hQ : TBox (w.heap.size + 1) (.int .i64 q.size) (.slice Ay q.fixed.length cy) (.slice Fb q.files.length cg) q ((w.alloc (.cells #[.int .i64 p.size, .slice Ax p.fixed.length cx, .slice Fa p.files.length cf] 25)).alloc (.cells #[.int .i64 q.size, .slice Ay q.fixed.length cy, .slice Fb q.files.length cg] 25)) := ⟨heap_new (w.alloc (.cells #[.int .i64 p.size, .slice Ax p.fixed.length cx, .slice Fa p.files.length cf] 25)) _ (by simp), hq.below hB0⟩
  have HH := Lib.hid H
  have HP := Lib.hid hP
  have HQ := Lib.hid hQ
  clear hP hQ hp hq H
  go_enter Try.func7, Try.ntmps7
  go_wp2_with fail
  obtain ⟨nb, hnb⟩ : ∃ nb, w.heap.size = nb := ⟨_, rfl⟩
  obtain ⟨w0, hw0⟩ : ∃ w0, ((w.alloc (.cells #[.int .i64 p.size, .slice Ax p.fixed.length cx, .slice Fa p.files.length cf] 25)).alloc (.cells #[.int .i64 q.size, .slice Ay q.fixed.length cy, .slice Fb q.files.length cg] 25)) = w0 := ⟨_, rfl⟩
  rw [hw0, hnb] at HP HQ
  rw [hw0] at hB0 ⊢
  rw [hnb]
  clear hw0 hnb
  refine (few_any p _ _ HP.out.pic).mono ?_
  rintro e w1 ⟨rfl, hB1⟩
  have hBw1 := below_then hB0 hB1
  have HP1 := Lib.hid (HP.out.below hB1)
  have HQ1 := Lib.hid (HQ.out.below hB1)
  clear HP HQ
  cases hfew : fewB p with
  | false =>
    go_wp2_with fail
    refine (sanity_any _).mono ?_
    rintro e w2 ⟨rfl, hB2⟩
    go_wp2_with fail
    go_ret
    exact ⟨rfl, below_then hBw1 hB2⟩
  | true =>
  have Hok := Lib.hid (few_ok hfew)
  clear hfew
  have p0 := HP1.out.c0; have p1 := HP1.out.c1; have p2 := HP1.out.c2; have q0 := HQ1.out.c0; have q1 := HQ1.out.c1; have q2 := HQ1.out.c2
  go_wp2_with fail
  refine (few_any q _ _ HQ1.out.pic).mono ?_
  rintro e w2 ⟨rfl, hB2⟩
  have hBw2 := below_then hBw1 hB2
  have HP2 := Lib.hid (HP1.out.below hB2)
  have HQ2 := Lib.hid (HQ1.out.below hB2)
  clear HP1 HQ1 p0 p1 p2 q0 q1 q2
  cases hfew : fewB q with
  | false =>
    go_wp2_with fail
    refine (sanity_any _).mono ?_
    rintro e w3 ⟨rfl, hB3⟩
    go_wp2_with fail
    go_ret
    exact ⟨rfl, below_then hBw2 hB3⟩
  | true =>
  clear hfew
  have p0 := HP2.out.c0; have p1 := HP2.out.c1; have p2 := HP2.out.c2
  go_wp2_with fail
  refine (refCheck_of HH.out p _ _ HP2.out.pic Hok.out).mono ?_
  rintro e w3 ⟨rfl, hB3⟩
  have hBw3 := below_then hBw2 hB3
  have HP3 := Lib.hid (HP2.out.below hB3)
  have HQ3 := Lib.hid (HQ2.out.below hB3)
  clear HP2 HQ2 p0 p1 p2
  have p0 := HP3.out.c0; have p1 := HP3.out.c1; have p2 := HP3.out.c2
  go_wp2_with fail
  refine (fragments_pic p no _ _ HP3.out.pic Hok.out).mono ?_
  rintro e w4 ⟨rfl, hB4⟩
  have hBw4 := below_then hBw3 hB4
  have HP4 := Lib.hid (HP3.out.below hB4)
  have HQ4 := Lib.hid (HQ3.out.below hB4)
  clear HP3 HQ3 p0 p1 p2
  have p0 := HP4.out.c0; have p1 := HP4.out.c1; have p2 := HP4.out.c2
  go_wp2_with fail
  refine (refNumber_of HH.out p no _ _ HP4.out.pic Hok.out).mono ?_
  rintro e w5 ⟨rfl, hB5⟩
  have hBw5 := below_then hBw4 hB5
  have HP5 := Lib.hid (HP4.out.below hB5)
  have HQ5 := Lib.hid (HQ4.out.below hB5)
  clear HP4 HQ4 p0 p1 p2
  have p0 := HP5.out.c0; have p1 := HP5.out.c1; have p2 := HP5.out.c2
  go_wp2_with fail
  refine (free_pic p _ _ HP5.out.pic Hok.out).mono ?_
  rintro e w6 ⟨⟨Af, kf, rfl, hfree⟩, hB6⟩
  have hBw6 := below_then hBw5 hB6
  have HP6 := Lib.hid (HP5.out.below hB6)
  have HQ6 := Lib.hid (HQ5.out.below hB6)
  have HF6 := Lib.hid hfree
  clear HP5 HQ5 p0 p1 p2 hfree
  have p0 := HP6.out.c0; have p1 := HP6.out.c1; have p2 := HP6.out.c2
  have hfe : (freeP p).2 = chkE p := by unfold freeP chkE; cases openL p <;> rfl
  rw [hfe]
  clear hfe
  go_wp2_with fail
  refine (resize_pic p size _ _ HP6.out.pic Hok.out).mono ?_
  rintro e w7 ⟨⟨va, rfl, hva⟩, hB7⟩
  have hva := hva.c
  have hva' := hva
  obtain ⟨A1x, c1x, A1f, c1f, rfl, -, -⟩ := hva'
  have HA := Lib.hid (TBox.new hva)
  have hB7' := below_then hB7 (below_alloc (Below.refl _ w7) (.cells #[.int .i64 (resizeP p size).1.size, .slice A1x (resizeP p size).1.fixed.length c1x, .slice A1f (resizeP p size).1.files.length c1f] 25))
  have hBw7 := below_then hBw6 hB7'
  have HP7 := Lib.hid (HP6.out.below hB7')
  have HQ7 := Lib.hid (HQ6.out.below hB7')
  have HF7 := Lib.hid (HF6.out.below hB7')
  clear HP6 HQ6 HF6 p0 p1 p2 hva hB7 hB7'
  have p0 := HP7.out.c0; have p1 := HP7.out.c1; have p2 := HP7.out.c2
  go_wp2_with fail
  obtain ⟨na, hna⟩ : ∃ na, w7.heap.size = na := ⟨_, rfl⟩
  obtain ⟨w8, hw8⟩ : ∃ w8, w7.alloc (.cells #[.int .i64 (resizeP p size).1.size, .slice A1x (resizeP p size).1.fixed.length c1x, .slice A1f (resizeP p size).1.files.length c1f] 25) = w8 := ⟨_, rfl⟩
  rw [hw8, hna] at HA
  rw [hw8] at HP7 HQ7 HF7 hBw7 p0 p1 p2 ⊢
  rw [hna]
  clear hw8 hna
  refine (refResize_of HH.out p size _ _ HP7.out.pic Hok.out).mono ?_
  rintro e w9 ⟨⟨vb, rfl, hvb⟩, hB9⟩
  have hvb' := hvb
  obtain ⟨A2x, c2x, A2f, c2f, rfl, -, -⟩ := hvb'
  have HBx := Lib.hid (TBox.new hvb)
  have hB9' := below_then hB9 (below_alloc (Below.refl _ w9) (.cells #[.int .i64 (resizeP p size).1.size, .slice A2x (resizeP p size).1.fixed.length c2x, .slice A2f (resizeP p size).1.files.length c2f] 25))
  have hBw9 := below_then hBw7 hB9'
  have HP9 := Lib.hid (HP7.out.below hB9')
  have HQ9 := Lib.hid (HQ7.out.below hB9')
  have HF9 := Lib.hid (HF7.out.below hB9')
  have HA9 := Lib.hid (HA.out.below hB9')
  clear HP7 HQ7 HF7 HA p0 p1 p2 hvb hB9 hB9'
  go_wp2_with fail
  obtain ⟨nc, hnc⟩ : ∃ nc, w9.heap.size = nc := ⟨_, rfl⟩
  obtain ⟨W0, hW0⟩ : ∃ W0, w9.alloc (.cells #[.int .i64 (resizeP p size).1.size, .slice A2x (resizeP p size).1.fixed.length c2x, .slice A2f (resizeP p size).1.files.length c2f] 25) = W0 := ⟨_, rfl⟩
  rw [hW0, hnc] at HBx
  rw [hW0] at HP9 HQ9 HF9 HA9 hBw9 ⊢
  rw [hnc]
  clear hW0 hnc
  obtain ⟨rp, hrp⟩ : ∃ rp, resizeP p size = rp := ⟨_, rfl⟩
  have hrk := resize_ok (size := size) Hok.out
  rw [hrp] at HBx HA9 hrk ⊢
  have Hrk := Lib.hid hrk
  clear hrp hrk
  obtain ⟨ck, hck⟩ : ∃ ck, chkE p = ck := ⟨_, rfl⟩
  obtain ⟨fn, hfn⟩ : ∃ fn, fragN p no = fn := ⟨_, rfl⟩
  have Hck := Lib.hid hck
  rw [hck, hfn]
  clear hfn
  have d1 : (ck != ck) = false := by simp
  have d2 : (fn.1 != fn.1) = false := by simp
  have d3 : (fn.2 != fn.2) = false := by simp
  have d4 : (rp.2 != rp.2) = false := by simp
  obtain ⟨bs, hbs⟩ : ∃ bs, decide (p = q) = bs := ⟨_, rfl⟩
  have Hbs := Lib.hid hbs
  clear hbs hck
  have d5 : (bs != bs) = false := by simp
  have d6 : decide (p = p) = true := by simp
  have d7 : decide (rp.1 = rp.1) = true := by simp
  have P0 := HP9.out.c0; have P1 := HP9.out.c1; have P2 := HP9.out.c2
  have Q0 := HQ9.out.c0; have Q1 := HQ9.out.c1; have Q2 := HQ9.out.c2
  have A0 := HA9.out.c0; have A1 := HA9.out.c1; have A2 := HA9.out.c2
  have B0 := HBx.out.c0; have B1 := HBx.out.c1; have B2 := HBx.out.c2
  go_cut [105] from 61 to 105 (fun x wx => x = .bool false ∧ Below W0.heap.size W0 wx)
  case first =>
    refine wp_region_anyN (C := (fun W' : World => Below W0.heap.size W0 W')) 45 (by kernel_rfl) hmx ?_
    have hC0 : (fun W' : World => Below W0.heap.size W0 W') W0.drew := (Below.refl _ _).drew
    refine anyC_take (i := 0) ?v0 rfl rfl (by kernel_rfl) (by kernel_rfl) (by kernel_rfl) (fun _ _ _ h => h) hC0 ⟨.inl ⟨by kernel_rfl, fun W' hW' => ?y0⟩, fun _ => rfl⟩ ?_
    case y0 => (have p0 := cell_below P0 hW'; have p1 := cell_below P1 hW'; have p2 := cell_below P2 hW'; have q0 := cell_below Q0 hW'; have q1 := cell_below Q1 hW'; have q2 := cell_below Q2 hW'; have a0 := cell_below A0 hW'; have a1 := cell_below A1 hW'; have a2 := cell_below A2 hW'; have b0 := cell_below B0 hW'; have b1 := cell_below B1 hW'; have b2 := cell_below B2 hW'; go_simp; rfl)
    simp only [Act.put, List.setIfInBounds_toArray, List.set_cons_succ, List.set_cons_zero]
    refine anyC_take (i := 2) ?v2 rfl rfl (by kernel_rfl) (by kernel_rfl) (by kernel_rfl) (fun _ _ _ h => h) hC0 ⟨.inl ⟨by kernel_rfl, fun W' hW' => ?y2⟩, fun _ => rfl⟩ ?_
    case y2 => (have p0 := cell_below P0 hW'; have p1 := cell_below P1 hW'; have p2 := cell_below P2 hW'; have q0 := cell_below Q0 hW'; have q1 := cell_below Q1 hW'; have q2 := cell_below Q2 hW'; have a0 := cell_below A0 hW'; have a1 := cell_below A1 hW'; have a2 := cell_below A2 hW'; have b0 := cell_below B0 hW'; have b1 := cell_below B1 hW'; have b2 := cell_below B2 hW'; go_simp; rfl)
    simp only [Act.put, List.setIfInBounds_toArray, List.set_cons_succ, List.set_cons_zero]
    refine anyC_onlyW (i := 1) (by kernel_rfl) rfl (by kernel_rfl) (fun K' hK' => ?_)
    go_simp
    refine ⟨trivial, rfl, (callsIn_wide.2 (check_any p _ _ (HP9.out.pic.below hC0) Hok.out)).mono ?_⟩
    rintro e x1 ⟨rfl, hx1⟩
    rw [Hck.out]
    have hC1 : (fun W' : World => Below W0.heap.size W0 W') x1 := hC0.trans (hx1.mono hC0.size)
    refine hK' _ _ ⟨hC1, ?_⟩
    clear hK' K'
    refine anyC_take (i := 3) ?v3 rfl rfl (by kernel_rfl) (by kernel_rfl) (by kernel_rfl) (fun _ _ _ h => h) hC1 ⟨.inl ⟨by kernel_rfl, fun W' hW' => ?y3⟩, fun _ => rfl⟩ ?_
    case y3 => (have p0 := cell_below P0 hW'; have p1 := cell_below P1 hW'; have p2 := cell_below P2 hW'; have q0 := cell_below Q0 hW'; have q1 := cell_below Q1 hW'; have q2 := cell_below Q2 hW'; have a0 := cell_below A0 hW'; have a1 := cell_below A1 hW'; have a2 := cell_below A2 hW'; have b0 := cell_below B0 hW'; have b1 := cell_below B1 hW'; have b2 := cell_below B2 hW'; go_simp; rfl)
    simp only [Act.put, List.setIfInBounds_toArray, List.set_cons_succ, List.set_cons_zero]
    refine anyC_take (i := 4) ?v4 rfl rfl (by kernel_rfl) (by kernel_rfl) (by kernel_rfl) (fun _ _ _ h => h) hC1 ⟨.inl ⟨by kernel_rfl, fun W' hW' => ?y4⟩, fun _ => rfl⟩ ?_
    case y4 => (have p0 := cell_below P0 hW'; have p1 := cell_below P1 hW'; have p2 := cell_below P2 hW'; have q0 := cell_below Q0 hW'; have q1 := cell_below Q1 hW'; have q2 := cell_below Q2 hW'; have a0 := cell_below A0 hW'; have a1 := cell_below A1 hW'; have a2 := cell_below A2 hW'; have b0 := cell_below B0 hW'; have b1 := cell_below B1 hW'; have b2 := cell_below B2 hW'; go_simp; rfl)
    simp only [Act.put, List.setIfInBounds_toArray, List.set_cons_succ, List.set_cons_zero]
    refine anyC_take (i := 5) ?v5 rfl rfl (by kernel_rfl) (by kernel_rfl) (by kernel_rfl) (fun _ _ _ h => h) hC1 ⟨.inl ⟨by kernel_rfl, fun W' hW' => ?y5⟩, fun _ => rfl⟩ ?_
    case y5 => (have p0 := cell_below P0 hW'; have p1 := cell_below P1 hW'; have p2 := cell_below P2 hW'; have q0 := cell_below Q0 hW'; have q1 := cell_below Q1 hW'; have q2 := cell_below Q2 hW'; have a0 := cell_below A0 hW'; have a1 := cell_below A1 hW'; have a2 := cell_below A2 hW'; have b0 := cell_below B0 hW'; have b1 := cell_below B1 hW'; have b2 := cell_below B2 hW'; go_simp; rfl)
    simp only [Act.put, List.setIfInBounds_toArray, List.set_cons_succ, List.set_cons_zero]
    refine anyC_take (i := 6) ?v6 rfl rfl (by kernel_rfl) (by kernel_rfl) (by kernel_rfl) (fun _ _ _ h => h) hC1 ⟨.inl ⟨by kernel_rfl, fun W' hW' => ?y6⟩, fun _ => rfl⟩ ?_
    case y6 => (have p0 := cell_below P0 hW'; have p1 := cell_below P1 hW'; have p2 := cell_below P2 hW'; have q0 := cell_below Q0 hW'; have q1 := cell_below Q1 hW'; have q2 := cell_below Q2 hW'; have a0 := cell_below A0 hW'; have a1 := cell_below A1 hW'; have a2 := cell_below A2 hW'; have b0 := cell_below B0 hW'; have b1 := cell_below B1 hW'; have b2 := cell_below B2 hW'; go_simp; rfl)
    simp only [Act.put, List.setIfInBounds_toArray, List.set_cons_succ, List.set_cons_zero]
    refine anyC_take (i := 8) ?v8 rfl rfl (by kernel_rfl) (by kernel_rfl) (by kernel_rfl) (fun _ _ _ h => h) hC1 ⟨.inl ⟨by kernel_rfl, fun W' hW' => ?y8⟩, fun _ => rfl⟩ ?_
    case y8 => (have p0 := cell_below P0 hW'; have p1 := cell_below P1 hW'; have p2 := cell_below P2 hW'; have q0 := cell_below Q0 hW'; have q1 := cell_below Q1 hW'; have q2 := cell_below Q2 hW'; have a0 := cell_below A0 hW'; have a1 := cell_below A1 hW'; have a2 := cell_below A2 hW'; have b0 := cell_below B0 hW'; have b1 := cell_below B1 hW'; have b2 := cell_below B2 hW'; go_simp; rfl)
    simp only [Act.put, List.setIfInBounds_toArray, List.set_cons_succ, List.set_cons_zero]
    refine anyC_take (i := 9) ?v9 rfl rfl (by kernel_rfl) (by kernel_rfl) (by kernel_rfl) (fun _ _ _ h => h) hC1 ⟨.inl ⟨by kernel_rfl, fun W' hW' => ?y9⟩, fun _ => rfl⟩ ?_
    case y9 => (have p0 := cell_below P0 hW'; have p1 := cell_below P1 hW'; have p2 := cell_below P2 hW'; have q0 := cell_below Q0 hW'; have q1 := cell_below Q1 hW'; have q2 := cell_below Q2 hW'; have a0 := cell_below A0 hW'; have a1 := cell_below A1 hW'; have a2 := cell_below A2 hW'; have b0 := cell_below B0 hW'; have b1 := cell_below B1 hW'; have b2 := cell_below B2 hW'; go_simp; rfl)
    simp only [Act.put, List.setIfInBounds_toArray, List.set_cons_succ, List.set_cons_zero]
    refine anyC_onlyW (i := 7) (by kernel_rfl) rfl (by kernel_rfl) (fun K' hK' => ?_)
    go_simp
    refine ⟨trivial, rfl, (callsIn_wide.2 (same_pic p q _ _ _ (HP9.out.pic.below hC1) (HQ9.out.pic.below hC1) Hok.out)).mono ?_⟩
    rintro e x2 ⟨rfl, hx2⟩
    rw [Hbs.out]
    have hC2 : (fun W' : World => Below W0.heap.size W0 W') x2 := hC1.trans (hx2.mono hC1.size)
    refine hK' _ _ ⟨hC2, ?_⟩
    clear hK' K'
    refine anyC_onlyW (i := 10) (by kernel_rfl) rfl (by kernel_rfl) (fun K' hK' => ?_)
    go_simp
    refine ⟨trivial, rfl, (callsIn_wide.2 (refSame_pic p q _ _ _ (HP9.out.pic.below hC2) (HQ9.out.pic.below hC2) Hok.out)).mono ?_⟩
    rintro e x3 ⟨rfl, hx3⟩
    rw [Hbs.out]
    have hC3 : (fun W' : World => Below W0.heap.size W0 W') x3 := hC2.trans (hx3.mono hC2.size)
    refine hK' _ _ ⟨hC3, ?_⟩
    clear hK' K'
    refine anyC_take (i := 11) ?v11 rfl rfl (by kernel_rfl) (by kernel_rfl) (by kernel_rfl) (fun _ _ _ h => h) hC3 ⟨.inl ⟨by kernel_rfl, fun W' hW' => ?y11⟩, fun _ => rfl⟩ ?_
    case y11 => (have p0 := cell_below P0 hW'; have p1 := cell_below P1 hW'; have p2 := cell_below P2 hW'; have q0 := cell_below Q0 hW'; have q1 := cell_below Q1 hW'; have q2 := cell_below Q2 hW'; have a0 := cell_below A0 hW'; have a1 := cell_below A1 hW'; have a2 := cell_below A2 hW'; have b0 := cell_below B0 hW'; have b1 := cell_below B1 hW'; have b2 := cell_below B2 hW'; go_simp; rfl)
    simp only [Act.put, List.setIfInBounds_toArray, List.set_cons_succ, List.set_cons_zero]
    refine anyC_take (i := 12) ?v12 rfl rfl (by kernel_rfl) (by kernel_rfl) (by kernel_rfl) (fun _ _ _ h => h) hC3 ⟨.inl ⟨by kernel_rfl, fun W' hW' => ?y12⟩, fun _ => rfl⟩ ?_
    case y12 => (have p0 := cell_below P0 hW'; have p1 := cell_below P1 hW'; have p2 := cell_below P2 hW'; have q0 := cell_below Q0 hW'; have q1 := cell_below Q1 hW'; have q2 := cell_below Q2 hW'; have a0 := cell_below A0 hW'; have a1 := cell_below A1 hW'; have a2 := cell_below A2 hW'; have b0 := cell_below B0 hW'; have b1 := cell_below B1 hW'; have b2 := cell_below B2 hW'; go_simp; rfl)
    simp only [Act.put, List.setIfInBounds_toArray, List.set_cons_succ, List.set_cons_zero]
    refine anyC_take (i := 13) ?v13 rfl rfl (by kernel_rfl) (by kernel_rfl) (by kernel_rfl) (fun _ _ _ h => h) hC3 ⟨.inl ⟨by kernel_rfl, fun W' hW' => ?y13⟩, fun _ => rfl⟩ ?_
    case y13 => (have p0 := cell_below P0 hW'; have p1 := cell_below P1 hW'; have p2 := cell_below P2 hW'; have q0 := cell_below Q0 hW'; have q1 := cell_below Q1 hW'; have q2 := cell_below Q2 hW'; have a0 := cell_below A0 hW'; have a1 := cell_below A1 hW'; have a2 := cell_below A2 hW'; have b0 := cell_below B0 hW'; have b1 := cell_below B1 hW'; have b2 := cell_below B2 hW'; go_simp; rfl)
    simp only [Act.put, List.setIfInBounds_toArray, List.set_cons_succ, List.set_cons_zero]
    refine anyC_take (i := 14) ?v14 rfl rfl (by kernel_rfl) (by kernel_rfl) (by kernel_rfl) (fun _ _ _ h => h) hC3 ⟨.inl ⟨by kernel_rfl, fun W' hW' => ?y14⟩, fun _ => rfl⟩ ?_
    case y14 => (have p0 := cell_below P0 hW'; have p1 := cell_below P1 hW'; have p2 := cell_below P2 hW'; have q0 := cell_below Q0 hW'; have q1 := cell_below Q1 hW'; have q2 := cell_below Q2 hW'; have a0 := cell_below A0 hW'; have a1 := cell_below A1 hW'; have a2 := cell_below A2 hW'; have b0 := cell_below B0 hW'; have b1 := cell_below B1 hW'; have b2 := cell_below B2 hW'; go_simp; rfl)
    simp only [Act.put, List.setIfInBounds_toArray, List.set_cons_succ, List.set_cons_zero]
    refine anyC_take (i := 15) ?v15 rfl rfl (by kernel_rfl) (by kernel_rfl) (by kernel_rfl) (fun _ _ _ h => h) hC3 ⟨.inl ⟨by kernel_rfl, fun W' hW' => ?y15⟩, fun _ => rfl⟩ ?_
    case y15 => (have p0 := cell_below P0 hW'; have p1 := cell_below P1 hW'; have p2 := cell_below P2 hW'; have q0 := cell_below Q0 hW'; have q1 := cell_below Q1 hW'; have q2 := cell_below Q2 hW'; have a0 := cell_below A0 hW'; have a1 := cell_below A1 hW'; have a2 := cell_below A2 hW'; have b0 := cell_below B0 hW'; have b1 := cell_below B1 hW'; have b2 := cell_below B2 hW'; go_simp; rfl)
    simp only [Act.put, List.setIfInBounds_toArray, List.set_cons_succ, List.set_cons_zero]
    refine anyC_onlyW (i := 16) (by kernel_rfl) rfl (by kernel_rfl) (fun K' hK' => ?_)
    go_simp
    refine ⟨trivial, rfl, (callsIn_wide.2 (same_pic p p _ _ _ (HP9.out.pic.below hC3) (HP9.out.pic.below hC3) Hok.out)).mono ?_⟩
    rintro e x4 ⟨rfl, hx4⟩
    rw [d6]
    have hC4 : (fun W' : World => Below W0.heap.size W0 W') x4 := hC3.trans (hx4.mono hC3.size)
    refine hK' _ _ ⟨hC4, ?_⟩
    clear hK' K'
    refine anyC_take (i := 17) ?v17 rfl rfl (by kernel_rfl) (by kernel_rfl) (by kernel_rfl) (fun _ _ _ h => h) hC4 ⟨.inl ⟨by kernel_rfl, fun W' hW' => ?y17⟩, fun _ => rfl⟩ ?_
    case y17 => (have p0 := cell_below P0 hW'; have p1 := cell_below P1 hW'; have p2 := cell_below P2 hW'; have q0 := cell_below Q0 hW'; have q1 := cell_below Q1 hW'; have q2 := cell_below Q2 hW'; have a0 := cell_below A0 hW'; have a1 := cell_below A1 hW'; have a2 := cell_below A2 hW'; have b0 := cell_below B0 hW'; have b1 := cell_below B1 hW'; have b2 := cell_below B2 hW'; go_simp; rfl)
    simp only [Act.put, List.setIfInBounds_toArray, List.set_cons_succ, List.set_cons_zero]
    refine anyC_take (i := 18) ?v18 rfl rfl (by kernel_rfl) (by kernel_rfl) (by kernel_rfl) (fun _ _ _ h => h) hC4 ⟨.inl ⟨by kernel_rfl, fun W' hW' => ?y18⟩, fun _ => rfl⟩ ?_
    case y18 => (have p0 := cell_below P0 hW'; have p1 := cell_below P1 hW'; have p2 := cell_below P2 hW'; have q0 := cell_below Q0 hW'; have q1 := cell_below Q1 hW'; have q2 := cell_below Q2 hW'; have a0 := cell_below A0 hW'; have a1 := cell_below A1 hW'; have a2 := cell_below A2 hW'; have b0 := cell_below B0 hW'; have b1 := cell_below B1 hW'; have b2 := cell_below B2 hW'; go_simp; rfl)
    simp only [Act.put, List.setIfInBounds_toArray, List.set_cons_succ, List.set_cons_zero]
    refine anyC_take (i := 19) ?v19 rfl rfl (by kernel_rfl) (by kernel_rfl) (by kernel_rfl) (fun _ _ _ h => h) hC4 ⟨.inl ⟨by kernel_rfl, fun W' hW' => ?y19⟩, fun _ => rfl⟩ ?_
    case y19 => (have p0 := cell_below P0 hW'; have p1 := cell_below P1 hW'; have p2 := cell_below P2 hW'; have q0 := cell_below Q0 hW'; have q1 := cell_below Q1 hW'; have q2 := cell_below Q2 hW'; have a0 := cell_below A0 hW'; have a1 := cell_below A1 hW'; have a2 := cell_below A2 hW'; have b0 := cell_below B0 hW'; have b1 := cell_below B1 hW'; have b2 := cell_below B2 hW'; go_simp; rfl)
    simp only [Act.put, List.setIfInBounds_toArray, List.set_cons_succ, List.set_cons_zero]
    refine anyC_take (i := 20) ?v20 rfl rfl (by kernel_rfl) (by kernel_rfl) (by kernel_rfl) (fun _ _ _ h => h) hC4 ⟨.inl ⟨by kernel_rfl, fun W' hW' => ?y20⟩, fun _ => rfl⟩ ?_
    case y20 => (have p0 := cell_below P0 hW'; have p1 := cell_below P1 hW'; have p2 := cell_below P2 hW'; have q0 := cell_below Q0 hW'; have q1 := cell_below Q1 hW'; have q2 := cell_below Q2 hW'; have a0 := cell_below A0 hW'; have a1 := cell_below A1 hW'; have a2 := cell_below A2 hW'; have b0 := cell_below B0 hW'; have b1 := cell_below B1 hW'; have b2 := cell_below B2 hW'; go_simp; rfl)
    simp only [Act.put, List.setIfInBounds_toArray, List.set_cons_succ, List.set_cons_zero]
    refine anyC_take (i := 21) ?v21 rfl rfl (by kernel_rfl) (by kernel_rfl) (by kernel_rfl) (fun _ _ _ h => h) hC4 ⟨.inl ⟨by kernel_rfl, fun W' hW' => ?y21⟩, fun _ => rfl⟩ ?_
    case y21 => (have p0 := cell_below P0 hW'; have p1 := cell_below P1 hW'; have p2 := cell_below P2 hW'; have q0 := cell_below Q0 hW'; have q1 := cell_below Q1 hW'; have q2 := cell_below Q2 hW'; have a0 := cell_below A0 hW'; have a1 := cell_below A1 hW'; have a2 := cell_below A2 hW'; have b0 := cell_below B0 hW'; have b1 := cell_below B1 hW'; have b2 := cell_below B2 hW'; go_simp; rfl)
    simp only [Act.put, List.setIfInBounds_toArray, List.set_cons_succ, List.set_cons_zero]
    refine anyC_take (i := 22) ?v22 rfl rfl (by kernel_rfl) (by kernel_rfl) (by kernel_rfl) (fun _ _ _ h => h) hC4 ⟨.inl ⟨by kernel_rfl, fun W' hW' => ?y22⟩, fun _ => rfl⟩ ?_
    case y22 => (have p0 := cell_below P0 hW'; have p1 := cell_below P1 hW'; have p2 := cell_below P2 hW'; have q0 := cell_below Q0 hW'; have q1 := cell_below Q1 hW'; have q2 := cell_below Q2 hW'; have a0 := cell_below A0 hW'; have a1 := cell_below A1 hW'; have a2 := cell_below A2 hW'; have b0 := cell_below B0 hW'; have b1 := cell_below B1 hW'; have b2 := cell_below B2 hW'; go_simp; rfl)
    simp only [Act.put, List.setIfInBounds_toArray, List.set_cons_succ, List.set_cons_zero]
    refine anyC_take (i := 23) ?v23 rfl rfl (by kernel_rfl) (by kernel_rfl) (by kernel_rfl) (fun _ _ _ h => h) hC4 ⟨.inl ⟨by kernel_rfl, fun W' hW' => ?y23⟩, fun _ => rfl⟩ ?_
    case y23 => (have p0 := cell_below P0 hW'; have p1 := cell_below P1 hW'; have p2 := cell_below P2 hW'; have q0 := cell_below Q0 hW'; have q1 := cell_below Q1 hW'; have q2 := cell_below Q2 hW'; have a0 := cell_below A0 hW'; have a1 := cell_below A1 hW'; have a2 := cell_below A2 hW'; have b0 := cell_below B0 hW'; have b1 := cell_below B1 hW'; have b2 := cell_below B2 hW'; go_simp; rfl)
    simp only [Act.put, List.setIfInBounds_toArray, List.set_cons_succ, List.set_cons_zero]
    refine anyC_take (i := 24) ?v24 rfl rfl (by kernel_rfl) (by kernel_rfl) (by kernel_rfl) (fun _ _ _ h => h) hC4 ⟨.inl ⟨by kernel_rfl, fun W' hW' => ?y24⟩, fun _ => rfl⟩ ?_
    case y24 => (have p0 := cell_below P0 hW'; have p1 := cell_below P1 hW'; have p2 := cell_below P2 hW'; have q0 := cell_below Q0 hW'; have q1 := cell_below Q1 hW'; have q2 := cell_below Q2 hW'; have a0 := cell_below A0 hW'; have a1 := cell_below A1 hW'; have a2 := cell_below A2 hW'; have b0 := cell_below B0 hW'; have b1 := cell_below B1 hW'; have b2 := cell_below B2 hW'; go_simp; rfl)
    simp only [Act.put, List.setIfInBounds_toArray, List.set_cons_succ, List.set_cons_zero]
    refine anyC_take (i := 25) ?v25 rfl rfl (by kernel_rfl) (by kernel_rfl) (by kernel_rfl) (fun _ _ _ h => h) hC4 ⟨.inl ⟨by kernel_rfl, fun W' hW' => ?y25⟩, fun _ => rfl⟩ ?_
    case y25 => (have p0 := cell_below P0 hW'; have p1 := cell_below P1 hW'; have p2 := cell_below P2 hW'; have q0 := cell_below Q0 hW'; have q1 := cell_below Q1 hW'; have q2 := cell_below Q2 hW'; have a0 := cell_below A0 hW'; have a1 := cell_below A1 hW'; have a2 := cell_below A2 hW'; have b0 := cell_below B0 hW'; have b1 := cell_below B1 hW'; have b2 := cell_below B2 hW'; go_simp; rfl)
    simp only [Act.put, List.setIfInBounds_toArray, List.set_cons_succ, List.set_cons_zero]
    refine anyC_take (i := 26) ?v26 rfl rfl (by kernel_rfl) (by kernel_rfl) (by kernel_rfl) (fun _ _ _ h => h) hC4 ⟨.inl ⟨by kernel_rfl, fun W' hW' => ?y26⟩, fun _ => rfl⟩ ?_
    case y26 => (have p0 := cell_below P0 hW'; have p1 := cell_below P1 hW'; have p2 := cell_below P2 hW'; have q0 := cell_below Q0 hW'; have q1 := cell_below Q1 hW'; have q2 := cell_below Q2 hW'; have a0 := cell_below A0 hW'; have a1 := cell_below A1 hW'; have a2 := cell_below A2 hW'; have b0 := cell_below B0 hW'; have b1 := cell_below B1 hW'; have b2 := cell_below B2 hW'; go_simp; rfl)
    simp only [Act.put, List.setIfInBounds_toArray, List.set_cons_succ, List.set_cons_zero]
    refine anyC_take (i := 27) ?v27 rfl rfl (by kernel_rfl) (by kernel_rfl) (by kernel_rfl) (fun _ _ _ h => h) hC4 ⟨.inl ⟨by kernel_rfl, fun W' hW' => ?y27⟩, fun _ => rfl⟩ ?_
    case y27 => (have p0 := cell_below P0 hW'; have p1 := cell_below P1 hW'; have p2 := cell_below P2 hW'; have q0 := cell_below Q0 hW'; have q1 := cell_below Q1 hW'; have q2 := cell_below Q2 hW'; have a0 := cell_below A0 hW'; have a1 := cell_below A1 hW'; have a2 := cell_below A2 hW'; have b0 := cell_below B0 hW'; have b1 := cell_below B1 hW'; have b2 := cell_below B2 hW'; go_simp; rfl)
    simp only [Act.put, List.setIfInBounds_toArray, List.set_cons_succ, List.set_cons_zero]
    refine anyC_take (i := 28) ?v28 rfl rfl (by kernel_rfl) (by kernel_rfl) (by kernel_rfl) (fun _ _ _ h => h) hC4 ⟨.inl ⟨by kernel_rfl, fun W' hW' => ?y28⟩, fun _ => rfl⟩ ?_
    case y28 => (have p0 := cell_below P0 hW'; have p1 := cell_below P1 hW'; have p2 := cell_below P2 hW'; have q0 := cell_below Q0 hW'; have q1 := cell_below Q1 hW'; have q2 := cell_below Q2 hW'; have a0 := cell_below A0 hW'; have a1 := cell_below A1 hW'; have a2 := cell_below A2 hW'; have b0 := cell_below B0 hW'; have b1 := cell_below B1 hW'; have b2 := cell_below B2 hW'; go_simp; rfl)
    simp only [Act.put, List.setIfInBounds_toArray, List.set_cons_succ, List.set_cons_zero]
    refine anyC_take (i := 29) ?v29 rfl rfl (by kernel_rfl) (by kernel_rfl) (by kernel_rfl) (fun _ _ _ h => h) hC4 ⟨.inl ⟨by kernel_rfl, fun W' hW' => ?y29⟩, fun _ => rfl⟩ ?_
    case y29 => (have p0 := cell_below P0 hW'; have p1 := cell_below P1 hW'; have p2 := cell_below P2 hW'; have q0 := cell_below Q0 hW'; have q1 := cell_below Q1 hW'; have q2 := cell_below Q2 hW'; have a0 := cell_below A0 hW'; have a1 := cell_below A1 hW'; have a2 := cell_below A2 hW'; have b0 := cell_below B0 hW'; have b1 := cell_below B1 hW'; have b2 := cell_below B2 hW'; go_simp; rfl)
    simp only [Act.put, List.setIfInBounds_toArray, List.set_cons_succ, List.set_cons_zero]
    refine anyC_take (i := 30) ?v30 rfl rfl (by kernel_rfl) (by kernel_rfl) (by kernel_rfl) (fun _ _ _ h => h) hC4 ⟨.inl ⟨by kernel_rfl, fun W' hW' => ?y30⟩, fun _ => rfl⟩ ?_
    case y30 => (have p0 := cell_below P0 hW'; have p1 := cell_below P1 hW'; have p2 := cell_below P2 hW'; have q0 := cell_below Q0 hW'; have q1 := cell_below Q1 hW'; have q2 := cell_below Q2 hW'; have a0 := cell_below A0 hW'; have a1 := cell_below A1 hW'; have a2 := cell_below A2 hW'; have b0 := cell_below B0 hW'; have b1 := cell_below B1 hW'; have b2 := cell_below B2 hW'; go_simp; rfl)
    simp only [Act.put, List.setIfInBounds_toArray, List.set_cons_succ, List.set_cons_zero]
    refine anyC_take (i := 31) ?v31 rfl rfl (by kernel_rfl) (by kernel_rfl) (by kernel_rfl) (fun _ _ _ h => h) hC4 ⟨.inl ⟨by kernel_rfl, fun W' hW' => ?y31⟩, fun _ => rfl⟩ ?_
    case y31 => (have p0 := cell_below P0 hW'; have p1 := cell_below P1 hW'; have p2 := cell_below P2 hW'; have q0 := cell_below Q0 hW'; have q1 := cell_below Q1 hW'; have q2 := cell_below Q2 hW'; have a0 := cell_below A0 hW'; have a1 := cell_below A1 hW'; have a2 := cell_below A2 hW'; have b0 := cell_below B0 hW'; have b1 := cell_below B1 hW'; have b2 := cell_below B2 hW'; go_simp; rfl)
    simp only [Act.put, List.setIfInBounds_toArray, List.set_cons_succ, List.set_cons_zero]
    refine anyC_take (i := 32) ?v32 rfl rfl (by kernel_rfl) (by kernel_rfl) (by kernel_rfl) (fun _ _ _ h => h) hC4 ⟨.inl ⟨by kernel_rfl, fun W' hW' => ?y32⟩, fun _ => rfl⟩ ?_
    case y32 => (have p0 := cell_below P0 hW'; have p1 := cell_below P1 hW'; have p2 := cell_below P2 hW'; have q0 := cell_below Q0 hW'; have q1 := cell_below Q1 hW'; have q2 := cell_below Q2 hW'; have a0 := cell_below A0 hW'; have a1 := cell_below A1 hW'; have a2 := cell_below A2 hW'; have b0 := cell_below B0 hW'; have b1 := cell_below B1 hW'; have b2 := cell_below B2 hW'; go_simp; rfl)
    simp only [Act.put, List.setIfInBounds_toArray, List.set_cons_succ, List.set_cons_zero]
    refine anyC_take (i := 33) ?v33 rfl rfl (by kernel_rfl) (by kernel_rfl) (by kernel_rfl) (fun _ _ _ h => h) hC4 ⟨.inl ⟨by kernel_rfl, fun W' hW' => ?y33⟩, fun _ => rfl⟩ ?_
    case y33 => (have p0 := cell_below P0 hW'; have p1 := cell_below P1 hW'; have p2 := cell_below P2 hW'; have q0 := cell_below Q0 hW'; have q1 := cell_below Q1 hW'; have q2 := cell_below Q2 hW'; have a0 := cell_below A0 hW'; have a1 := cell_below A1 hW'; have a2 := cell_below A2 hW'; have b0 := cell_below B0 hW'; have b1 := cell_below B1 hW'; have b2 := cell_below B2 hW'; go_simp; rfl)
    simp only [Act.put, List.setIfInBounds_toArray, List.set_cons_succ, List.set_cons_zero]
    refine anyC_take (i := 34) ?v34 rfl rfl (by kernel_rfl) (by kernel_rfl) (by kernel_rfl) (fun _ _ _ h => h) hC4 ⟨.inl ⟨by kernel_rfl, fun W' hW' => ?y34⟩, fun _ => rfl⟩ ?_
    case y34 => (have p0 := cell_below P0 hW'; have p1 := cell_below P1 hW'; have p2 := cell_below P2 hW'; have q0 := cell_below Q0 hW'; have q1 := cell_below Q1 hW'; have q2 := cell_below Q2 hW'; have a0 := cell_below A0 hW'; have a1 := cell_below A1 hW'; have a2 := cell_below A2 hW'; have b0 := cell_below B0 hW'; have b1 := cell_below B1 hW'; have b2 := cell_below B2 hW'; go_simp; rfl)
    simp only [Act.put, List.setIfInBounds_toArray, List.set_cons_succ, List.set_cons_zero]
    refine anyC_take (i := 35) ?v35 rfl rfl (by kernel_rfl) (by kernel_rfl) (by kernel_rfl) (fun _ _ _ h => h) hC4 ⟨.inl ⟨by kernel_rfl, fun W' hW' => ?y35⟩, fun _ => rfl⟩ ?_
    case y35 => (have p0 := cell_below P0 hW'; have p1 := cell_below P1 hW'; have p2 := cell_below P2 hW'; have q0 := cell_below Q0 hW'; have q1 := cell_below Q1 hW'; have q2 := cell_below Q2 hW'; have a0 := cell_below A0 hW'; have a1 := cell_below A1 hW'; have a2 := cell_below A2 hW'; have b0 := cell_below B0 hW'; have b1 := cell_below B1 hW'; have b2 := cell_below B2 hW'; go_simp; rfl)
    simp only [Act.put, List.setIfInBounds_toArray, List.set_cons_succ, List.set_cons_zero]
    refine anyC_take (i := 36) ?v36 rfl rfl (by kernel_rfl) (by kernel_rfl) (by kernel_rfl) (fun _ _ _ h => h) hC4 ⟨.inl ⟨by kernel_rfl, fun W' hW' => ?y36⟩, fun _ => rfl⟩ ?_
    case y36 => (have p0 := cell_below P0 hW'; have p1 := cell_below P1 hW'; have p2 := cell_below P2 hW'; have q0 := cell_below Q0 hW'; have q1 := cell_below Q1 hW'; have q2 := cell_below Q2 hW'; have a0 := cell_below A0 hW'; have a1 := cell_below A1 hW'; have a2 := cell_below A2 hW'; have b0 := cell_below B0 hW'; have b1 := cell_below B1 hW'; have b2 := cell_below B2 hW'; go_simp; rfl)
    simp only [Act.put, List.setIfInBounds_toArray, List.set_cons_succ, List.set_cons_zero]
    refine anyC_onlyW (i := 37) (by kernel_rfl) rfl (by kernel_rfl) (fun K' hK' => ?_)
    go_simp
    refine ⟨trivial, rfl, (callsIn_wide.2 (refSame_pic rp.1 rp.1 _ _ _ (HA9.out.pic.below hC4) (HBx.out.pic.below hC4) Hrk.out)).mono ?_⟩
    rintro e x5 ⟨rfl, hx5⟩
    rw [d7]
    have hC5 : (fun W' : World => Below W0.heap.size W0 W') x5 := hC4.trans (hx5.mono hC4.size)
    refine hK' _ _ ⟨hC5, ?_⟩
    clear hK' K'
    refine anyC_take (i := 38) ?v38 rfl rfl (by kernel_rfl) (by kernel_rfl) (by kernel_rfl) (fun _ _ _ h => h) hC5 ⟨.inl ⟨by kernel_rfl, fun W' hW' => ?y38⟩, fun _ => rfl⟩ ?_
    case y38 => (have p0 := cell_below P0 hW'; have p1 := cell_below P1 hW'; have p2 := cell_below P2 hW'; have q0 := cell_below Q0 hW'; have q1 := cell_below Q1 hW'; have q2 := cell_below Q2 hW'; have a0 := cell_below A0 hW'; have a1 := cell_below A1 hW'; have a2 := cell_below A2 hW'; have b0 := cell_below B0 hW'; have b1 := cell_below B1 hW'; have b2 := cell_below B2 hW'; go_simp; rfl)
    simp only [Act.put, List.setIfInBounds_toArray, List.set_cons_succ, List.set_cons_zero]
    refine anyC_take (i := 39) ?v39 rfl rfl (by kernel_rfl) (by kernel_rfl) (by kernel_rfl) (fun _ _ _ h => h) hC5 ⟨.inl ⟨by kernel_rfl, fun W' hW' => ?y39⟩, fun _ => rfl⟩ ?_
    case y39 => (have p0 := cell_below P0 hW'; have p1 := cell_below P1 hW'; have p2 := cell_below P2 hW'; have q0 := cell_below Q0 hW'; have q1 := cell_below Q1 hW'; have q2 := cell_below Q2 hW'; have a0 := cell_below A0 hW'; have a1 := cell_below A1 hW'; have a2 := cell_below A2 hW'; have b0 := cell_below B0 hW'; have b1 := cell_below B1 hW'; have b2 := cell_below B2 hW'; go_simp; rfl)
    simp only [Act.put, List.setIfInBounds_toArray, List.set_cons_succ, List.set_cons_zero]
    refine anyC_take (i := 40) ?v40 rfl rfl (by kernel_rfl) (by kernel_rfl) (by kernel_rfl) (fun _ _ _ h => h) hC5 ⟨.inl ⟨by kernel_rfl, fun W' hW' => ?y40⟩, fun _ => rfl⟩ ?_
    case y40 => (have p0 := cell_below P0 hW'; have p1 := cell_below P1 hW'; have p2 := cell_below P2 hW'; have q0 := cell_below Q0 hW'; have q1 := cell_below Q1 hW'; have q2 := cell_below Q2 hW'; have a0 := cell_below A0 hW'; have a1 := cell_below A1 hW'; have a2 := cell_below A2 hW'; have b0 := cell_below B0 hW'; have b1 := cell_below B1 hW'; have b2 := cell_below B2 hW'; go_simp; rfl)
    simp only [Act.put, List.setIfInBounds_toArray, List.set_cons_succ, List.set_cons_zero]
    refine anyC_take (i := 41) ?v41 rfl rfl (by kernel_rfl) (by kernel_rfl) (by kernel_rfl) (fun _ _ _ h => h) hC5 ⟨.inl ⟨by kernel_rfl, fun W' hW' => ?y41⟩, fun _ => rfl⟩ ?_
    case y41 => (have p0 := cell_below P0 hW'; have p1 := cell_below P1 hW'; have p2 := cell_below P2 hW'; have q0 := cell_below Q0 hW'; have q1 := cell_below Q1 hW'; have q2 := cell_below Q2 hW'; have a0 := cell_below A0 hW'; have a1 := cell_below A1 hW'; have a2 := cell_below A2 hW'; have b0 := cell_below B0 hW'; have b1 := cell_below B1 hW'; have b2 := cell_below B2 hW'; go_simp; rfl)
    simp only [Act.put, List.setIfInBounds_toArray, List.set_cons_succ, List.set_cons_zero]
    refine anyC_take (i := 42) ?v42 rfl rfl (by kernel_rfl) (by kernel_rfl) (by kernel_rfl) (fun _ _ _ h => h) hC5 ⟨.inl ⟨by kernel_rfl, fun W' hW' => ?y42⟩, fun _ => rfl⟩ ?_
    case y42 => (have p0 := cell_below P0 hW'; have p1 := cell_below P1 hW'; have p2 := cell_below P2 hW'; have q0 := cell_below Q0 hW'; have q1 := cell_below Q1 hW'; have q2 := cell_below Q2 hW'; have a0 := cell_below A0 hW'; have a1 := cell_below A1 hW'; have a2 := cell_below A2 hW'; have b0 := cell_below B0 hW'; have b1 := cell_below B1 hW'; have b2 := cell_below B2 hW'; go_simp; rfl)
    simp only [Act.put, List.setIfInBounds_toArray, List.set_cons_succ, List.set_cons_zero]
    refine anyC_take (i := 43) ?v43 rfl rfl (by kernel_rfl) (by kernel_rfl) (by kernel_rfl) (fun _ _ _ h => h) hC5 ⟨.inl ⟨by kernel_rfl, fun W' hW' => ?y43⟩, fun _ => rfl⟩ ?_
    case y43 => (have p0 := cell_below P0 hW'; have p1 := cell_below P1 hW'; have p2 := cell_below P2 hW'; have q0 := cell_below Q0 hW'; have q1 := cell_below Q1 hW'; have q2 := cell_below Q2 hW'; have a0 := cell_below A0 hW'; have a1 := cell_below A1 hW'; have a2 := cell_below A2 hW'; have b0 := cell_below B0 hW'; have b1 := cell_below B1 hW'; have b2 := cell_below B2 hW'; go_simp; rfl)
    simp only [Act.put, List.setIfInBounds_toArray, List.set_cons_succ, List.set_cons_zero]
    refine anyC_take (i := 44) ?v44 rfl rfl (by kernel_rfl) (by kernel_rfl) (by kernel_rfl) (fun _ _ _ h => h) hC5 ⟨.inl ⟨by kernel_rfl, fun W' hW' => ?y44⟩, fun _ => rfl⟩ ?_
    case y44 => (have p0 := cell_below P0 hW'; have p1 := cell_below P1 hW'; have p2 := cell_below P2 hW'; have q0 := cell_below Q0 hW'; have q1 := cell_below Q1 hW'; have q2 := cell_below Q2 hW'; have a0 := cell_below A0 hW'; have a1 := cell_below A1 hW'; have a2 := cell_below A2 hW'; have b0 := cell_below B0 hW'; have b1 := cell_below B1 hW'; have b2 := cell_below B2 hW'; go_simp; rfl)
    simp only [Act.put, List.setIfInBounds_toArray, List.set_cons_succ, List.set_cons_zero]
    refine anyC_done (by kernel_rfl) ?_
    go_wp2_with fail
    go_meet
    exact ⟨rfl, hC5⟩
  case rest =>
    obtain ⟨rfl, hB10⟩ := hcut
    obtain ⟨w10, rfl⟩ : ∃ w10 : World, w10 = wc := ⟨_, rfl⟩
    have hBw10 := below_then hBw9 hB10
    have HP10 := Lib.hid (HP9.out.below hB10)
    have HF10 := Lib.hid (HF9.out.below hB10)
    clear HP9 HQ9 HF9 HA9 HBx P0 P1 P2 Q0 Q1 Q2 A0 A1 A2 B0 B1 B2 d1 d2 d3 d4 d5 d6 d7 hB10
    by_cases hc : ck = 0
    · have e1 : (ck == 0) = true := by simpa using hc
      obtain ⟨s, hs⟩ := chkE_right (Hck.out.trans hc)
      have hfp : (freeP p).1 = freeL s.tk p.size.toNat := by unfold freeP; rw [hs]
      obtain ⟨hok, -, -, -⟩ := open_rep hs
      have hsz := hok.size
      obtain ⟨z, hz⟩ := Int.eq_ofNat_of_zero_le (show 0 ≤ p.size by omega)
      have hzt : p.size.toNat = z := by omega
      have hzl : z ≤ 1000000 := by omega
      have Hz := Lib.hid hz
      have Hs := Lib.hid hs
      rw [hzt] at hfp
      rw [hfp] at HF10 ⊢
      have HP11 := HP10
      rw [hz] at HP11
      have p0 := HP11.out.c0; have p1 := HP11.out.c1; have p2 := HP11.out.c2
      clear hc hs hfp hok hsz hzt hz
      go_wp2_with fail
      refine (refFree_of HH.out p s z _ _ HP11.out.pic Hok.out Hs.out hzl).mono ?_
      rintro e w11 ⟨⟨Ag, kg, rfl, hg⟩, hB11⟩
      have HG := Lib.hid hg
      have HF11 := Lib.hid (HF10.out.below hB11)
      have hBw11 := below_then hBw10 hB11
      clear hg p0 p1 p2
      go_wp2_with fail
      refine (sanity_any _).mono ?_
      rintro e w12 ⟨rfl, hB12⟩
      have HG12 := Lib.hid (HG.out.below hB12)
      have HF12 := Lib.hid (HF11.out.below hB12)
      have hBw12 := below_then hBw11 hB12
      have hln : (freeL s.tk z).length ≤ 1099511627776 := by
        have h1 := freeL_length s.tk z
        have h2 := (open_rep Hs.out).2.2.2.1
        have h3 := (ok_of_open Hs.out).size
        omega
      have Hln := Lib.hid hln
      clear hln
      go_wp2_with fail
      refine (refSameE_any (freeL s.tk z) (freeL s.tk z) Af Ag kf kg _ Hln.out HF12.out HG12.out).mono ?_
      rintro e w13 ⟨rfl, hB13⟩
      have e9 : decide (freeL s.tk z = freeL s.tk z) = true := by simp
      rw [e9]
      clear e9
      go_wp2_with fail
      go_ret
      exact ⟨rfl, below_then hBw12 hB13⟩
    · have e1 : (ck == 0) = false := by simpa using hc
      have hfp : (freeP p).1 = [] := by
        unfold freeP
        cases ho : openL p with
        | none => rfl
        | some s => exact absurd (Hck.out.symm.trans (chkE_some ho)) hc
      rw [hfp] at HF10 ⊢
      clear hc hfp
      go_wp2_with fail
      refine (sanity_any _).mono ?_
      rintro e w12 ⟨rfl, hB12⟩
      have HF12 := Lib.hid (HF10.out.below hB12)
      have hBw12 := below_then hBw10 hB12
      go_wp2_with fail
      refine (refSameE_any [] [] Af none kf 0 _ (by decide) HF12.out (fun k hk => by simp at hk)).mono ?_
      rintro e w13 ⟨rfl, hB13⟩
      have e9 : decide (([] : List Ext) = []) = true := by simp
      rw [e9]
      clear e9
      go_wp2_with fail
      go_ret
      exact ⟨rfl, below_then hBw12 hB13⟩
end
end Go.Proofs.Yteipclnlfanfeaa
