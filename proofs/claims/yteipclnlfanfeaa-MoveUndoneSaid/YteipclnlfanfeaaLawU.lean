import Derived.Test.YteipclnlfanfeaaBaseK
set_option linter.unusedVariables false
set_option linter.unusedSimpArgs false
/- MoveUndone: the walk. -/
namespace Go.Proofs.Yteipclnlfanfeaa
open Go.RowKit

/-- a picture in its box -/
structure PBox (nb : Nat) (v0 v1 v2 : Value) (p : Pic) (W : World) : Prop where
  box : W.heap[nb]? = some (.cells #[v0, v1, v2] 25 (0, 0))
  pic : PicC W (.agg #[v0, v1, v2]) p
theorem PBox.below {nb : Nat} {v0 v1 v2 : Value} {p : Pic} {W W' : World} (h : PBox nb v0 v1 v2 p W) (hB : Below W.heap.size W W') : PBox nb v0 v1 v2 p W' := ⟨block_below h.box hB, h.pic.below hB⟩
theorem PBox.c0 {nb : Nat} {v0 v1 v2 : Value} {p : Pic} {W : World} (h : PBox nb v0 v1 v2 p W) : W.cell? ⟨nb, 0, none⟩ = some v0 := by simpa using cell_at h.box 0
theorem PBox.c1 {nb : Nat} {v0 v1 v2 : Value} {p : Pic} {W : World} (h : PBox nb v0 v1 v2 p W) : W.cell? ⟨nb, 1, none⟩ = some v1 := by simpa using cell_at h.box 1
theorem PBox.c2 {nb : Nat} {v0 v1 v2 : Value} {p : Pic} {W : World} (h : PBox nb v0 v1 v2 p W) : W.cell? ⟨nb, 2, none⟩ = some v2 := by simpa using cell_at h.box 2
/-- a step in its box -/
structure SBox (nb : Nat) (x : Step) (W : World) : Prop where
  box : W.heap[nb]? = some (.cells #[.int .i64 x.no, .int .i64 x.from_, .int .i64 x.to, .int .i64 x.many] 35 (0, 0))
theorem SBox.below {nb : Nat} {x : Step} {W W' : World} (h : SBox nb x W) (hB : Below W.heap.size W W') : SBox nb x W' := ⟨block_below h.box hB⟩
theorem SBox.c0 {nb : Nat} {x : Step} {W : World} (h : SBox nb x W) : W.cell? ⟨nb, 0, none⟩ = some (.int .i64 x.no) := by simpa using cell_at h.box 0
theorem SBox.c1 {nb : Nat} {x : Step} {W : World} (h : SBox nb x W) : W.cell? ⟨nb, 1, none⟩ = some (.int .i64 x.from_) := by simpa using cell_at h.box 1
theorem SBox.c2 {nb : Nat} {x : Step} {W : World} (h : SBox nb x W) : W.cell? ⟨nb, 2, none⟩ = some (.int .i64 x.to) := by simpa using cell_at h.box 2
theorem SBox.c3 {nb : Nat} {x : Step} {W : World} (h : SBox nb x W) : W.cell? ⟨nb, 3, none⟩ = some (.int .i64 x.many) := by simpa using cell_at h.box 3

/-- what the law holds in its boxes -/
structure UIn (nb : Nat) (v0 v1 v2 : Value) (p : Pic) (x y : Step) (W : World) : Prop where
  p : PBox nb v0 v1 v2 p W
  x : SBox (nb + 1) x W
  y : SBox (nb + 1 + 1) y W
theorem UIn.below {nb : Nat} {v0 v1 v2 : Value} {p : Pic} {x y : Step} {W W' : World} (h : UIn nb v0 v1 v2 p x y W) (hB : Below W.heap.size W W') : UIn nb v0 v1 v2 p x y W' := ⟨h.p.below hB, h.x.below hB, h.y.below hB⟩
theorem UIn.drew {nb : Nat} {v0 v1 v2 : Value} {p : Pic} {x y : Step} {W : World} (h : UIn nb v0 v1 v2 p x y W) : UIn nb v0 v1 v2 p x y W.drew := h.below (Below.refl _ _).drew

theorem chkE_bad {p : Pic} (h : chkE p ≠ 0) : (chkE p != 0) = true := by simpa using h
theorem chkE_open {p : Pic} (h : chkE p = 0) : ∃ s, openL p = some s := by
  unfold chkE at h
  cases ho : openL p with
  | none => rw [ho] at h; simp at h
  | some s => exact ⟨s, rfl⟩

theorem PBox.fil {nb : Nat} {v0 v1 : Value} {Fa : Option Addr} {n cf : Nat} {p : Pic} {W : World} (h : PBox nb v0 v1 (.slice Fa n cf) p W) : FilC W Fa p.files := by
  obtain ⟨Ax', cx', Fa', cf', e, -, hF⟩ := h.pic
  cases e
  exact hF
theorem cells3 {W : World} {b : Nat} {u0 u1 u2 : Value} {t : TypeId} (h : W.heap[b]? = some (.cells #[u0, u1, u2] t (0, 0))) (x y z : Value) :
    (((W.setCell ⟨b, 0, none⟩ x).setCell ⟨b, 1, none⟩ y).setCell ⟨b, 2, none⟩ z).heap[b]? = some (.cells #[x, y, z] t (0, 0)) := by
  have e1 := heap_setCell_at (o := 0) h x
  have e2 := heap_setCell_at (o := 1) e1 y
  have e3 := heap_setCell_at (o := 2) e2 z
  simpa using e3
theorem kept3 {W : World} {b : Nat} {u0 u1 u2 : Value} (h : W.heap[b]? = some (.cells #[u0, u1, u2] 25 (0, 0))) (x y z : Value) {v : Value} {p : Pic} (hp : PicD W v p) :
    PicD (((W.setCell ⟨b, 0, none⟩ x).setCell ⟨b, 1, none⟩ y).setCell ⟨b, 2, none⟩ z) v p := by
  refine hp.kept fun k c t f hk ht => ?_
  have hne : k ≠ b := fun e => by subst e; rw [h] at hk; cases hk; revert ht; decide
  exact ((Below.heap_setCell _ _ _ _ hne).trans ((Below.heap_setCell _ _ _ _ hne).trans (Below.heap_setCell _ _ _ _ hne))).trans hk

set_option maxRecDepth 100000 in
set_option maxHeartbeats 8000000 in
theorem undone_any (p : Pic) (x y : Step) (v : Value) (w : World) (hp : PicC w v p) :
    Calls Try.prog 6 #[v, vSt x, vSt y] w fun e w' => e = .returned (.bool true) ∧ Below w.heap.size w w' := by
  have hmx : Try.prog.follows .mixedOrders = true := by kernel_rfl
  have hp' := hp
  obtain ⟨Ax, cx, Fa, cf, rfl, -, -⟩ := hp'
  have hB0 := below_alloc (below_alloc (below_alloc (Below.refl _ w) (.cells #[.int .i64 p.size, .slice Ax p.fixed.length cx, .slice Fa p.files.length cf] 25)) (.cells #[.int .i64 x.no, .int .i64 x.from_, .int .i64 x.to, .int .i64 x.many] 35)) (.cells #[.int .i64 y.no, .int .i64 y.from_, .int .i64 y.to, .int .i64 y.many] 35)
  have hU : UIn w.heap.size (.int .i64 p.size) (.slice Ax p.fixed.length cx) (.slice Fa p.files.length cf) p x y (((w.alloc (.cells #[.int .i64 p.size, .slice Ax p.fixed.length cx, .slice Fa p.files.length cf] 25)).alloc (.cells #[.int .i64 x.no, .int .i64 x.from_, .int .i64 x.to, .int .i64 x.many] 35)).alloc (.cells #[.int .i64 y.no, .int .i64 y.from_, .int .i64 y.to, .int .i64 y.many] 35)) :=
    ⟨⟨heap_alloc_old' (heap_alloc_old' (World.alloc_heap_new w _) _) _, hp.below hB0⟩, ⟨heap_alloc_old' (heap_new (w.alloc (.cells #[.int .i64 p.size, .slice Ax p.fixed.length cx, .slice Fa p.files.length cf] 25)) _ (by simp)) _⟩, ⟨heap_new ((w.alloc (.cells #[.int .i64 p.size, .slice Ax p.fixed.length cx, .slice Fa p.files.length cf] 25)).alloc (.cells #[.int .i64 x.no, .int .i64 x.from_, .int .i64 x.to, .int .i64 x.many] 35)) _ (by simp)⟩⟩
  have HU0 := Lib.hid hU
  have hpic0 := hp.below hB0
  clear hU hp
  go_enter Try.func6, Try.ntmps6
  go_wp2_with fail
  obtain ⟨nb, hnb⟩ : ∃ nb, w.heap.size = nb := ⟨_, rfl⟩
  obtain ⟨w0, hw0⟩ : ∃ w0, ((w.alloc (.cells #[.int .i64 p.size, .slice Ax p.fixed.length cx, .slice Fa p.files.length cf] 25)).alloc (.cells #[.int .i64 x.no, .int .i64 x.from_, .int .i64 x.to, .int .i64 x.many] 35)).alloc (.cells #[.int .i64 y.no, .int .i64 y.from_, .int .i64 y.to, .int .i64 y.many] 35) = w0 := ⟨_, rfl⟩
  rw [hw0, hnb] at HU0
  rw [hw0] at hB0 hpic0 ⊢
  rw [hnb]
  clear hw0 hnb
  refine (few_any p _ _ hpic0).mono ?_
  rintro e w1 ⟨rfl, hB1⟩
  have hBw1 := below_then hB0 hB1
  have HU1 := Lib.hid (HU0.out.below hB1)
  cases hfew : fewB p with
  | false =>
    go_wp2_with fail
    refine (sanity_any _).mono ?_
    rintro e w2 ⟨rfl, hB2⟩
    go_wp2_with fail
    go_ret
    exact ⟨rfl, below_then hBw1 hB2⟩
  | true =>
  have hok := few_ok hfew
  have Hok := Lib.hid hok
  clear hfew hok
  have c0 := HU1.out.p.c0; have c1 := HU1.out.p.c1; have c2 := HU1.out.p.c2; have x0 := HU1.out.x.c0; have x1 := HU1.out.x.c1; have x2 := HU1.out.x.c2; have x3 := HU1.out.x.c3; have y0 := HU1.out.y.c0; have y1 := HU1.out.y.c1; have y2 := HU1.out.y.c2; have y3 := HU1.out.y.c3
  go_wp2_with fail
  refine (check_any p _ _ HU1.out.p.pic Hok.out).mono ?_
  rintro e w2 ⟨rfl, hB2⟩
  have hBw2 := below_then hBw1 hB2
  have HU2 := Lib.hid (HU1.out.below hB2)
  clear c0 c1 c2 x0 x1 x2 x3 y0 y1 y2 y3
  by_cases hck : chkE p = 0
  rotate_left
  · have d1 := chkE_bad hck
    have Hck := Lib.hid hck
    clear hck
    go_wp2_with fail
    refine (sanity_any _).mono ?_
    rintro e w3 ⟨rfl, hB3⟩
    go_wp2_with fail
    go_ret
    exact ⟨rfl, below_then hBw2 hB3⟩
  obtain ⟨s, hopen⟩ := chkE_open hck
  rw [hck]
  have Hopen := Lib.hid hopen
  clear hck hopen
  have c0 := HU2.out.p.c0; have c1 := HU2.out.p.c1; have c2 := HU2.out.p.c2; have x0 := HU2.out.x.c0; have x1 := HU2.out.x.c1; have x2 := HU2.out.x.c2; have x3 := HU2.out.x.c3; have y0 := HU2.out.y.c0; have y1 := HU2.out.y.c1; have y2 := HU2.out.y.c2; have y3 := HU2.out.y.c3
  go_wp2_with fail
  refine (apply_pic p x _ _ HU2.out.p.pic Hok.out).mono ?_
  rintro e w3 ⟨⟨u, rfl, hu⟩, hB3⟩
  have hBw3 := below_then hBw2 hB3
  have HU3 := Lib.hid (HU2.out.below hB3)
  clear c0 c1 c2 x0 x1 x2 x3 y0 y1 y2 y3
  cases hax : applyL s x with
  | error er =>
    have hrun := runP_error Hopen.out hax
    have hne := applyL_error_ne hax
    rw [hrun] at hu ⊢
    have d1 : (er != 0) = true := by simpa using hne
    obtain ⟨Ax1, cx1, Fa1, cf1, F1, rfl, -, -⟩ := hu
    have Hne := Lib.hid hne
    clear hne hrun hax
    have hB4 := below_alloc (Below.refl _ w3) (.cells #[.int .i64 picZ.size, .slice Ax1 picZ.fixed.length cx1, .slice Fa1 picZ.files.length cf1] 25)
    have hbx := World.alloc_heap_new w3 (.cells #[.int .i64 picZ.size, .slice Ax1 picZ.fixed.length cx1, .slice Fa1 picZ.files.length cf1] 25)
    have Hbx := Lib.hid hbx
    clear hbx
    dsimp only at *
    go_wp2_with fail
    refine (sanity_any _).mono ?_
    rintro e w5 ⟨rfl, hB5⟩
    have b2 := cell_at (block_below Hbx.out hB5) 2
    simp only [List.getElem?_toArray, List.getElem?_cons_zero, List.getElem?_cons_succ] at b2
    have hz : picZ.files.length = 0 := rfl
    rw [hz] at b2
    go_wp2_with fail
    go_ret
    exact ⟨rfl, below_then hBw3 (below_then hB4 hB5)⟩
  | ok s1 =>
  have hrun := runP_ok Hopen.out hax
  rw [hrun] at hu ⊢
  obtain ⟨Ax1, cx1, Fa1, cf1, F1, rfl, hu1, hu2⟩ := hu
  obtain ⟨hinv, hpics, hsteps⟩ := inv_open Hopen.out
  obtain ⟨k, f, m, hmade⟩ := made hinv hax
  have Hmade := Lib.hid hmade; have Hinv := Lib.hid hinv; have Hpics := Lib.hid hpics
  have hB4 := below_alloc (Below.refl _ w3) (.cells #[.int .i64 s1.pic.size, .slice Ax1 s1.pic.fixed.length cx1, .slice Fa1 s1.pic.files.length cf1] 25)
  have HA4 : Hid (PBox w3.heap.size (.int .i64 s1.pic.size) (.slice Ax1 s1.pic.fixed.length cx1) (.slice Fa1 s1.pic.files.length cf1) s1.pic (w3.alloc (.cells #[.int .i64 s1.pic.size, .slice Ax1 s1.pic.fixed.length cx1, .slice Fa1 s1.pic.files.length cf1] 25))) :=
    Lib.hid ⟨World.alloc_heap_new _ _, PicC.below ⟨Ax1, cx1, Fa1, cf1, rfl, hu1.c, hu2.c⟩ hB4⟩
  have HU4 := Lib.hid (HU3.out.below hB4)
  have hBw4 := below_then hBw3 hB4
  have Hax := Lib.hid hax
  clear hu1 hu2 hrun hax hsteps hpics hmade hinv
  dsimp only
  go_wp2_with fail
  obtain ⟨na, hna⟩ : ∃ na, w3.heap.size = na := ⟨_, rfl⟩
  obtain ⟨w4, hw4⟩ : ∃ w4, w3.alloc (.cells #[.int .i64 s1.pic.size, .slice Ax1 s1.pic.fixed.length cx1, .slice Fa1 s1.pic.files.length cf1] 25) = w4 := ⟨_, rfl⟩
  rw [hw4, hna] at HA4
  rw [hw4] at HU4 hBw4 ⊢
  rw [hna]
  clear hw4 hna hB4
  have e := Hpics.out; subst e
  have hsl : s.pic.files.length ≤ 200 := Hmade.out.inv.ok.nfil
  go_loopw [9, 10] (fun fr i wr => ∃ j : Nat, j ≤ s.pic.files.length ∧ i = .int .i64 j ∧ (∃ fv : Int, fr = .int .i64 fv ∧ Hid (fv = if k < j then f else -1)) ∧ Below w4.heap.size w4 wr) (fun _ i _ => s.pic.files.length - (intOf i).toNat)
  case atStart => exact ⟨0, by omega, by simp, ⟨-1, rfl, Lib.hid rfl⟩, Below.refl _ _⟩
  case round =>
    obtain ⟨j, hj, rfl, ⟨fv, rfl, HF⟩, hBr⟩ := hrel
    have HUr := Lib.hid (HU4.out.below hBr)
    have c0 := HUr.out.p.c0; have c1 := HUr.out.p.c1; have c2 := HUr.out.p.c2; have x0 := HUr.out.x.c0; have x1 := HUr.out.x.c1; have x2 := HUr.out.x.c2; have x3 := HUr.out.x.c3; have y0 := HUr.out.y.c0; have y1 := HUr.out.y.c1; have y2 := HUr.out.y.c2; have y3 := HUr.out.y.c3
    by_cases hlt : j < s.pic.files.length
    · obtain ⟨b, o, A', c', rfl, g0, g1, g2⟩ := HUr.out.p.fil j hlt
      have hu := HUr.out.p.pic
      by_cases hno : s.pic.files[j].no = x.no
      · obtain rfl : j = k := by
          have h1 := fileI_of (filOk_iff.1 Hmade.out.inv.ok.fil).1 hlt
          rw [hno, Hmade.out.ix] at h1; omega
        have hdd : (s.pic.files[j].no == x.no) = true := by simp [hno]
        have Hg := Lib.hid g2
        have Hmu := Lib.hid ((filOk_iff.1 Hmade.out.inv.ok.fil).2 _ (List.getElem_mem hlt)).1
        have Hrn := Lib.hid (runsOf_mem hlt).1
        have Hno := Lib.hid hno
        clear hno g2
        go_wp2_with fail
        go_quiet (fail)
        go_wp2_with fail
        clear c0 c1 c2 x0 x1 x2 x3 y0 y1 y2 y3
        refine wp_region_anyC (C := (fun W' : World => UIn nb (.int .i64 s.pic.size) (.slice Ax s.pic.fixed.length cx) (.slice (some ⟨b, o, none⟩) s.pic.files.length cf) s.pic x y W' ∧ W'.cell? ⟨b, o + j * 2 + 1, none⟩ = some (.slice A' s.pic.files[j].runs.length c') ∧ RunsC W' A' s.pic.files[j].runs)) hmx ?_
        have hDq : Below wr.heap.size wr (wr.drewN nq).drew := (below_dr (Below.refl _ _) nq).drew
        have hCw : (fun W' : World => UIn nb (.int .i64 s.pic.size) (.slice Ax s.pic.fixed.length cx) (.slice (some ⟨b, o, none⟩) s.pic.files.length cf) s.pic x y W' ∧ W'.cell? ⟨b, o + j * 2 + 1, none⟩ = some (.slice A' s.pic.files[j].runs.length c') ∧ RunsC W' A' s.pic.files[j].runs) (wr.drewN nq).drew := ⟨HUr.out.below hDq, cell_below g1 hDq, Hg.out.below hDq⟩
        refine anyC_take (i := 0) ?v0r rfl rfl (by kernel_rfl) (by kernel_rfl) (by kernel_rfl) (fun _ _ _ h => h) hCw ⟨.inl ⟨by kernel_rfl, fun W' hW' => ?y0r⟩, fun _ => rfl⟩ ?_
        case y0r => (obtain ⟨hU, hG⟩ := hW'; have q0 := hU.p.c0; have q1 := hU.p.c1; have q2 := hU.p.c2; have x0 := hU.x.c0; have x1 := hU.x.c1; have x2 := hU.x.c2; have x3 := hU.x.c3; go_simp; rfl)
        simp only [Act.put, List.setIfInBounds_toArray, List.set_cons_succ, List.set_cons_zero]
        refine anyC_take (i := 1) ?v1r rfl rfl (by kernel_rfl) (by kernel_rfl) (by kernel_rfl) (fun _ _ _ h => h) hCw ⟨.inl ⟨by kernel_rfl, fun W' hW' => ?y1r⟩, fun _ => rfl⟩ ?_
        case y1r => (obtain ⟨hU, hG⟩ := hW'; have q0 := hU.p.c0; have q1 := hU.p.c1; have q2 := hU.p.c2; have x0 := hU.x.c0; have x1 := hU.x.c1; have x2 := hU.x.c2; have x3 := hU.x.c3; go_simp; rfl)
        simp only [Act.put, List.setIfInBounds_toArray, List.set_cons_succ, List.set_cons_zero]
        refine anyC_take (i := 2) ?v2r rfl rfl (by kernel_rfl) (by kernel_rfl) (by kernel_rfl) (fun _ _ _ h => h) hCw ⟨.inl ⟨by kernel_rfl, fun W' hW' => ?y2r⟩, fun _ => rfl⟩ ?_
        case y2r => (obtain ⟨hU, hG⟩ := hW'; have q0 := hU.p.c0; have q1 := hU.p.c1; have q2 := hU.p.c2; have x0 := hU.x.c0; have x1 := hU.x.c1; have x2 := hU.x.c2; have x3 := hU.x.c3; go_simp; rfl)
        simp only [Act.put, List.setIfInBounds_toArray, List.set_cons_succ, List.set_cons_zero]
        refine anyC_take (i := 3) ?v3r rfl rfl (by kernel_rfl) (by kernel_rfl) (by kernel_rfl) (fun _ _ _ h => h) hCw ⟨.inl ⟨by kernel_rfl, fun W' hW' => ?y3r⟩, fun _ => rfl⟩ ?_
        case y3r => (obtain ⟨hU, hG⟩ := hW'; have q0 := hU.p.c0; have q1 := hU.p.c1; have q2 := hU.p.c2; have x0 := hU.x.c0; have x1 := hU.x.c1; have x2 := hU.x.c2; have x3 := hU.x.c3; go_simp; rfl)
        simp only [Act.put, List.setIfInBounds_toArray, List.set_cons_succ, List.set_cons_zero]
        refine anyC_take (i := 4) ?v4r rfl rfl (by kernel_rfl) (by kernel_rfl) (by kernel_rfl) (fun _ _ _ h => h) hCw ⟨.inl ⟨by kernel_rfl, fun W' hW' => ?y4r⟩, fun _ => rfl⟩ ?_
        case y4r => (obtain ⟨hU, hG⟩ := hW'; have q0 := hU.p.c0; have q1 := hU.p.c1; have q2 := hU.p.c2; have x0 := hU.x.c0; have x1 := hU.x.c1; have x2 := hU.x.c2; have x3 := hU.x.c3; go_simp; rfl)
        simp only [Act.put, List.setIfInBounds_toArray, List.set_cons_succ, List.set_cons_zero]
        refine anyC_take (i := 5) ?v5r rfl rfl (by kernel_rfl) (by kernel_rfl) (by kernel_rfl) (fun _ _ _ h => h) hCw ⟨.inl ⟨by kernel_rfl, fun W' hW' => ?y5r⟩, fun _ => rfl⟩ ?_
        case y5r => (obtain ⟨hU, hG⟩ := hW'; have q0 := hU.p.c0; have q1 := hU.p.c1; have q2 := hU.p.c2; have x0 := hU.x.c0; have x1 := hU.x.c1; have x2 := hU.x.c2; have x3 := hU.x.c3; go_simp; rfl)
        simp only [Act.put, List.setIfInBounds_toArray, List.set_cons_succ, List.set_cons_zero]
        refine anyC_take (i := 6) ?v6r rfl rfl (by kernel_rfl) (by kernel_rfl) (by kernel_rfl) (fun _ _ _ h => h) hCw ⟨.inl ⟨by kernel_rfl, fun W' hW' => ?y6r⟩, fun _ => rfl⟩ ?_
        case y6r => (obtain ⟨hU, hG⟩ := hW'; have q0 := hU.p.c0; have q1 := hU.p.c1; have q2 := hU.p.c2; have x0 := hU.x.c0; have x1 := hU.x.c1; have x2 := hU.x.c2; have x3 := hU.x.c3; go_simp; rfl)
        simp only [Act.put, List.setIfInBounds_toArray, List.set_cons_succ, List.set_cons_zero]
        refine anyC_take (i := 7) ?v7r rfl rfl (by kernel_rfl) (by kernel_rfl) (by kernel_rfl) (fun _ _ _ h => h) hCw ⟨.inl ⟨by kernel_rfl, fun W' hW' => ?y7r⟩, fun _ => rfl⟩ ?_
        case y7r => (obtain ⟨hU, hG⟩ := hW'; have q0 := hU.p.c0; have q1 := hU.p.c1; have q2 := hU.p.c2; have x0 := hU.x.c0; have x1 := hU.x.c1; have x2 := hU.x.c2; have x3 := hU.x.c3; go_simp; rfl)
        simp only [Act.put, List.setIfInBounds_toArray, List.set_cons_succ, List.set_cons_zero]

        refine anyC_only (i := 8) (by kernel_rfl) (wpOpIn_step rfl (fun K' hK' => ?_))
        go_simp
        refine ⟨trivial, rfl, (callsIn_wide.2 (map_any s.pic.files[j].runs A' c' x.from_ _ Hmu.out hCw.2.2 Hmade.out.from_)).mono ?_⟩
        rintro e wA ⟨hres, hA⟩
        have hmp := Hmade.out.map
        rw [Hrn.out] at hmp
        rcases hres with ⟨f', m', hm, rfl⟩ | ⟨hm, rfl⟩
        rotate_left
        · rw [hmp] at hm; cases hm
        rw [hmp] at hm; cases hm
        have hDA := below_then hDq hA
        have hCA : (fun W' : World => UIn nb (.int .i64 s.pic.size) (.slice Ax s.pic.fixed.length cx) (.slice (some ⟨b, o, none⟩) s.pic.files.length cf) s.pic x y W' ∧ W'.cell? ⟨b, o + j * 2 + 1, none⟩ = some (.slice A' s.pic.files[j].runs.length c') ∧ RunsC W' A' s.pic.files[j].runs) wA := ⟨HUr.out.below hDA, cell_below g1 hDA, Hg.out.below hDA⟩
        refine hK' _ _ ⟨hCA, ?_⟩
        clear hK' K'
        refine anyC_take (i := 9) ?v9s rfl rfl (by kernel_rfl) (by kernel_rfl) (by kernel_rfl) (fun _ _ _ h => h) hCA ⟨.inl ⟨by kernel_rfl, fun W' hW' => ?y9s⟩, fun _ => rfl⟩ ?_
        case y9s => (skip; go_simp; rfl)
        simp only [Act.put, List.setIfInBounds_toArray, List.set_cons_succ, List.set_cons_zero]
        refine anyC_take (i := 10) ?v10s rfl rfl (by kernel_rfl) (by kernel_rfl) (by kernel_rfl) (fun _ _ _ h => h) hCA ⟨.inl ⟨by kernel_rfl, fun W' hW' => ?y10s⟩, fun _ => rfl⟩ ?_
        case y10s => (skip; go_simp; rfl)
        simp only [Act.put, List.setIfInBounds_toArray, List.set_cons_succ, List.set_cons_zero]
        refine anyC_take (i := 11) ?v11s rfl rfl (by kernel_rfl) (by kernel_rfl) (by kernel_rfl) (fun _ _ _ h => h) hCA ⟨.inl ⟨by kernel_rfl, fun W' hW' => ?y11s⟩, fun _ => rfl⟩ ?_
        case y11s => (skip; go_simp; rfl)
        simp only [Act.put, List.setIfInBounds_toArray, List.set_cons_succ, List.set_cons_zero]
        refine anyC_take (i := 12) ?v12s rfl rfl (by kernel_rfl) (by kernel_rfl) (by kernel_rfl) (fun _ _ _ h => h) hCA ⟨.inl ⟨by kernel_rfl, fun W' hW' => ?y12s⟩, fun _ => rfl⟩ ?_
        case y12s => (skip; go_simp; rfl)
        simp only [Act.put, List.setIfInBounds_toArray, List.set_cons_succ, List.set_cons_zero]
        refine anyC_take (i := 13) ?v13s rfl rfl (by kernel_rfl) (by kernel_rfl) (by kernel_rfl) (fun _ _ _ h => h) hCA ⟨.inl ⟨by kernel_rfl, fun W' hW' => ?y13s⟩, fun _ => rfl⟩ ?_
        case y13s => (skip; go_simp; rfl)
        simp only [Act.put, List.setIfInBounds_toArray, List.set_cons_succ, List.set_cons_zero]
        refine anyC_take (i := 14) ?v14s rfl rfl (by kernel_rfl) (by kernel_rfl) (by kernel_rfl) (fun _ _ _ h => h) hCA ⟨.inl ⟨by kernel_rfl, fun W' hW' => ?y14s⟩, fun _ => rfl⟩ ?_
        case y14s => (skip; go_simp; rfl)
        simp only [Act.put, List.setIfInBounds_toArray, List.set_cons_succ, List.set_cons_zero]
        refine anyC_take (i := 15) ?v15s rfl rfl (by kernel_rfl) (by kernel_rfl) (by kernel_rfl) (fun _ _ _ h => h) hCA ⟨.inl ⟨by kernel_rfl, fun W' hW' => ?y15s⟩, fun _ => rfl⟩ ?_
        case y15s => (skip; go_simp; rfl)
        simp only [Act.put, List.setIfInBounds_toArray, List.set_cons_succ, List.set_cons_zero]

        refine anyC_done (by kernel_rfl) ?_
        go_wp2_with fail
        refine ⟨⟨j + 1, by omega, by simp, ⟨f, rfl, Lib.hid ?_⟩, below_then hBr hDA⟩, by simp [intOf]; omega⟩
        rw [if_pos (by omega)]
      · have hdd : (s.pic.files[j].no == x.no) = false := by simp [hno]
        have Hno := Lib.hid hno
        clear hno
        go_wp2_with fail
        go_quiet (fail)
        go_wp2_with fail
        refine ⟨⟨j + 1, by omega, by simp, ⟨fv, rfl, Lib.hid ?_⟩, below_dr hBr _⟩, by simp [intOf]; omega⟩
        have hne : k ≠ j := fun e => by subst e; exact Hno.out Hmade.out.kno.2
        rw [HF.out]
        by_cases hkj : k < j
        · rw [if_pos hkj, if_pos (by omega)]
        · rw [if_neg hkj, if_neg (by omega)]
    · obtain rfl : j = s.pic.files.length := by omega
      have hfv : fv = f := by rw [HF.out, if_pos Hmade.out.kl]
      obtain rfl : f = fv := hfv.symm
      go_wp2_with fail
      clear c0 c1 c2 x0 x1 x2 x3 y0 y1 y2 y3
      have HAr := Lib.hid (HA4.out.below hBr)
      obtain ⟨s2, hud, hs2⟩ := undone Hmade.out
      have hrun2 := runP_after Hmade.out.inv1 hud
      rw [hs2] at hrun2
      clear hud hs2
      have Hrun2 := Lib.hid hrun2
      clear hrun2

      go_cut [14, 15] from 78 to 91 (fun q e wx => ∃ bz Ax2 cx2 Fa2 cf2, q = .pointer (some ⟨bz, 0, none⟩) ∧ e = .int .i64 0 ∧ PBox bz (.int .i64 s.pic.size) (.slice Ax2 s.pic.fixed.length cx2) (.slice Fa2 s.pic.files.length cf2) s.pic wx ∧ Below wr.heap.size wr wx)
      case first =>
        have hmk := Hrun2.out
        refine wp_region_anyC (C := (fun W' : World => UIn nb (.int .i64 s.pic.size) (.slice Ax s.pic.fixed.length cx) (.slice Fa s.pic.files.length cf) s.pic x y W' ∧ PBox na (.int .i64 s1.pic.size) (.slice Ax1 s1.pic.fixed.length cx1) (.slice Fa1 s1.pic.files.length cf1) s1.pic W')) hmx ?_
        have hDr : Below wr.heap.size wr wr.drew := (Below.refl _ _).drew
        have hCw : (fun W' : World => UIn nb (.int .i64 s.pic.size) (.slice Ax s.pic.fixed.length cx) (.slice Fa s.pic.files.length cf) s.pic x y W' ∧ PBox na (.int .i64 s1.pic.size) (.slice Ax1 s1.pic.fixed.length cx1) (.slice Fa1 s1.pic.files.length cf1) s1.pic W') wr.drew := ⟨HUr.out.below hDr, HAr.out.below hDr⟩
        refine anyC_take (i := 0) ?v0u rfl rfl (by kernel_rfl) (by kernel_rfl) (by kernel_rfl) (fun _ _ _ h => h) hCw ⟨.inl ⟨by kernel_rfl, fun W' hW' => ?y0u⟩, fun _ => rfl⟩ ?_
        case y0u => (obtain ⟨hU, hP⟩ := hW'; have x0 := hU.x.c0; have x1 := hU.x.c1; have x2 := hU.x.c2; have x3 := hU.x.c3; have q0 := hP.c0; have q1 := hP.c1; have q2 := hP.c2; go_simp; rfl)
        simp only [Act.put, List.setIfInBounds_toArray, List.set_cons_succ, List.set_cons_zero]
        refine anyC_take (i := 1) ?v1u rfl rfl (by kernel_rfl) (by kernel_rfl) (by kernel_rfl) (fun _ _ _ h => h) hCw ⟨.inl ⟨by kernel_rfl, fun W' hW' => ?y1u⟩, fun _ => rfl⟩ ?_
        case y1u => (obtain ⟨hU, hP⟩ := hW'; have x0 := hU.x.c0; have x1 := hU.x.c1; have x2 := hU.x.c2; have x3 := hU.x.c3; have q0 := hP.c0; have q1 := hP.c1; have q2 := hP.c2; go_simp; rfl)
        simp only [Act.put, List.setIfInBounds_toArray, List.set_cons_succ, List.set_cons_zero]
        refine anyC_take (i := 2) ?v2u rfl rfl (by kernel_rfl) (by kernel_rfl) (by kernel_rfl) (fun _ _ _ h => h) hCw ⟨.inl ⟨by kernel_rfl, fun W' hW' => ?y2u⟩, fun _ => rfl⟩ ?_
        case y2u => (obtain ⟨hU, hP⟩ := hW'; have x0 := hU.x.c0; have x1 := hU.x.c1; have x2 := hU.x.c2; have x3 := hU.x.c3; have q0 := hP.c0; have q1 := hP.c1; have q2 := hP.c2; go_simp; rfl)
        simp only [Act.put, List.setIfInBounds_toArray, List.set_cons_succ, List.set_cons_zero]
        refine anyC_take (i := 3) ?v3u rfl rfl (by kernel_rfl) (by kernel_rfl) (by kernel_rfl) (fun _ _ _ h => h) hCw ⟨.inl ⟨by kernel_rfl, fun W' hW' => ?y3u⟩, fun _ => rfl⟩ ?_
        case y3u => (obtain ⟨hU, hP⟩ := hW'; have x0 := hU.x.c0; have x1 := hU.x.c1; have x2 := hU.x.c2; have x3 := hU.x.c3; have q0 := hP.c0; have q1 := hP.c1; have q2 := hP.c2; go_simp; rfl)
        simp only [Act.put, List.setIfInBounds_toArray, List.set_cons_succ, List.set_cons_zero]
        refine anyC_take (i := 4) ?v4u rfl rfl (by kernel_rfl) (by kernel_rfl) (by kernel_rfl) (fun _ _ _ h => h) hCw ⟨.inl ⟨by kernel_rfl, fun W' hW' => ?y4u⟩, fun _ => rfl⟩ ?_
        case y4u => (obtain ⟨hU, hP⟩ := hW'; have x0 := hU.x.c0; have x1 := hU.x.c1; have x2 := hU.x.c2; have x3 := hU.x.c3; have q0 := hP.c0; have q1 := hP.c1; have q2 := hP.c2; go_simp; rfl)
        simp only [Act.put, List.setIfInBounds_toArray, List.set_cons_succ, List.set_cons_zero]
        refine anyC_take (i := 5) ?v5u rfl rfl (by kernel_rfl) (by kernel_rfl) (by kernel_rfl) (fun _ _ _ h => h) hCw ⟨.inl ⟨by kernel_rfl, fun W' hW' => ?y5u⟩, fun _ => rfl⟩ ?_
        case y5u => (obtain ⟨hU, hP⟩ := hW'; have x0 := hU.x.c0; have x1 := hU.x.c1; have x2 := hU.x.c2; have x3 := hU.x.c3; have q0 := hP.c0; have q1 := hP.c1; have q2 := hP.c2; go_simp; rfl)
        simp only [Act.put, List.setIfInBounds_toArray, List.set_cons_succ, List.set_cons_zero]
        refine anyC_take (i := 6) ?v6u rfl rfl (by kernel_rfl) (by kernel_rfl) (by kernel_rfl) (fun _ _ _ h => h) hCw ⟨.inl ⟨by kernel_rfl, fun W' hW' => ?y6u⟩, fun _ => rfl⟩ ?_
        case y6u => (obtain ⟨hU, hP⟩ := hW'; have x0 := hU.x.c0; have x1 := hU.x.c1; have x2 := hU.x.c2; have x3 := hU.x.c3; have q0 := hP.c0; have q1 := hP.c1; have q2 := hP.c2; go_simp; rfl)
        simp only [Act.put, List.setIfInBounds_toArray, List.set_cons_succ, List.set_cons_zero]
        refine anyC_take (i := 7) ?v7u rfl rfl (by kernel_rfl) (by kernel_rfl) (by kernel_rfl) (fun _ _ _ h => h) hCw ⟨.inl ⟨by kernel_rfl, fun W' hW' => ?y7u⟩, fun _ => rfl⟩ ?_
        case y7u => (obtain ⟨hU, hP⟩ := hW'; have x0 := hU.x.c0; have x1 := hU.x.c1; have x2 := hU.x.c2; have x3 := hU.x.c3; have q0 := hP.c0; have q1 := hP.c1; have q2 := hP.c2; go_simp; rfl)
        simp only [Act.put, List.setIfInBounds_toArray, List.set_cons_succ, List.set_cons_zero]
        refine anyC_two (i := 8) (j := 13) (by kernel_rfl) (wpOpIn_step rfl (fun K' hK' => ?_)) (wpOpIn_step rfl (fun K' hK' => ?_))
        · go_simp
          refine ⟨trivial, rfl, (callsIn_wide.2 (step_any x.no x.from_ f x.many _)).mono ?_⟩
          rintro e wAza ⟨rfl, hAza⟩
          have hDAza : Below wr.heap.size wr wAza := below_then hDr hAza
          have hCAza : (fun W' : World => UIn nb (.int .i64 s.pic.size) (.slice Ax s.pic.fixed.length cx) (.slice Fa s.pic.files.length cf) s.pic x y W' ∧ PBox na (.int .i64 s1.pic.size) (.slice Ax1 s1.pic.fixed.length cx1) (.slice Fa1 s1.pic.files.length cf1) s1.pic W') wAza := ⟨HUr.out.below hDAza, HAr.out.below hDAza⟩
          refine hK' _ _ ⟨hCAza, ?_⟩
          clear hK' K'
          refine anyC_two (i := 9) (j := 13) (by kernel_rfl) (wpOpIn_step rfl (fun K' hK' => ?_)) (wpOpIn_step rfl (fun K' hK' => ?_))
          · go_simp
            refine ⟨trivial, rfl, (callsIn_wide.2 (apply_pic s1.pic ⟨x.no, x.from_, f, x.many⟩ _ _ (HAr.out.below hDAza).pic Hmade.out.inv1.picOk)).mono ?_⟩
            rintro e wBzaa ⟨⟨u, rfl, hu⟩, hBzaa⟩
            rw [hmk] at hu ⊢
            obtain ⟨Ax2, cx2, Fa2, cf2, F', rfl, hxt, hft⟩ := hu
            have hDBzaa : Below wr.heap.size wr wBzaa := below_then hDAza hBzaa
            have hCBzaa : (fun W' : World => UIn nb (.int .i64 s.pic.size) (.slice Ax s.pic.fixed.length cx) (.slice Fa s.pic.files.length cf) s.pic x y W' ∧ PBox na (.int .i64 s1.pic.size) (.slice Ax1 s1.pic.fixed.length cx1) (.slice Fa1 s1.pic.files.length cf1) s1.pic W') wBzaa := ⟨HUr.out.below hDBzaa, HAr.out.below hDBzaa⟩
            refine hK' _ _ ⟨hCBzaa, ?_⟩
            clear hK' K'
            refine anyC_take (i := 10) ?v10zaa rfl rfl (by kernel_rfl) (by kernel_rfl) (by kernel_rfl) (fun _ _ _ h => h) hCBzaa ⟨.inl ⟨by kernel_rfl, fun W' hW' => ?y10zaa⟩, fun _ => rfl⟩ ?_
            case y10zaa => (skip; go_simp; rfl)
            simp only [Act.put, List.setIfInBounds_toArray, List.set_cons_succ, List.set_cons_zero]
            refine anyC_take (i := 11) ?v11zaa rfl rfl (by kernel_rfl) (by kernel_rfl) (by kernel_rfl) (fun _ _ _ h => h) hCBzaa ⟨.inl ⟨by kernel_rfl, fun W' hW' => ?y11zaa⟩, fun _ => rfl⟩ ?_
            case y11zaa => (skip; go_simp; rfl)
            simp only [Act.put, List.setIfInBounds_toArray, List.set_cons_succ, List.set_cons_zero]
            refine anyC_take (i := 12) ?v12zaa rfl rfl (by kernel_rfl) (by kernel_rfl) (by kernel_rfl) (fun _ _ _ h => h) hCBzaa ⟨.inl ⟨by kernel_rfl, fun W' hW' => ?y12zaa⟩, fun _ => rfl⟩ ?_
            case y12zaa => (skip; go_simp; rfl)
            simp only [Act.put, List.setIfInBounds_toArray, List.set_cons_succ, List.set_cons_zero]
            refine anyC_only (i := 13) (by kernel_rfl) (wpOpIn_step rfl (fun K' hK' => ?_))
            go_simp
            have hDNzaa : Below wr.heap.size wr (wBzaa.alloc (.cells #[.int .i64 0, .slice none 0 0, .slice none 0 0] 25)) := below_alloc hDBzaa _
            have hCNzaa : (fun W' : World => UIn nb (.int .i64 s.pic.size) (.slice Ax s.pic.fixed.length cx) (.slice Fa s.pic.files.length cf) s.pic x y W' ∧ PBox na (.int .i64 s1.pic.size) (.slice Ax1 s1.pic.fixed.length cx1) (.slice Fa1 s1.pic.files.length cf1) s1.pic W') (wBzaa.alloc (.cells #[.int .i64 0, .slice none 0 0, .slice none 0 0] 25)) := ⟨HUr.out.below hDNzaa, HAr.out.below hDNzaa⟩
            refine hK' _ _ ⟨hCNzaa, ?_⟩
            clear hK' K'
            have hpd : PicD wBzaa (.agg #[.int .i64 s.pic.size, .slice Ax2 s.pic.fixed.length cx2, .slice Fa2 s.pic.files.length cf2]) s.pic := ⟨Ax2, cx2, Fa2, cf2, F', rfl, hxt, hft⟩
            have hend : Below wr.heap.size wr (wBzaa.alloc (.cells #[.int .i64 s.pic.size, .slice Ax2 s.pic.fixed.length cx2, .slice Fa2 s.pic.files.length cf2] 25)) := below_alloc hDBzaa _
            have hbox : PBox wBzaa.heap.size (.int .i64 s.pic.size) (.slice Ax2 s.pic.fixed.length cx2) (.slice Fa2 s.pic.files.length cf2) s.pic (wBzaa.alloc (.cells #[.int .i64 s.pic.size, .slice Ax2 s.pic.fixed.length cx2, .slice Fa2 s.pic.files.length cf2] 25)) := ⟨World.alloc_heap_new _ _, (hpd.below (below_alloc (Below.refl _ _) _)).c⟩
            have z9 := World.alloc_heap_new wBzaa (.cells #[.int .i64 0, .slice none 0 0, .slice none 0 0] 25)
            have z0 := free_at z9 0; have z1 := free_at z9 1; have z2 := free_at z9 2
            have y0 := cell_at z9 0; have y1 := cell_at z9 1; have y2 := cell_at z9 2
            simp only [List.getElem?_toArray, List.getElem?_cons_zero, List.getElem?_cons_succ] at y0 y1 y2
            have Hbox := Lib.hid hbox
            have Hpd := Lib.hid hpd
            clear hbox hpd hxt hft
            refine anyC_only (i := 14) (by kernel_rfl) (wpOpIn_step rfl (fun K' hK' => ?_))
            go_simp
            refine hK' _ _ ⟨⟨HUr.out.below hend, HAr.out.below hend⟩, ?_⟩
            clear hK' K'
            refine anyC_only (i := 15) (by kernel_rfl) (wpOpIn_step rfl (fun K' hK' => ?_))
            go_simp
            refine hK' _ _ ⟨⟨HUr.out.below hend, HAr.out.below hend⟩, ?_⟩
            clear hK' K'
            refine anyC_done (by kernel_rfl) ?_
            go_wp2_with fail
            go_meet
            exact ⟨wBzaa.heap.size, Ax2, cx2, Fa2, cf2, rfl, rfl, Hbox.out, hend⟩
          · go_simp
            have hDNzab : Below wr.heap.size wr (wAza.alloc (.cells #[.int .i64 0, .slice none 0 0, .slice none 0 0] 25)) := below_alloc hDAza _
            have hCNzab : (fun W' : World => UIn nb (.int .i64 s.pic.size) (.slice Ax s.pic.fixed.length cx) (.slice Fa s.pic.files.length cf) s.pic x y W' ∧ PBox na (.int .i64 s1.pic.size) (.slice Ax1 s1.pic.fixed.length cx1) (.slice Fa1 s1.pic.files.length cf1) s1.pic W') (wAza.alloc (.cells #[.int .i64 0, .slice none 0 0, .slice none 0 0] 25)) := ⟨HUr.out.below hDNzab, HAr.out.below hDNzab⟩
            refine hK' _ _ ⟨hCNzab, ?_⟩
            clear hK' K'
            refine anyC_only (i := 9) (by kernel_rfl) (wpOpIn_step rfl (fun K' hK' => ?_))
            go_simp
            refine ⟨trivial, rfl, (callsIn_wide.2 (apply_pic s1.pic ⟨x.no, x.from_, f, x.many⟩ _ _ (HAr.out.below hDNzab).pic Hmade.out.inv1.picOk)).mono ?_⟩
            rintro e wBzab ⟨⟨u, rfl, hu⟩, hBzab⟩
            rw [hmk] at hu ⊢
            obtain ⟨Ax2, cx2, Fa2, cf2, F', rfl, hxt, hft⟩ := hu
            have hDBzab : Below wr.heap.size wr wBzab := below_then hDNzab hBzab
            have hCBzab : (fun W' : World => UIn nb (.int .i64 s.pic.size) (.slice Ax s.pic.fixed.length cx) (.slice Fa s.pic.files.length cf) s.pic x y W' ∧ PBox na (.int .i64 s1.pic.size) (.slice Ax1 s1.pic.fixed.length cx1) (.slice Fa1 s1.pic.files.length cf1) s1.pic W') wBzab := ⟨HUr.out.below hDBzab, HAr.out.below hDBzab⟩
            refine hK' _ _ ⟨hCBzab, ?_⟩
            clear hK' K'
            refine anyC_take (i := 10) ?v10zab rfl rfl (by kernel_rfl) (by kernel_rfl) (by kernel_rfl) (fun _ _ _ h => h) hCBzab ⟨.inl ⟨by kernel_rfl, fun W' hW' => ?y10zab⟩, fun _ => rfl⟩ ?_
            case y10zab => (skip; go_simp; rfl)
            simp only [Act.put, List.setIfInBounds_toArray, List.set_cons_succ, List.set_cons_zero]
            refine anyC_take (i := 11) ?v11zab rfl rfl (by kernel_rfl) (by kernel_rfl) (by kernel_rfl) (fun _ _ _ h => h) hCBzab ⟨.inl ⟨by kernel_rfl, fun W' hW' => ?y11zab⟩, fun _ => rfl⟩ ?_
            case y11zab => (skip; go_simp; rfl)
            simp only [Act.put, List.setIfInBounds_toArray, List.set_cons_succ, List.set_cons_zero]
            refine anyC_take (i := 12) ?v12zab rfl rfl (by kernel_rfl) (by kernel_rfl) (by kernel_rfl) (fun _ _ _ h => h) hCBzab ⟨.inl ⟨by kernel_rfl, fun W' hW' => ?y12zab⟩, fun _ => rfl⟩ ?_
            case y12zab => (skip; go_simp; rfl)
            simp only [Act.put, List.setIfInBounds_toArray, List.set_cons_succ, List.set_cons_zero]
            have hpd : PicD wBzab (.agg #[.int .i64 s.pic.size, .slice Ax2 s.pic.fixed.length cx2, .slice Fa2 s.pic.files.length cf2]) s.pic := ⟨Ax2, cx2, Fa2, cf2, F', rfl, hxt, hft⟩
            have hlz : wr.heap.size ≤ wAza.heap.size := by have := hDAza.size; omega
            have hbz : (wBzab).heap[wAza.heap.size]? = some (.cells #[.int .i64 0, .slice none 0 0, .slice none 0 0] 25 (0, 0)) := block_below (World.alloc_heap_new wAza _) hBzab
            have hend : Below wr.heap.size wr ((((wBzab).setCell ⟨wAza.heap.size, 0, none⟩ (.int .i64 s.pic.size)).setCell ⟨wAza.heap.size, 1, none⟩ (.slice Ax2 s.pic.fixed.length cx2)).setCell ⟨wAza.heap.size, 2, none⟩ (.slice Fa2 s.pic.files.length cf2)) := (((hDBzab).setCell (p := ⟨wAza.heap.size, 0, none⟩) hlz _).setCell (p := ⟨wAza.heap.size, 1, none⟩) hlz _).setCell (p := ⟨wAza.heap.size, 2, none⟩) hlz _
            have hbox : PBox wAza.heap.size (.int .i64 s.pic.size) (.slice Ax2 s.pic.fixed.length cx2) (.slice Fa2 s.pic.files.length cf2) s.pic ((((wBzab).setCell ⟨wAza.heap.size, 0, none⟩ (.int .i64 s.pic.size)).setCell ⟨wAza.heap.size, 1, none⟩ (.slice Ax2 s.pic.fixed.length cx2)).setCell ⟨wAza.heap.size, 2, none⟩ (.slice Fa2 s.pic.files.length cf2)) := ⟨cells3 hbz _ _ _, (kept3 hbz _ _ _ hpd).c⟩
            have z0 := free_at hbz 0; have z1 := free_at hbz 1; have z2 := free_at hbz 2
            have y0 := cell_at hbz 0; have y1 := cell_at hbz 1; have y2 := cell_at hbz 2
            simp only [List.getElem?_toArray, List.getElem?_cons_zero, List.getElem?_cons_succ] at y0 y1 y2
            have Hbox := Lib.hid hbox
            have Hpd := Lib.hid hpd
            clear hbox hpd hxt hft
            refine anyC_only (i := 14) (by kernel_rfl) (wpOpIn_step rfl (fun K' hK' => ?_))
            go_simp
            refine hK' _ _ ⟨⟨HUr.out.below hend, HAr.out.below hend⟩, ?_⟩
            clear hK' K'
            refine anyC_only (i := 15) (by kernel_rfl) (wpOpIn_step rfl (fun K' hK' => ?_))
            go_simp
            refine hK' _ _ ⟨⟨HUr.out.below hend, HAr.out.below hend⟩, ?_⟩
            clear hK' K'
            refine anyC_done (by kernel_rfl) ?_
            go_wp2_with fail
            go_meet
            exact ⟨wAza.heap.size, Ax2, cx2, Fa2, cf2, rfl, rfl, Hbox.out, hend⟩
        · go_simp
          have hDNzb : Below wr.heap.size wr (wr.drew.alloc (.cells #[.int .i64 0, .slice none 0 0, .slice none 0 0] 25)) := below_alloc hDr _
          have hCNzb : (fun W' : World => UIn nb (.int .i64 s.pic.size) (.slice Ax s.pic.fixed.length cx) (.slice Fa s.pic.files.length cf) s.pic x y W' ∧ PBox na (.int .i64 s1.pic.size) (.slice Ax1 s1.pic.fixed.length cx1) (.slice Fa1 s1.pic.files.length cf1) s1.pic W') (wr.drew.alloc (.cells #[.int .i64 0, .slice none 0 0, .slice none 0 0] 25)) := ⟨HUr.out.below hDNzb, HAr.out.below hDNzb⟩
          refine hK' _ _ ⟨hCNzb, ?_⟩
          clear hK' K'
          refine anyC_only (i := 8) (by kernel_rfl) (wpOpIn_step rfl (fun K' hK' => ?_))
          go_simp
          refine ⟨trivial, rfl, (callsIn_wide.2 (step_any x.no x.from_ f x.many _)).mono ?_⟩
          rintro e wAzb ⟨rfl, hAzb⟩
          have hDAzb : Below wr.heap.size wr wAzb := below_then hDNzb hAzb
          have hCAzb : (fun W' : World => UIn nb (.int .i64 s.pic.size) (.slice Ax s.pic.fixed.length cx) (.slice Fa s.pic.files.length cf) s.pic x y W' ∧ PBox na (.int .i64 s1.pic.size) (.slice Ax1 s1.pic.fixed.length cx1) (.slice Fa1 s1.pic.files.length cf1) s1.pic W') wAzb := ⟨HUr.out.below hDAzb, HAr.out.below hDAzb⟩
          refine hK' _ _ ⟨hCAzb, ?_⟩
          clear hK' K'
          refine anyC_only (i := 9) (by kernel_rfl) (wpOpIn_step rfl (fun K' hK' => ?_))
          go_simp
          refine ⟨trivial, rfl, (callsIn_wide.2 (apply_pic s1.pic ⟨x.no, x.from_, f, x.many⟩ _ _ (HAr.out.below hDAzb).pic Hmade.out.inv1.picOk)).mono ?_⟩
          rintro e wBzb ⟨⟨u, rfl, hu⟩, hBzb⟩
          rw [hmk] at hu ⊢
          obtain ⟨Ax2, cx2, Fa2, cf2, F', rfl, hxt, hft⟩ := hu
          have hDBzb : Below wr.heap.size wr wBzb := below_then hDAzb hBzb
          have hCBzb : (fun W' : World => UIn nb (.int .i64 s.pic.size) (.slice Ax s.pic.fixed.length cx) (.slice Fa s.pic.files.length cf) s.pic x y W' ∧ PBox na (.int .i64 s1.pic.size) (.slice Ax1 s1.pic.fixed.length cx1) (.slice Fa1 s1.pic.files.length cf1) s1.pic W') wBzb := ⟨HUr.out.below hDBzb, HAr.out.below hDBzb⟩
          refine hK' _ _ ⟨hCBzb, ?_⟩
          clear hK' K'
          refine anyC_take (i := 10) ?v10zb rfl rfl (by kernel_rfl) (by kernel_rfl) (by kernel_rfl) (fun _ _ _ h => h) hCBzb ⟨.inl ⟨by kernel_rfl, fun W' hW' => ?y10zb⟩, fun _ => rfl⟩ ?_
          case y10zb => (skip; go_simp; rfl)
          simp only [Act.put, List.setIfInBounds_toArray, List.set_cons_succ, List.set_cons_zero]
          refine anyC_take (i := 11) ?v11zb rfl rfl (by kernel_rfl) (by kernel_rfl) (by kernel_rfl) (fun _ _ _ h => h) hCBzb ⟨.inl ⟨by kernel_rfl, fun W' hW' => ?y11zb⟩, fun _ => rfl⟩ ?_
          case y11zb => (skip; go_simp; rfl)
          simp only [Act.put, List.setIfInBounds_toArray, List.set_cons_succ, List.set_cons_zero]
          refine anyC_take (i := 12) ?v12zb rfl rfl (by kernel_rfl) (by kernel_rfl) (by kernel_rfl) (fun _ _ _ h => h) hCBzb ⟨.inl ⟨by kernel_rfl, fun W' hW' => ?y12zb⟩, fun _ => rfl⟩ ?_
          case y12zb => (skip; go_simp; rfl)
          simp only [Act.put, List.setIfInBounds_toArray, List.set_cons_succ, List.set_cons_zero]
          have hpd : PicD wBzb (.agg #[.int .i64 s.pic.size, .slice Ax2 s.pic.fixed.length cx2, .slice Fa2 s.pic.files.length cf2]) s.pic := ⟨Ax2, cx2, Fa2, cf2, F', rfl, hxt, hft⟩
          have hlz : wr.heap.size ≤ wr.heap.size := by exact Nat.le_refl _
          have hbz : (wBzb).heap[wr.heap.size]? = some (.cells #[.int .i64 0, .slice none 0 0, .slice none 0 0] 25 (0, 0)) := block_below (block_below (World.alloc_heap_new wr.drew _) hAzb) hBzb
          have hend : Below wr.heap.size wr ((((wBzb).setCell ⟨wr.heap.size, 0, none⟩ (.int .i64 s.pic.size)).setCell ⟨wr.heap.size, 1, none⟩ (.slice Ax2 s.pic.fixed.length cx2)).setCell ⟨wr.heap.size, 2, none⟩ (.slice Fa2 s.pic.files.length cf2)) := (((hDBzb).setCell (p := ⟨wr.heap.size, 0, none⟩) hlz _).setCell (p := ⟨wr.heap.size, 1, none⟩) hlz _).setCell (p := ⟨wr.heap.size, 2, none⟩) hlz _
          have hbox : PBox wr.heap.size (.int .i64 s.pic.size) (.slice Ax2 s.pic.fixed.length cx2) (.slice Fa2 s.pic.files.length cf2) s.pic ((((wBzb).setCell ⟨wr.heap.size, 0, none⟩ (.int .i64 s.pic.size)).setCell ⟨wr.heap.size, 1, none⟩ (.slice Ax2 s.pic.fixed.length cx2)).setCell ⟨wr.heap.size, 2, none⟩ (.slice Fa2 s.pic.files.length cf2)) := ⟨cells3 hbz _ _ _, (kept3 hbz _ _ _ hpd).c⟩
          have z0 := free_at hbz 0; have z1 := free_at hbz 1; have z2 := free_at hbz 2
          have y0 := cell_at hbz 0; have y1 := cell_at hbz 1; have y2 := cell_at hbz 2
          simp only [List.getElem?_toArray, List.getElem?_cons_zero, List.getElem?_cons_succ] at y0 y1 y2
          have Hbox := Lib.hid hbox
          have Hpd := Lib.hid hpd
          clear hbox hpd hxt hft
          refine anyC_only (i := 14) (by kernel_rfl) (wpOpIn_step rfl (fun K' hK' => ?_))
          go_simp
          refine hK' _ _ ⟨⟨HUr.out.below hend, HAr.out.below hend⟩, ?_⟩
          clear hK' K'
          refine anyC_only (i := 15) (by kernel_rfl) (wpOpIn_step rfl (fun K' hK' => ?_))
          go_simp
          refine hK' _ _ ⟨⟨HUr.out.below hend, HAr.out.below hend⟩, ?_⟩
          clear hK' K'
          refine anyC_done (by kernel_rfl) ?_
          go_wp2_with fail
          go_meet
          exact ⟨wr.heap.size, Ax2, cx2, Fa2, cf2, rfl, rfl, Hbox.out, hend⟩

      case rest =>
      obtain ⟨bz, Ax2, cx2, Fa2, cf2, rfl, rfl, hPB7, hB7⟩ := hcut
      obtain ⟨w7, rfl⟩ : ∃ w7 : World, w7 = wc := ⟨_, rfl⟩
      have HU7 := Lib.hid (HUr.out.below hB7)
      have HA7 := Lib.hid (HAr.out.below hB7)
      have HZ7 := Lib.hid hPB7
      have hBw7 := below_then hBw4 (below_then hBr hB7)
      clear hPB7
      have c0 := HU7.out.p.c0; have c1 := HU7.out.p.c1; have c2 := HU7.out.p.c2
      have z0 := HZ7.out.c0; have z1 := HZ7.out.c1; have z2 := HZ7.out.c2
      go_wp2_with fail
      refine (refSame_pic s.pic s.pic _ _ _ HZ7.out.pic HU7.out.p.pic Hok.out).mono ?_
      rintro e w8 ⟨rfl, hB8⟩
      have hself : decide (s.pic = s.pic) = true := by simp
      rw [hself]
      have HU8 := Lib.hid (HU7.out.below hB8)
      have HA8 := Lib.hid (HA7.out.below hB8)
      have hBw8 := below_then hBw7 hB8
      clear c0 c1 c2 z0 z1 z2 hself
      have c0 := HU8.out.p.c0; have c1 := HU8.out.p.c1; have c2 := HU8.out.p.c2; have x0 := HU8.out.x.c0; have x1 := HU8.out.x.c1; have x2 := HU8.out.x.c2; have x3 := HU8.out.x.c3; have y0 := HU8.out.y.c0; have y1 := HU8.out.y.c1; have y2 := HU8.out.y.c2; have y3 := HU8.out.y.c3
      go_wp2_with fail
      refine (apply_pic s.pic y _ _ HU8.out.p.pic Hok.out).mono ?_
      rintro e w9 ⟨⟨u, rfl, hu⟩, hB9⟩
      have HU9 := Lib.hid (HU8.out.below hB9)
      have HA9 := Lib.hid (HA8.out.below hB9)
      have hBw9 := below_then hBw8 hB9
      clear c0 c1 c2 x0 x1 x2 x3 y0 y1 y2 y3
      cases hay : applyL s y with
      | error er =>
        have hrun := runP_error Hopen.out hay
        have hne := applyL_error_ne hay
        rw [hrun] at hu ⊢
        have d1 : (er != 0) = true := by simpa using hne
        have d2 : (er == 0) = false := by simpa using hne
        obtain ⟨Ax3, cx3, Fa3, cf3, F3, rfl, -, -⟩ := hu
        have Hne := Lib.hid hne
        clear hne hrun hay
        have hB10 := below_alloc (Below.refl _ w9) (.cells #[.int .i64 picZ.size, .slice Ax3 picZ.fixed.length cx3, .slice Fa3 picZ.files.length cf3] 25)
        have hbx := World.alloc_heap_new w9 (.cells #[.int .i64 picZ.size, .slice Ax3 picZ.fixed.length cx3, .slice Fa3 picZ.files.length cf3] 25)
        have Hbx := Lib.hid hbx
        clear hbx
        dsimp only at *
        go_wp2_with fail
        refine (sanity_any _).mono ?_
        rintro e w5 ⟨rfl, hB5⟩
        have b2 := cell_at (block_below Hbx.out hB5) 2
        simp only [List.getElem?_toArray, List.getElem?_cons_zero, List.getElem?_cons_succ] at b2
        have hz : picZ.files.length = 0 := rfl
        rw [hz] at b2
        go_wp2_with fail
        go_ret
        exact ⟨rfl, below_then hBw9 (below_then hB10 hB5)⟩
      | ok s3 =>
      have hrun := runP_ok Hopen.out hay
      rw [hrun] at hu ⊢
      obtain ⟨Ax3, cx3, Fa3, cf3, F3, rfl, hu1, hu2⟩ := hu
      obtain ⟨k2, g, n, hmade2⟩ := made Hmade.out.inv hay
      have Hmade2 := Lib.hid hmade2
      have hB10 := below_alloc (Below.refl _ w9) (.cells #[.int .i64 s3.pic.size, .slice Ax3 s3.pic.fixed.length cx3, .slice Fa3 s3.pic.files.length cf3] 25)
      have HB10 : Hid (PBox w9.heap.size (.int .i64 s3.pic.size) (.slice Ax3 s3.pic.fixed.length cx3) (.slice Fa3 s3.pic.files.length cf3) s3.pic (w9.alloc (.cells #[.int .i64 s3.pic.size, .slice Ax3 s3.pic.fixed.length cx3, .slice Fa3 s3.pic.files.length cf3] 25))) :=
        Lib.hid ⟨World.alloc_heap_new _ _, PicC.below ⟨Ax3, cx3, Fa3, cf3, rfl, hu1.c, hu2.c⟩ hB10⟩
      have HU10 := Lib.hid (HU9.out.below hB10)
      have HA10 := Lib.hid (HA9.out.below hB10)
      have hBw10 := below_then hBw9 hB10
      clear hu1 hu2 hrun hay hmade2
      dsimp only
      obtain ⟨nc, hnc⟩ : ∃ nc, w9.heap.size = nc := ⟨_, rfl⟩
      obtain ⟨w10, hw10⟩ : ∃ w10, w9.alloc (.cells #[.int .i64 s3.pic.size, .slice Ax3 s3.pic.fixed.length cx3, .slice Fa3 s3.pic.files.length cf3] 25) = w10 := ⟨_, rfl⟩
      rw [hw10, hnc] at HB10
      rw [hw10] at HU10 HA10 hBw10
      clear hB10
      have hsz := Hmade.out.inv.ok.size
      have hx1 := Hmade.out.to3; have hx2 := Hmade.out.toz; have hx3 := Hmade.out.many
      have hy1 := Hmade2.out.to3; have hy2 := Hmade2.out.toz; have hy3 := Hmade2.out.many
      have hwx : wrap64 (x.to + x.many) = x.to + x.many := by unfold wrap64; omega
      have hwy : wrap64 (y.to + y.many) = y.to + y.many := by unfold wrap64; omega
      have c0 := HU10.out.p.c0; have c1 := HU10.out.p.c1; have c2 := HU10.out.p.c2; have x0 := HU10.out.x.c0; have x1 := HU10.out.x.c1; have x2 := HU10.out.x.c2; have x3 := HU10.out.x.c3; have y0 := HU10.out.y.c0; have y1 := HU10.out.y.c1; have y2 := HU10.out.y.c2; have y3 := HU10.out.y.c3
      have q0 := HA10.out.c0; have q1 := HA10.out.c1; have q2 := HA10.out.c2
      by_cases hno : x.no = y.no
      · have d1 : (x.no == y.no) = true := by simpa using hno
        have Hno := Lib.hid hno
        clear hno
        go_wp2_with fail
        refine (sanity_any _).mono ?_
        rintro e w5 ⟨rfl, hB5⟩
        go_wp2_with fail
        go_ret
        exact ⟨rfl, below_then hBw10 hB5⟩
      have d1 : (x.no == y.no) = false := by simpa using hno
      have Hno := Lib.hid hno
      clear hno
      by_cases h1 : x.to < y.to + y.many
      rotate_left
      · have d2 : decide (x.to < y.to + y.many) = false := by simpa using h1
        have Hd : Hid (¬ (x.to < y.to + y.many ∧ y.to < x.to + x.many)) := Lib.hid (fun h => h1 h.1)
        clear h1
        go_wp2_with fail
        refine (apply_pic s1.pic y _ _ HA10.out.pic Hmade.out.inv1.picOk).mono ?_
        rintro e w11 ⟨⟨u, rfl, hu⟩, hB11⟩
        obtain ⟨s4, s5, ha4, ha5, h45⟩ := either Hmade.out Hmade2.out Hno.out Hd.out
        have hr4 := runP_after Hmade.out.inv1 ha4
        have hr5 := runP_after Hmade2.out.inv1 ha5
        rw [← h45] at hr5
        rw [hr4] at hu ⊢
        have Hr5 := Lib.hid hr5
        have Hok4 := Lib.hid (inv_applyL Hmade.out.inv1 ha4).picOk
        clear hr4 hr5 ha4 ha5 h45
        obtain ⟨Ax4, cx4, Fa4, cf4, F4, rfl, hu1, hu2⟩ := hu
        have HU11 := Lib.hid (HU10.out.below hB11)
        have HB11 := Lib.hid (HB10.out.below hB11)
        have hBw11 := below_then hBw10 hB11
        have hB12 := below_alloc (Below.refl _ w11) (.cells #[.int .i64 s4.pic.size, .slice Ax4 s4.pic.fixed.length cx4, .slice Fa4 s4.pic.files.length cf4] 25)
        have HD12 : Hid (PBox w11.heap.size (.int .i64 s4.pic.size) (.slice Ax4 s4.pic.fixed.length cx4) (.slice Fa4 s4.pic.files.length cf4) s4.pic (w11.alloc (.cells #[.int .i64 s4.pic.size, .slice Ax4 s4.pic.fixed.length cx4, .slice Fa4 s4.pic.files.length cf4] 25))) :=
          Lib.hid ⟨World.alloc_heap_new _ _, PicC.below ⟨Ax4, cx4, Fa4, cf4, rfl, hu1.c, hu2.c⟩ hB12⟩
        have HU12 := Lib.hid (HU11.out.below hB12)
        have HB12 := Lib.hid (HB11.out.below hB12)
        have hBw12 := below_then hBw11 hB12
        clear hu1 hu2 q0 q1 q2
        clear c0 c1 c2 x0 x1 x2 x3 y0 y1 y2 y3
        dsimp only
        obtain ⟨nd, hnd⟩ : ∃ nd, w11.heap.size = nd := ⟨_, rfl⟩
        obtain ⟨w12, hw12⟩ : ∃ w12, w11.alloc (.cells #[.int .i64 s4.pic.size, .slice Ax4 s4.pic.fixed.length cx4, .slice Fa4 s4.pic.files.length cf4] 25) = w12 := ⟨_, rfl⟩
        rw [hw12, hnd] at HD12
        rw [hw12] at HU12 HB12 hBw12
        clear hB12
        have c0 := HU12.out.p.c0; have c1 := HU12.out.p.c1; have c2 := HU12.out.p.c2; have x0 := HU12.out.x.c0; have x1 := HU12.out.x.c1; have x2 := HU12.out.x.c2; have x3 := HU12.out.x.c3; have y0 := HU12.out.y.c0; have y1 := HU12.out.y.c1; have y2 := HU12.out.y.c2; have y3 := HU12.out.y.c3
        have q0 := HB12.out.c0; have q1 := HB12.out.c1; have q2 := HB12.out.c2
        go_wp2_with fail
        refine (apply_pic s3.pic x _ _ HB12.out.pic Hmade2.out.inv1.picOk).mono ?_
        rintro e w13 ⟨⟨u, rfl, hu⟩, hB13⟩
        rw [Hr5.out] at hu ⊢
        obtain ⟨Ax5, cx5, Fa5, cf5, F5, rfl, hu1, hu2⟩ := hu
        have HD13 := Lib.hid (HD12.out.below hB13)
        have hBw13 := below_then hBw12 hB13
        have hB14 := below_alloc (Below.refl _ w13) (.cells #[.int .i64 s4.pic.size, .slice Ax5 s4.pic.fixed.length cx5, .slice Fa5 s4.pic.files.length cf5] 25)
        have HE14 : Hid (PBox w13.heap.size (.int .i64 s4.pic.size) (.slice Ax5 s4.pic.fixed.length cx5) (.slice Fa5 s4.pic.files.length cf5) s4.pic (w13.alloc (.cells #[.int .i64 s4.pic.size, .slice Ax5 s4.pic.fixed.length cx5, .slice Fa5 s4.pic.files.length cf5] 25))) :=
          Lib.hid ⟨World.alloc_heap_new _ _, PicC.below ⟨Ax5, cx5, Fa5, cf5, rfl, hu1.c, hu2.c⟩ hB14⟩
        have HD14 := Lib.hid (HD13.out.below hB14)
        have hBw14 := below_then hBw13 hB14
        clear hu1 hu2 q0 q1 q2
        clear c0 c1 c2 x0 x1 x2 x3 y0 y1 y2 y3
        dsimp only
        obtain ⟨ne, hne⟩ : ∃ ne, w13.heap.size = ne := ⟨_, rfl⟩
        obtain ⟨w14, hw14⟩ : ∃ w14, w13.alloc (.cells #[.int .i64 s4.pic.size, .slice Ax5 s4.pic.fixed.length cx5, .slice Fa5 s4.pic.files.length cf5] 25) = w14 := ⟨_, rfl⟩
        rw [hw14, hne] at HE14
        rw [hw14] at HD14 hBw14
        clear hB14
        go_wp2_with fail
        refine (sanity_any _).mono ?_
        rintro e w15 ⟨rfl, hB15⟩
        have HD15 := Lib.hid (HD14.out.below hB15)
        have HE15 := Lib.hid (HE14.out.below hB15)
        have hBw15 := below_then hBw14 hB15
        have q0 := HD15.out.c0; have q1 := HD15.out.c1; have q2 := HD15.out.c2
        have r0 := HE15.out.c0; have r1 := HE15.out.c1; have r2 := HE15.out.c2
        go_wp2_with fail
        refine (refSame_pic s4.pic s4.pic _ _ _ HD15.out.pic HE15.out.pic Hok4.out).mono ?_
        rintro e w16 ⟨rfl, hB16⟩
        have hself : decide (s4.pic = s4.pic) = true := by simp
        rw [hself]
        go_wp2_with fail
        go_ret
        exact ⟨rfl, below_then hBw15 hB16⟩
      by_cases h2 : y.to < x.to + x.many
      · have d2 : decide (x.to < y.to + y.many) = true := by simpa using h1
        have d3 : decide (y.to < x.to + x.many) = true := by simpa using h2
        have H1 := Lib.hid h1
        clear h1 h2
        go_wp2_with fail
        refine (sanity_any _).mono ?_
        rintro e w5 ⟨rfl, hB5⟩
        go_wp2_with fail
        go_ret
        exact ⟨rfl, below_then hBw10 hB5⟩
      · have d2 : decide (x.to < y.to + y.many) = true := by simpa using h1
        have d3 : decide (y.to < x.to + x.many) = false := by simpa using h2
        have Hd : Hid (¬ (x.to < y.to + y.many ∧ y.to < x.to + x.many)) := Lib.hid (fun h => h2 h.2)
        clear h1 h2
        go_wp2_with fail
        refine (apply_pic s1.pic y _ _ HA10.out.pic Hmade.out.inv1.picOk).mono ?_
        rintro e w11 ⟨⟨u, rfl, hu⟩, hB11⟩
        obtain ⟨s4, s5, ha4, ha5, h45⟩ := either Hmade.out Hmade2.out Hno.out Hd.out
        have hr4 := runP_after Hmade.out.inv1 ha4
        have hr5 := runP_after Hmade2.out.inv1 ha5
        rw [← h45] at hr5
        rw [hr4] at hu ⊢
        have Hr5 := Lib.hid hr5
        have Hok4 := Lib.hid (inv_applyL Hmade.out.inv1 ha4).picOk
        clear hr4 hr5 ha4 ha5 h45
        obtain ⟨Ax4, cx4, Fa4, cf4, F4, rfl, hu1, hu2⟩ := hu
        have HU11 := Lib.hid (HU10.out.below hB11)
        have HB11 := Lib.hid (HB10.out.below hB11)
        have hBw11 := below_then hBw10 hB11
        have hB12 := below_alloc (Below.refl _ w11) (.cells #[.int .i64 s4.pic.size, .slice Ax4 s4.pic.fixed.length cx4, .slice Fa4 s4.pic.files.length cf4] 25)
        have HD12 : Hid (PBox w11.heap.size (.int .i64 s4.pic.size) (.slice Ax4 s4.pic.fixed.length cx4) (.slice Fa4 s4.pic.files.length cf4) s4.pic (w11.alloc (.cells #[.int .i64 s4.pic.size, .slice Ax4 s4.pic.fixed.length cx4, .slice Fa4 s4.pic.files.length cf4] 25))) :=
          Lib.hid ⟨World.alloc_heap_new _ _, PicC.below ⟨Ax4, cx4, Fa4, cf4, rfl, hu1.c, hu2.c⟩ hB12⟩
        have HU12 := Lib.hid (HU11.out.below hB12)
        have HB12 := Lib.hid (HB11.out.below hB12)
        have hBw12 := below_then hBw11 hB12
        clear hu1 hu2 q0 q1 q2
        clear c0 c1 c2 x0 x1 x2 x3 y0 y1 y2 y3
        dsimp only
        obtain ⟨nd, hnd⟩ : ∃ nd, w11.heap.size = nd := ⟨_, rfl⟩
        obtain ⟨w12, hw12⟩ : ∃ w12, w11.alloc (.cells #[.int .i64 s4.pic.size, .slice Ax4 s4.pic.fixed.length cx4, .slice Fa4 s4.pic.files.length cf4] 25) = w12 := ⟨_, rfl⟩
        rw [hw12, hnd] at HD12
        rw [hw12] at HU12 HB12 hBw12
        clear hB12
        have c0 := HU12.out.p.c0; have c1 := HU12.out.p.c1; have c2 := HU12.out.p.c2; have x0 := HU12.out.x.c0; have x1 := HU12.out.x.c1; have x2 := HU12.out.x.c2; have x3 := HU12.out.x.c3; have y0 := HU12.out.y.c0; have y1 := HU12.out.y.c1; have y2 := HU12.out.y.c2; have y3 := HU12.out.y.c3
        have q0 := HB12.out.c0; have q1 := HB12.out.c1; have q2 := HB12.out.c2
        go_wp2_with fail
        refine (apply_pic s3.pic x _ _ HB12.out.pic Hmade2.out.inv1.picOk).mono ?_
        rintro e w13 ⟨⟨u, rfl, hu⟩, hB13⟩
        rw [Hr5.out] at hu ⊢
        obtain ⟨Ax5, cx5, Fa5, cf5, F5, rfl, hu1, hu2⟩ := hu
        have HD13 := Lib.hid (HD12.out.below hB13)
        have hBw13 := below_then hBw12 hB13
        have hB14 := below_alloc (Below.refl _ w13) (.cells #[.int .i64 s4.pic.size, .slice Ax5 s4.pic.fixed.length cx5, .slice Fa5 s4.pic.files.length cf5] 25)
        have HE14 : Hid (PBox w13.heap.size (.int .i64 s4.pic.size) (.slice Ax5 s4.pic.fixed.length cx5) (.slice Fa5 s4.pic.files.length cf5) s4.pic (w13.alloc (.cells #[.int .i64 s4.pic.size, .slice Ax5 s4.pic.fixed.length cx5, .slice Fa5 s4.pic.files.length cf5] 25))) :=
          Lib.hid ⟨World.alloc_heap_new _ _, PicC.below ⟨Ax5, cx5, Fa5, cf5, rfl, hu1.c, hu2.c⟩ hB14⟩
        have HD14 := Lib.hid (HD13.out.below hB14)
        have hBw14 := below_then hBw13 hB14
        clear hu1 hu2 q0 q1 q2
        clear c0 c1 c2 x0 x1 x2 x3 y0 y1 y2 y3
        dsimp only
        obtain ⟨ne, hne⟩ : ∃ ne, w13.heap.size = ne := ⟨_, rfl⟩
        obtain ⟨w14, hw14⟩ : ∃ w14, w13.alloc (.cells #[.int .i64 s4.pic.size, .slice Ax5 s4.pic.fixed.length cx5, .slice Fa5 s4.pic.files.length cf5] 25) = w14 := ⟨_, rfl⟩
        rw [hw14, hne] at HE14
        rw [hw14] at HD14 hBw14
        clear hB14
        go_wp2_with fail
        refine (sanity_any _).mono ?_
        rintro e w15 ⟨rfl, hB15⟩
        have HD15 := Lib.hid (HD14.out.below hB15)
        have HE15 := Lib.hid (HE14.out.below hB15)
        have hBw15 := below_then hBw14 hB15
        have q0 := HD15.out.c0; have q1 := HD15.out.c1; have q2 := HD15.out.c2
        have r0 := HE15.out.c0; have r1 := HE15.out.c1; have r2 := HE15.out.c2
        go_wp2_with fail
        refine (refSame_pic s4.pic s4.pic _ _ _ HD15.out.pic HE15.out.pic Hok4.out).mono ?_
        rintro e w16 ⟨rfl, hB16⟩
        have hself : decide (s4.pic = s4.pic) = true := by simp
        rw [hself]
        go_wp2_with fail
        go_ret
        exact ⟨rfl, below_then hBw15 hB16⟩

end Go.Proofs.Yteipclnlfanfeaa
