/- ref36: Run, given owners. -/
import Derived.Test.YteipclnlfanfeaaRefH
set_option linter.unusedVariables false
set_option linter.unusedSimpArgs false
namespace Go.Proofs.Yteipclnlfanfeaa
open Go.RowKit

/-- a step's error hangs on no steps -/
theorem applyL_err_irrel {p : Pic} {tk : List Bool} {st st' : List Step} {x : Step} {e : Int} (h : applyL ⟨p, tk, st⟩ x = .error e) : applyL ⟨p, tk, st'⟩ x = .error e := by
  unfold applyL at h ⊢
  try dsimp only at h ⊢
  split at h
  · rename_i h1; rw [if_pos h1]; exact h
  · rename_i h1
    rw [if_neg h1]
    split at h
    · rename_i h2; rw [if_pos h2]; exact h
    · rename_i h2
      rw [if_neg h2]
      split at h
      · exact h
      · rename_i f m h3
        try dsimp only at h ⊢
        split at h
        · rename_i h4; rw [if_pos h4]; exact h
        · rename_i h4
          rw [if_neg h4]
          split at h
          · rename_i h5; rw [if_pos h5]; exact h
          · rename_i h5
            rw [if_neg h5]
            split at h
            · rename_i h6; rw [if_pos h6]; exact h
            · rename_i h6
              rw [if_neg h6]
              split at h
              · rename_i h7; rw [if_pos h7]; exact h
              · rename_i h7
                rw [if_neg h7]
                split at h
                · exact h
                · rename_i t h8
                  try dsimp only at h ⊢
                  split at h
                  · exact h
                  · cases h
theorem runP_after_err {s1 : Spc} {y : Step} {e : Int} (hi : Inv s1) (h : applyL s1 y = .error e) : runP s1.pic [y] = (picZ, e) :=
  runP_error (open_inv hi) (applyL_err_irrel h)
/-- what a list of steps still gives -/
def runFrom (s : Spc) (l : List Step) : Pic × Int := match applyAll s l with
  | .ok s' => (s'.pic, 0)
  | .error e => (picZ, e)
theorem runFrom_nil (s : Spc) : runFrom s [] = (s.pic, 0) := rfl
theorem runFrom_ok {s s' : Spc} {l : List Step} {k : Nat} (hk : k < l.length) (h : applyL s l[k] = .ok s') : runFrom s (l.drop k) = runFrom s' (l.drop (k + 1)) := by
  unfold runFrom; rw [applyAll_ok hk h]
theorem runFrom_error {s : Spc} {l : List Step} {k : Nat} {e : Int} (hk : k < l.length) (h : applyL s l[k] = .error e) : runFrom s (l.drop k) = (picZ, e) := by
  unfold runFrom; rw [applyAll_error hk h]
theorem keepN_three {n0 : Nat} {W : World} {b : Nat} {u0 u1 u2 : Value} (h : W.heap[b]? = some (.cells #[u0, u1, u2] 25 (0, 0))) (hn : n0 ≤ b) (x y z : Value) :
    KeepN n0 W (((W.setCell ⟨b, 0, none⟩ x).setCell ⟨b, 1, none⟩ y).setCell ⟨b, 2, none⟩ z) := by
  have e1 := heap_setCell_at (o := 0) h x
  have e2 := heap_setCell_at (o := 1) e1 y
  exact ((KeepN.set h hn 0 x).trans (KeepN.set e1 hn 1 y)).trans (KeepN.set e2 hn 2 z)
/-- what stands while Run runs -/
structure RnB (w : World) (u1 u2 : Value) (q : Pic) (W : World) : Prop where
  bp : W.heap[w.heap.size]? = some (.cells #[.int .i64 q.size, u1, u2] 25 (0, 0))
  br : W.heap[w.heap.size + 1]? = some (.cells #[.int .i64 0, .slice none 0 0, .slice none 0 0] 25 (0, 0))
  pic : PicN w.heap.size W (.agg #[.int .i64 q.size, u1, u2]) q
  below : Below w.heap.size w W
theorem RnB.next {w : World} {u1 u2 : Value} {q : Pic} {W W' : World} (h : RnB w u1 u2 q W) (hB : Below W.heap.size W W') : RnB w u1 u2 q W' :=
  ⟨block_below h.bp hB, block_below h.br hB, h.pic.kept (KeepN.of_below h.below.size hB), below_then h.below hB⟩
theorem RnB.turn {w : World} {u1 u2 v1 v2 : Value} {q q2 : Pic} {W : World} (h : RnB w u1 u2 q W) (hp : PicN w.heap.size W (.agg #[.int .i64 q2.size, v1, v2]) q2) :
    RnB w v1 v2 q2 (((W.setCell ⟨w.heap.size, 0, none⟩ (.int .i64 q2.size)).setCell ⟨w.heap.size, 1, none⟩ v1).setCell ⟨w.heap.size, 2, none⟩ v2) := by
  refine ⟨cells3z h.bp _ _ _, ?_, hp.kept (keepN_three h.bp (Nat.le_refl _) _ _ _), ((h.below.setCell (p := ⟨w.heap.size, 0, none⟩) (Nat.le_refl _) _).setCell (p := ⟨w.heap.size, 1, none⟩) (Nat.le_refl _) _).setCell (p := ⟨w.heap.size, 2, none⟩) (Nat.le_refl _) _⟩
  exact other_set' (other_set' (other_set' h.br (by omega)) (by omega)) (by omega)

section
attribute [local go_sem] undef
set_option maxRecDepth 100000 in
set_option maxHeartbeats 16000000 in
theorem refRun_of (H : OwnWalk) (p : Pic) (l : List Step) (v : Value) (A : Option Addr) (c : Nat) (w : World) (hp : PicC w v p) (hn : PicOk p) (hl : StepC w A l) (hln : l.length ≤ 1099511627776) :
    Calls Try.prog 11 #[v, .slice A l.length c] w (RetPicC (runP p l) w) := by
  have hmx : Try.prog.follows .mixedOrders = true := by kernel_rfl
  have hp0 := hp
  obtain ⟨Ax, cx, Fa, cf, rfl, hx, hf⟩ := hp
  have hB := below_alloc (below_alloc (Below.refl _ w) (.cells #[.int .i64 p.size, .slice Ax p.fixed.length cx, .slice Fa p.files.length cf] 25)) (.cells #[.int .i64 0, .slice none 0 0, .slice none 0 0] 25)
  have hA : RnB w (.slice Ax p.fixed.length cx) (.slice Fa p.files.length cf) p ((w.alloc (.cells #[.int .i64 p.size, .slice Ax p.fixed.length cx, .slice Fa p.files.length cf] 25)).alloc (.cells #[.int .i64 0, .slice none 0 0, .slice none 0 0] 25)) :=
    ⟨heap_alloc_old' (World.alloc_heap_new w _) _, heap_new (w.alloc (.cells #[.int .i64 p.size, .slice Ax p.fixed.length cx, .slice Fa p.files.length cf] 25)) _ (by simp), (PicN.of_c hp0).kept (KeepN.of_below (Nat.le_refl _) hB), hB⟩
  have HA := Lib.hid hA
  have HH := Lib.hid H
  have Hn := Lib.hid hn
  have Hl := Lib.hid hl
  clear hA H hn hx hf hp0 hl hB
  go_enter Try.func11, Try.ntmps11
  go_wp2_with fail
  refine (refCheck_of HH.out p _ _ HA.out.pic.c Hn.out).mono ?_
  rintro e w1 ⟨rfl, hB1⟩
  have HA1 := Lib.hid (HA.out.next hB1)
  clear HA hB1
  by_cases hck : chkE p = 0
  rotate_left
  · have d1 := chkE_wrong hck
    have hq : runP p l = (picZ, 9) := by
      unfold runP
      cases ho : openL p with
      | none => rfl
      | some s => exact absurd (chkE_some ho) hck
    have HQ := Lib.hid hq
    clear hck hq
    have hR := HA1.out.br
    have zR0 := free_at hR 0; have zR1 := free_at hR 1; have zR2 := free_at hR 2
    have yR0 := cell_at hR 0; have yR1 := cell_at hR 1; have yR2 := cell_at hR 2
    simp only [List.getElem?_toArray, List.getElem?_cons_zero, List.getElem?_cons_succ] at yR0 yR1 yR2
    have hfin := cells3z hR (.int .i64 0) (.slice none 0 0) (.slice none 0 0)
    have HBf := Lib.hid (((HA1.out.below.setCell (p := ⟨w.heap.size + 1, 0, none⟩) (by dsimp only; omega) (.int .i64 0)).setCell (p := ⟨w.heap.size + 1, 1, none⟩) (by dsimp only; omega) (.slice none 0 0)).setCell (p := ⟨w.heap.size + 1, 2, none⟩) (by dsimp only; omega) (.slice none 0 0))
    have k0 := cell_at hfin 0; have k1 := cell_at hfin 1; have k2 := cell_at hfin 2
    simp only [List.getElem?_toArray, List.getElem?_cons_zero, List.getElem?_cons_succ] at k0 k1 k2
    clear hR hfin
    go_wp2_with fail
    refine bodyPost_ret (v := .tuple #[.agg #[.int .i64 0, .slice none 0 0, .slice none 0 0], .int .i64 9]) (by first | (simp [results, Try.results11, go_sem, k0, k1, k2]; done) | (simp [results, Try.results11, go_sem, k0, k1, k2]; rfl)) rfl ⟨⟨_, by rw [HQ.out], by rw [HQ.out]; exact picC_z _⟩, HBf.out⟩
  obtain ⟨s, hs⟩ := chkE_right hck
  rw [hck]
  obtain ⟨hinv, hpic, -⟩ := inv_open hs
  have hlong : ¬ l.length ≤ 5000 → runP p l = (picZ, 1) := fun h => by unfold runP; rw [hs]; dsimp only; rw [if_neg h]
  have hrun : l.length ≤ 5000 → runP p l = runFrom s l := fun h => by unfold runP runFrom; rw [hs]; dsimp only; rw [if_pos h]; rfl
  have Hlong := Lib.hid hlong; have Hrun := Lib.hid hrun; have Hinv := Lib.hid hinv
  subst hpic
  clear hck hs hlong hrun hinv
  by_cases h5 : 5000 < l.length
  · have d5 : decide ((5000 : Int) < (l.length : Int)) = true := by simp; omega
    have HQ := Lib.hid (Hlong.out (by omega))
    have hR := HA1.out.br
    have zR0 := free_at hR 0; have zR1 := free_at hR 1; have zR2 := free_at hR 2
    have yR0 := cell_at hR 0; have yR1 := cell_at hR 1; have yR2 := cell_at hR 2
    simp only [List.getElem?_toArray, List.getElem?_cons_zero, List.getElem?_cons_succ] at yR0 yR1 yR2
    have hfin := cells3z hR (.int .i64 0) (.slice none 0 0) (.slice none 0 0)
    have HBf := Lib.hid (((HA1.out.below.setCell (p := ⟨w.heap.size + 1, 0, none⟩) (by dsimp only; omega) (.int .i64 0)).setCell (p := ⟨w.heap.size + 1, 1, none⟩) (by dsimp only; omega) (.slice none 0 0)).setCell (p := ⟨w.heap.size + 1, 2, none⟩) (by dsimp only; omega) (.slice none 0 0))
    have k0 := cell_at hfin 0; have k1 := cell_at hfin 1; have k2 := cell_at hfin 2
    simp only [List.getElem?_toArray, List.getElem?_cons_zero, List.getElem?_cons_succ] at k0 k1 k2
    clear hR hfin
    go_wp2_with fail
    refine bodyPost_ret (v := .tuple #[.agg #[.int .i64 0, .slice none 0 0, .slice none 0 0], .int .i64 1]) (by first | (simp [results, Try.results11, go_sem, k0, k1, k2]; done) | (simp [results, Try.results11, go_sem, k0, k1, k2]; rfl)) rfl ⟨⟨_, by rw [HQ.out], by rw [HQ.out]; exact picC_z _⟩, HBf.out⟩
  have d5 : decide ((5000 : Int) < (l.length : Int)) = false := by simp; omega
  have HR0 := Lib.hid (Hrun.out (by omega))
  clear Hlong Hrun
  go_wp2_with fail
  go_loopw [6] (fun i wr => ∃ (k : Nat) (s1 : Spc) (u1 u2 : Value), k ≤ l.length ∧ i = .int .i64 k ∧ Hid (Inv s1) ∧ Hid (RnB w u1 u2 s1.pic wr) ∧ Hid (runP s.pic l = runFrom s1 (l.drop k))) (fun i _ => l.length - (intOf i).toNat)
  case atStart => exact ⟨0, s, _, _, by omega, by simp, Hinv, HA1, Lib.hid (by simpa using HR0.out)⟩
  case round =>
    clear HA1 HR0 Hinv d5
    obtain ⟨k, s1, u1, u2, hk, rfl, Hinv, HA, HR⟩ := hrel
    have P0 := cell_at HA.out.bp 0; have P1 := cell_at HA.out.bp 1; have P2 := cell_at HA.out.bp 2
    simp only [List.getElem?_toArray, List.getElem?_cons_zero, List.getElem?_cons_succ] at P0 P1 P2
    by_cases hlt : k < l.length
    rotate_left
    · obtain rfl : k = l.length := by omega
      have hR := HR.out
      rw [List.drop_length, runFrom_nil] at hR
      have HQ := Lib.hid hR
      have hbr := HA.out.br
      have zR0 := free_at hbr 0; have zR1 := free_at hbr 1; have zR2 := free_at hbr 2
      have yR0 := cell_at hbr 0; have yR1 := cell_at hbr 1; have yR2 := cell_at hbr 2
      simp only [List.getElem?_toArray, List.getElem?_cons_zero, List.getElem?_cons_succ] at yR0 yR1 yR2
      have hfin := cells3z hbr (.int .i64 s1.pic.size) u1 u2
      have hkp := keepN_three (n0 := w.heap.size) hbr (by omega) (.int .i64 s1.pic.size) u1 u2
      have HBf := Lib.hid (((HA.out.below.setCell (p := ⟨w.heap.size + 1, 0, none⟩) (by dsimp only; omega) (.int .i64 s1.pic.size)).setCell (p := ⟨w.heap.size + 1, 1, none⟩) (by dsimp only; omega) u1).setCell (p := ⟨w.heap.size + 1, 2, none⟩) (by dsimp only; omega) u2)
      have k0 := cell_at hfin 0; have k1 := cell_at hfin 1; have k2 := cell_at hfin 2
      simp only [List.getElem?_toArray, List.getElem?_cons_zero, List.getElem?_cons_succ] at k0 k1 k2
      have Hpf := Lib.hid (HA.out.pic.kept hkp).c
      obtain ⟨A1, c1, F1, d1, he, -, -⟩ := HA.out.pic
      obtain ⟨e1, e2⟩ : u1 = .slice A1 s1.pic.fixed.length c1 ∧ u2 = .slice F1 s1.pic.files.length d1 := by
        simp only [Value.agg.injEq, Array.mk.injEq, List.cons.injEq, and_true, true_and] at he; exact he
      subst e1; subst e2
      clear hR hfin hbr hkp HR he
      go_wp2_with fail
      refine bodyPost_ret (v := .tuple #[.agg #[.int .i64 s1.pic.size, .slice A1 s1.pic.fixed.length c1, .slice F1 s1.pic.files.length d1], .int .i64 0]) (by first | (simp [results, Try.results11, go_sem, k0, k1, k2]; done) | (simp [results, Try.results11, go_sem, k0, k1, k2]; rfl)) rfl ⟨⟨_, by rw [HQ.out], by rw [HQ.out]; exact Hpf.out⟩, HBf.out⟩
    have hBl := HA.out.below
    obtain ⟨b, o, rfl, H0, H1, H2, H3⟩ := (Hl.out.below hBl) k hlt
    have Hsz := Lib.hid HA.out.below.size
    have Hpic := Lib.hid HA.out.pic
    have Hok1 := Lib.hid Hinv.out.picOk
    obtain ⟨A0, c0, F0, d0, he, -, -⟩ := HA.out.pic
    obtain ⟨e1, e2⟩ : u1 = .slice A0 s1.pic.fixed.length c0 ∧ u2 = .slice F0 s1.pic.files.length d0 := by
      simp only [Value.agg.injEq, Array.mk.injEq, List.cons.injEq, and_true, true_and] at he; exact he
    subst e1; subst e2
    clear he hBl
    have hcase : (∃ s2, applyL s1 l[k] = .ok s2 ∧ runP s1.pic [l[k]] = (s2.pic, 0)) ∨ (∃ e, applyL s1 l[k] = .error e ∧ runP s1.pic [l[k]] = (picZ, e) ∧ e ≠ 0) := by
      cases ha : applyL s1 l[k] with
      | ok s2 => exact .inl ⟨s2, rfl, runP_after Hinv.out ha⟩
      | error e => exact .inr ⟨e, rfl, runP_after_err Hinv.out ha, applyL_error_ne ha⟩
    have Hcase := Lib.hid hcase
    clear hcase
    obtain ⟨no, hno⟩ : ∃ no, l[k].no = no := ⟨_, rfl⟩
    obtain ⟨fr, hfr⟩ : ∃ fr, l[k].from_ = fr := ⟨_, rfl⟩
    obtain ⟨tt, hto⟩ : ∃ tt, l[k].to = tt := ⟨_, rfl⟩
    obtain ⟨mn, hmn⟩ : ∃ mn, l[k].many = mn := ⟨_, rfl⟩
    have hxx : l[k] = ⟨no, fr, tt, mn⟩ := by rw [← hno, ← hfr, ← hto, ← hmn]
    rw [hno] at H0; rw [hfr] at H1; rw [hto] at H2; rw [hmn] at H3
    clear hno hfr hto hmn
    obtain ⟨⟨qq, er⟩, hqe⟩ : ∃ qe, runP s1.pic [l[k]] = qe := ⟨_, rfl⟩
    have Hqe := Lib.hid hqe
    have Hq := Lib.hid (show runP s1.pic [⟨no, fr, tt, mn⟩] = (qq, er) by rw [← hxx]; exact hqe)
    clear hqe hxx
    go_wp2_with fail
    go_cut [7, 8] from 24 to 31 (fun q e wx => ∃ bz v1 v2, q = .pointer (some ⟨bz, 0, none⟩) ∧ e = .int .i64 er ∧ Hid (wx.heap[bz]? = some (.cells #[.int .i64 qq.size, v1, v2] 25 (0, 0)) ∧ PicN w.heap.size wx (.agg #[.int .i64 qq.size, v1, v2]) qq) ∧ Below wr.heap.size wr wx)
    case first =>
        refine wp_region_anyN (C := (fun W' : World => Below wr.heap.size wr W')) 12 (by kernel_rfl) hmx ?_
        have hC0 : (fun W' : World => Below wr.heap.size wr W') wr.drew := (Below.refl _ _).drew
        refine anyC_take (i := 0) ?v0r rfl rfl (by kernel_rfl) (by kernel_rfl) (by kernel_rfl) (fun _ _ _ h => h) hC0 ⟨.inl ⟨by kernel_rfl, fun W' hW' => ?y0r⟩, fun _ => rfl⟩ ?_
        case y0r => (have p0 := cell_below P0 hW'; have p1 := cell_below P1 hW'; have p2 := cell_below P2 hW'; have h0 := cell_below H0 hW'; have h1 := cell_below H1 hW'; have h2 := cell_below H2 hW'; have h3 := cell_below H3 hW'; go_simp; rfl)
        simp only [Act.put, List.setIfInBounds_toArray, List.set_cons_succ, List.set_cons_zero]
        refine anyC_take (i := 1) ?v1r rfl rfl (by kernel_rfl) (by kernel_rfl) (by kernel_rfl) (fun _ _ _ h => h) hC0 ⟨.inl ⟨by kernel_rfl, fun W' hW' => ?y1r⟩, fun _ => rfl⟩ ?_
        case y1r => (have p0 := cell_below P0 hW'; have p1 := cell_below P1 hW'; have p2 := cell_below P2 hW'; have h0 := cell_below H0 hW'; have h1 := cell_below H1 hW'; have h2 := cell_below H2 hW'; have h3 := cell_below H3 hW'; go_simp; rfl)
        simp only [Act.put, List.setIfInBounds_toArray, List.set_cons_succ, List.set_cons_zero]
        refine anyC_take (i := 2) ?v2r rfl rfl (by kernel_rfl) (by kernel_rfl) (by kernel_rfl) (fun _ _ _ h => h) hC0 ⟨.inl ⟨by kernel_rfl, fun W' hW' => ?y2r⟩, fun _ => rfl⟩ ?_
        case y2r => (have p0 := cell_below P0 hW'; have p1 := cell_below P1 hW'; have p2 := cell_below P2 hW'; have h0 := cell_below H0 hW'; have h1 := cell_below H1 hW'; have h2 := cell_below H2 hW'; have h3 := cell_below H3 hW'; go_simp; rfl)
        simp only [Act.put, List.setIfInBounds_toArray, List.set_cons_succ, List.set_cons_zero]
        refine anyC_take (i := 3) ?v3r rfl rfl (by kernel_rfl) (by kernel_rfl) (by kernel_rfl) (fun _ _ _ h => h) hC0 ⟨.inl ⟨by kernel_rfl, fun W' hW' => ?y3r⟩, fun _ => rfl⟩ ?_
        case y3r => (have p0 := cell_below P0 hW'; have p1 := cell_below P1 hW'; have p2 := cell_below P2 hW'; have h0 := cell_below H0 hW'; have h1 := cell_below H1 hW'; have h2 := cell_below H2 hW'; have h3 := cell_below H3 hW'; go_simp; rfl)
        simp only [Act.put, List.setIfInBounds_toArray, List.set_cons_succ, List.set_cons_zero]
        refine anyC_take (i := 4) ?v4r rfl rfl (by kernel_rfl) (by kernel_rfl) (by kernel_rfl) (fun _ _ _ h => h) hC0 ⟨.inl ⟨by kernel_rfl, fun W' hW' => ?y4r⟩, fun _ => rfl⟩ ?_
        case y4r => (have p0 := cell_below P0 hW'; have p1 := cell_below P1 hW'; have p2 := cell_below P2 hW'; have h0 := cell_below H0 hW'; have h1 := cell_below H1 hW'; have h2 := cell_below H2 hW'; have h3 := cell_below H3 hW'; go_simp; rfl)
        simp only [Act.put, List.setIfInBounds_toArray, List.set_cons_succ, List.set_cons_zero]
        refine anyC_two (i := 5) (j := 9) (by kernel_rfl) (wpOpIn_step rfl (fun K' hK' => ?_)) (wpOpIn_step rfl (fun K' hK' => ?_))
        · go_simp
          refine ⟨trivial, rfl, (callsIn_wide.2 (refApply_of HH.out w.heap.size s1.pic no fr tt mn _ _ (Hpic.out.kept (KeepN.of_below Hsz.out hC0)) (Nat.le_trans Hsz.out (hC0).size) Hok1.out)).mono ?_⟩
          rintro e x1 ⟨⟨u, rfl, hu⟩, hx1⟩
          have hC1 : (fun W' : World => Below wr.heap.size wr W') x1 := hC0.trans (hx1.mono hC0.size)
          rw [Hq.out] at hu ⊢
          have hu' := hu
          obtain ⟨A1, c1, F1, d1, rfl, -, -⟩ := hu'
          refine hK' _ _ ⟨hC1, ?_⟩
          clear hK' K'
          refine anyC_take (i := 6) ?v6a rfl rfl (by kernel_rfl) (by kernel_rfl) (by kernel_rfl) (fun _ _ _ h => h) hC1 ⟨.inl ⟨by kernel_rfl, fun W' hW' => ?y6a⟩, fun _ => rfl⟩ ?_
          case y6a => (skip; go_simp; rfl)
          simp only [Act.put, List.setIfInBounds_toArray, List.set_cons_succ, List.set_cons_zero]
          refine anyC_take (i := 7) ?v7a rfl rfl (by kernel_rfl) (by kernel_rfl) (by kernel_rfl) (fun _ _ _ h => h) hC1 ⟨.inl ⟨by kernel_rfl, fun W' hW' => ?y7a⟩, fun _ => rfl⟩ ?_
          case y7a => (skip; go_simp; rfl)
          simp only [Act.put, List.setIfInBounds_toArray, List.set_cons_succ, List.set_cons_zero]
          refine anyC_take (i := 8) ?v8a rfl rfl (by kernel_rfl) (by kernel_rfl) (by kernel_rfl) (fun _ _ _ h => h) hC1 ⟨.inl ⟨by kernel_rfl, fun W' hW' => ?y8a⟩, fun _ => rfl⟩ ?_
          case y8a => (skip; go_simp; rfl)
          simp only [Act.put, List.setIfInBounds_toArray, List.set_cons_succ, List.set_cons_zero]
          refine anyC_only (i := 9) (by kernel_rfl) (wpOpIn_step rfl (fun K' hK' => ?_))
          go_simp
          have hC2 : (fun W' : World => Below wr.heap.size wr W') (x1.alloc (.cells #[.int .i64 0, .slice none 0 0, .slice none 0 0] 25)) := below_alloc hC1 _
          refine hK' _ _ ⟨hC2, ?_⟩
          clear hK' K'
          have hend : Below wr.heap.size wr (x1.alloc (.cells #[.int .i64 qq.size, .slice A1 qq.fixed.length c1, .slice F1 qq.files.length d1] 25)) := below_alloc hC1 _
          have hbx := World.alloc_heap_new x1 (.cells #[.int .i64 qq.size, .slice A1 qq.fixed.length c1, .slice F1 qq.files.length d1] 25)
          have hpn := hu.kept (KeepN.of_below (n0 := w.heap.size) (Nat.le_trans Hsz.out hC1.size) (below_alloc (Below.refl _ x1) (.cells #[.int .i64 qq.size, .slice A1 qq.fixed.length c1, .slice F1 qq.files.length d1] 25)))
          have hz := World.alloc_heap_new x1 (.cells #[.int .i64 0, .slice none 0 0, .slice none 0 0] 25)
          have z0 := free_at hz 0; have z1 := free_at hz 1; have z2 := free_at hz 2
          have y0 := cell_at hz 0; have y1 := cell_at hz 1; have y2 := cell_at hz 2
          simp only [List.getElem?_toArray, List.getElem?_cons_zero, List.getElem?_cons_succ] at y0 y1 y2
          have Hbx := Lib.hid (And.intro hbx hpn)
          clear hbx hpn hu hz
          refine anyC_only (i := 10) (by kernel_rfl) (wpOpIn_step rfl (fun K' hK' => ?_))
          go_simp
          refine hK' _ _ ⟨hend, ?_⟩
          clear hK' K'
          refine anyC_take (i := 11) ?v11a rfl rfl (by kernel_rfl) (by kernel_rfl) (by kernel_rfl) (fun _ _ _ h => h) hend ⟨.inl ⟨by kernel_rfl, fun W' hW' => ?y11a⟩, fun _ => rfl⟩ ?_
          case y11a => (skip; go_simp; rfl)
          simp only [Act.put, List.setIfInBounds_toArray, List.set_cons_succ, List.set_cons_zero]
          refine anyC_done (by kernel_rfl) ?_
          go_wp2_with fail
          go_meet
          exact ⟨x1.heap.size, _, _, rfl, rfl, Hbx, hend⟩
        · go_simp
          obtain ⟨y1, hy1⟩ : ∃ y1, (wr.alloc (.cells #[.int .i64 0, .slice none 0 0, .slice none 0 0] 25)).drew = y1 := ⟨_, rfl⟩
          have hC1 : (fun W' : World => Below wr.heap.size wr W') y1 := by rw [← hy1]; exact (below_alloc (Below.refl _ _) _).drew
          have hbz : y1.heap[wr.heap.size]? = some (.cells #[.int .i64 0, .slice none 0 0, .slice none 0 0] 25 (0, 0)) := by rw [← hy1]; exact World.alloc_heap_new wr _
          rw [hy1]
          refine hK' _ _ ⟨hC1, ?_⟩
          clear hK' K' hy1
          refine anyC_only (i := 5) (by kernel_rfl) (wpOpIn_step rfl (fun K' hK' => ?_))
          go_simp
          refine ⟨trivial, rfl, (callsIn_wide.2 (refApply_of HH.out w.heap.size s1.pic no fr tt mn _ _ (Hpic.out.kept (KeepN.of_below Hsz.out hC1)) (Nat.le_trans Hsz.out (hC1).size) Hok1.out)).mono ?_⟩
          rintro e x1 ⟨⟨u, rfl, hu⟩, hx1⟩
          have hC2 : (fun W' : World => Below wr.heap.size wr W') x1 := hC1.trans (hx1.mono hC1.size)
          have hbz2 := block_below hbz hx1
          rw [Hq.out] at hu ⊢
          have hu' := hu
          obtain ⟨A1, c1, F1, d1, rfl, -, -⟩ := hu'
          refine hK' _ _ ⟨hC2, ?_⟩
          clear hK' K' hbz
          refine anyC_take (i := 6) ?v6b rfl rfl (by kernel_rfl) (by kernel_rfl) (by kernel_rfl) (fun _ _ _ h => h) hC2 ⟨.inl ⟨by kernel_rfl, fun W' hW' => ?y6b⟩, fun _ => rfl⟩ ?_
          case y6b => (skip; go_simp; rfl)
          simp only [Act.put, List.setIfInBounds_toArray, List.set_cons_succ, List.set_cons_zero]
          refine anyC_take (i := 7) ?v7b rfl rfl (by kernel_rfl) (by kernel_rfl) (by kernel_rfl) (fun _ _ _ h => h) hC2 ⟨.inl ⟨by kernel_rfl, fun W' hW' => ?y7b⟩, fun _ => rfl⟩ ?_
          case y7b => (skip; go_simp; rfl)
          simp only [Act.put, List.setIfInBounds_toArray, List.set_cons_succ, List.set_cons_zero]
          refine anyC_take (i := 8) ?v8b rfl rfl (by kernel_rfl) (by kernel_rfl) (by kernel_rfl) (fun _ _ _ h => h) hC2 ⟨.inl ⟨by kernel_rfl, fun W' hW' => ?y8b⟩, fun _ => rfl⟩ ?_
          case y8b => (skip; go_simp; rfl)
          simp only [Act.put, List.setIfInBounds_toArray, List.set_cons_succ, List.set_cons_zero]
          have hend : Below wr.heap.size wr (((x1.setCell ⟨wr.heap.size, 0, none⟩ (.int .i64 qq.size)).setCell ⟨wr.heap.size, 1, none⟩ (.slice A1 qq.fixed.length c1)).setCell ⟨wr.heap.size, 2, none⟩ (.slice F1 qq.files.length d1)) := ((hC2.setCell (p := ⟨wr.heap.size, 0, none⟩) (Nat.le_refl _) _).setCell (p := ⟨wr.heap.size, 1, none⟩) (Nat.le_refl _) _).setCell (p := ⟨wr.heap.size, 2, none⟩) (Nat.le_refl _) _
          have hbx := cells3z hbz2 (.int .i64 qq.size) (.slice A1 qq.fixed.length c1) (.slice F1 qq.files.length d1)
          have hk3 := keepN_three (n0 := w.heap.size) hbz2 Hsz.out (.int .i64 qq.size) (.slice A1 qq.fixed.length c1) (.slice F1 qq.files.length d1)
          have hpn := hu.kept hk3
          have z0 := free_at hbz2 0; have z1 := free_at hbz2 1; have z2 := free_at hbz2 2
          have y0 := cell_at hbz2 0; have y1 := cell_at hbz2 1; have y2 := cell_at hbz2 2
          simp only [List.getElem?_toArray, List.getElem?_cons_zero, List.getElem?_cons_succ] at y0 y1 y2
          have Hbx := Lib.hid (And.intro hbx hpn)
          clear hbx hpn hu hbz2 hk3
          refine anyC_only (i := 10) (by kernel_rfl) (wpOpIn_step rfl (fun K' hK' => ?_))
          go_simp
          refine hK' _ _ ⟨hend, ?_⟩
          clear hK' K'
          refine anyC_take (i := 11) ?v11b rfl rfl (by kernel_rfl) (by kernel_rfl) (by kernel_rfl) (fun _ _ _ h => h) hend ⟨.inl ⟨by kernel_rfl, fun W' hW' => ?y11b⟩, fun _ => rfl⟩ ?_
          case y11b => (skip; go_simp; rfl)
          simp only [Act.put, List.setIfInBounds_toArray, List.set_cons_succ, List.set_cons_zero]
          refine anyC_done (by kernel_rfl) ?_
          go_wp2_with fail
          go_meet
          exact ⟨wr.heap.size, _, _, rfl, rfl, Hbx, hend⟩
    case rest =>
    obtain ⟨bz, v1, v2, rfl, rfl, Hbz, hB2⟩ := hcut
    obtain ⟨w2, rfl⟩ : ∃ w2 : World, w2 = wc := ⟨_, rfl⟩
    have HA2 := Lib.hid (HA.out.next hB2)
    obtain ⟨A1, c1, F1, d1, he, -, -⟩ := Hbz.out.2
    obtain ⟨e1, e2⟩ : v1 = .slice A1 qq.fixed.length c1 ∧ v2 = .slice F1 qq.files.length d1 := by
      simp only [Value.agg.injEq, Array.mk.injEq, List.cons.injEq, and_true, true_and] at he; exact he
    subst e1; subst e2
    clear he
    clear HA P0 P1 P2 H0 H1 H2 H3 Hpic hB2
    rcases Hcase.out with ⟨s2, ha, hq⟩ | ⟨e, ha, hq, hne⟩
    · rw [Hqe.out] at hq
      cases hq
      have HN := Lib.hid (HR.out.trans (runFrom_ok hlt ha))
      have Hi2 := Lib.hid (inv_applyL Hinv.out ha)
      have HT := Lib.hid (HA2.out.turn Hbz.out.2)
      have g0 := cell_at Hbz.out.1 0; have g1 := cell_at Hbz.out.1 1; have g2 := cell_at Hbz.out.1 2
      have zP0 := free_at HA2.out.bp 0; have zP1 := free_at HA2.out.bp 1; have zP2 := free_at HA2.out.bp 2
      have yP0 := cell_at HA2.out.bp 0; have yP1 := cell_at HA2.out.bp 1; have yP2 := cell_at HA2.out.bp 2
      simp only [List.getElem?_toArray, List.getElem?_cons_zero, List.getElem?_cons_succ] at g0 g1 g2 yP0 yP1 yP2
      clear ha Hcase HR Hqe Hq
      go_wp2_with fail
      exact ⟨⟨k + 1, s2, _, _, by omega, by go_num, Hi2, HT, HN⟩, by simp [intOf]; omega⟩
    · rw [Hqe.out] at hq
      cases hq
      have q5 : (er != 0) = true := by simpa using hne
      have HQ := Lib.hid (HR.out.trans (runFrom_error hlt ha))
      clear ha Hcase HR Hqe Hq hne
      have hR := HA2.out.br
      have zR0 := free_at hR 0; have zR1 := free_at hR 1; have zR2 := free_at hR 2
      have yR0 := cell_at hR 0; have yR1 := cell_at hR 1; have yR2 := cell_at hR 2
      simp only [List.getElem?_toArray, List.getElem?_cons_zero, List.getElem?_cons_succ] at yR0 yR1 yR2
      have hfin := cells3z hR (.int .i64 0) (.slice none 0 0) (.slice none 0 0)
      have HBf := Lib.hid (((HA2.out.below.setCell (p := ⟨w.heap.size + 1, 0, none⟩) (by dsimp only; omega) (.int .i64 0)).setCell (p := ⟨w.heap.size + 1, 1, none⟩) (by dsimp only; omega) (.slice none 0 0)).setCell (p := ⟨w.heap.size + 1, 2, none⟩) (by dsimp only; omega) (.slice none 0 0))
      have k0 := cell_at hfin 0; have k1 := cell_at hfin 1; have k2 := cell_at hfin 2
      simp only [List.getElem?_toArray, List.getElem?_cons_zero, List.getElem?_cons_succ] at k0 k1 k2
      clear hR hfin
      go_wp2_with fail
      refine bodyPost_ret (v := .tuple #[.agg #[.int .i64 0, .slice none 0 0, .slice none 0 0], .int .i64 er]) (by first | (simp [results, Try.results11, go_sem, k0, k1, k2]; done) | (simp [results, Try.results11, go_sem, k0, k1, k2]; rfl)) rfl ⟨⟨_, by rw [HQ.out], by rw [HQ.out]; exact picC_z _⟩, HBf.out⟩
end
end Go.Proofs.Yteipclnlfanfeaa
