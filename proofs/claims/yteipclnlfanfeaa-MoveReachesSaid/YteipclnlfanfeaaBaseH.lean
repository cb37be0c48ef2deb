/- MoveZ, MoveZa, MoveZb, MoveZc, MoveZd, MoveZe in one text. -/
import Derived.Test.YteipclnlfanfeaaBaseG
import Derived.Deep.LoopGhost
set_option linter.unusedVariables false
set_option linter.unusedSimpArgs false
/- move: Check, Fragments, Free, Resize, Run. -/
namespace Go.Proofs.Yteipclnlfanfeaa
open Go.RowKit

/-- a picture's lists are no longer than memory -/
def PicOk (p : Pic) : Prop := p.fixed.length ≤ 1099511627776 ∧ p.files.length ≤ 1099511627776 ∧ ∀ f ∈ p.files, f.runs.length ≤ 1099511627776

theorem open_pic (p : Pic) (v : Value) (w : World) (hp : PicC w v p) (hn : PicOk p) : Calls Try.prog 36 #[v] w (OpenPost p w) := open_any p v w hp hn.1 hn.2.1 hn.2.2

def chkE (p : Pic) : Int := match openL p with
  | some _ => 0
  | none => 9
theorem chkE_some {p : Pic} {s : Spc} (h : openL p = some s) : chkE p = 0 := by simp [chkE, h]
theorem chkE_none {p : Pic} (h : openL p = none) : chkE p = 9 := by simp [chkE, h]

set_option maxRecDepth 100000 in
set_option maxHeartbeats 1000000 in
theorem check_any (p : Pic) (v : Value) (w : World) (hp : PicC w v p) (hn : PicOk p) :
    Calls Try.prog 23 #[v] w fun e w' => e = .returned (.int .i64 (chkE p)) ∧ Below w.heap.size w w' := by
  have hpc := hp
  obtain ⟨Ax, cx, Fa, cf, rfl, -, -⟩ := hp
  have hB0 := below_alloc (below_alloc (Below.refl _ w) (.cells #[.int .i64 p.size, .slice Ax p.fixed.length cx, .slice Fa p.files.length cf] 25)) (.cells #[.int .i64 0] 29)
  have hpc1 := hpc.below hB0
  go_enter_defers Try.func23, Try.ntmps23
  go_wp2_with fail
  refine (open_pic p _ _ hpc1 hn).mono ?_
  rintro e w1 ⟨⟨s, P, F, T, ho, rfl, hs, hF⟩ | ⟨ho, rfl⟩, hB1⟩
  · have HE := Lib.hid (block_below (World.alloc_heap_new (w.alloc (.cells #[.int .i64 p.size, .slice Ax p.fixed.length cx, .slice Fa p.files.length cf] 25)) (.cells #[.int .i64 0] 29)) hB1)
    have hB := below_then hB0 hB1
    have hcE := cell_of_one HE.out
    have hzE := free_of_one HE.out
    have Hs := Lib.hid hs
    have Ho := Lib.hid ho
    clear hs ho
    simp only [World.size_alloc] at HE hcE hzE
    go_wp2_with fail
    have hc4 := cell_of_one (one_setCell (u := .int .i64 0) HE.out)
    refine door_ret ⟨_, by first | (simp [results, Try.results23, go_sem, hc4]; done) | (simp [results, Try.results23, go_sem, hc4]; rfl), ?_, ?_⟩
    · rw [chkE_some Ho.out]
    · exact hB.setCell (p := ⟨w.heap.size + 1, 0, none⟩) (by dsimp only; omega) _
  · have HE := Lib.hid (block_below (World.alloc_heap_new (w.alloc (.cells #[.int .i64 p.size, .slice Ax p.fixed.length cx, .slice Fa p.files.length cf] 25)) (.cells #[.int .i64 0] 29)) hB1)
    have hB := below_then hB0 hB1
    have Ho := Lib.hid ho
    clear ho
    simp only [World.size_alloc] at HE
    go_wp2_with fail
    have hc4 := cell_of_one (one_setCell (u := .int .i64 9) HE.out)
    refine door_fault HE.out ⟨_, by first | (simp [results, Try.results23, go_sem, hc4]; done) | (simp [results, Try.results23, go_sem, hc4]; rfl), ?_, ?_⟩
    · rw [chkE_none Ho.out]
    · exact hB.setCell (p := ⟨w.heap.size + 1, 0, none⟩) (by dsimp only; omega) _
end Go.Proofs.Yteipclnlfanfeaa

/- move: Fragments. -/
namespace Go.Proofs.Yteipclnlfanfeaa
open Go.RowKit

def fragN (p : Pic) (no : Int) : Int × Int := match openL p with
  | none => (0, 9)
  | some s => if 0 ≤ fileI s.pic.files no then (fragL (-1) (runsOf s.pic.files (fileI s.pic.files no).toNat), 0) else (0, 3)

/-- how the last region of Fragments may end -/
def FragQ (p : Pic) (no : Int) (E : Nat) (w1 : World) : Exit → Act → World → Prop
  | .panic c, a', W => c = [{ v := .iface 110 (.int .i64 3), recovered := false }] ∧ (a'.tmps[4]?.getD undef = .int .i64 0 ∧ a'.tmps[5]?.getD undef = .pointer (some ⟨E, 0, none⟩) ∧ a'.defers = [{ target := .fn (.func 35) #[], args := #[.pointer (some ⟨E, 0, none⟩)] }]) ∧ fragN p no = (0, 3) ∧ Below w1.heap.size w1 W
  | .normal, a', W => (a'.tmps[4]?.getD undef = .int .i64 (fragN p no).1 ∧ a'.tmps[5]?.getD undef = .pointer (some ⟨E, 0, none⟩) ∧ (fragN p no).2 = 0 ∧ a'.defers = [{ target := .fn (.func 35) #[], args := #[.pointer (some ⟨E, 0, none⟩)] }]) ∧ ∃ W', Below w1.heap.size w1 W' ∧ W = W'.setCell ⟨E, 0, none⟩ (.int .i64 0)
  | _, _, _ => False
theorem fragQ_put {p : Pic} {no : Int} {E : Nat} {w1 : World} {d : Nat} (hd : d ≠ 4) (hd5 : d ≠ 5) {v : Value} (c : List PanicEntry) (a : Act) (w : World) (h : FragQ p no E w1 (.panic c) (a.put (some d) v) w) : FragQ p no E w1 (.panic c) a w := by
  obtain ⟨h1, ⟨h2, h25, h3⟩, h4⟩ := h
  refine ⟨h1, ⟨?_, ?_, h3⟩, h4⟩
  · simpa [Act.put, Array.getElem?_setIfInBounds, hd] using h2
  · simpa [Act.put, Array.getElem?_setIfInBounds, hd5] using h25

set_option maxRecDepth 100000 in
set_option maxHeartbeats 2000000 in
theorem fragments_pic (p : Pic) (no : Int) (v : Value) (w : World) (hp : PicC w v p) (hn : PicOk p) :
    Calls Try.prog 24 #[v, .int .i64 no] w fun e w' => e = .returned (.tuple #[.int .i64 (fragN p no).1, .int .i64 (fragN p no).2]) ∧ Below w.heap.size w w' := by
  have hmx : Try.prog.follows .mixedOrders = true := by kernel_rfl
  have hpc := hp
  obtain ⟨Ax, cx, Fa, cf, rfl, -, -⟩ := hp
  have hB0 := below_alloc (below_alloc (Below.refl _ w) (.cells #[.int .i64 p.size, .slice Ax p.fixed.length cx, .slice Fa p.files.length cf] 25)) (.cells #[.int .i64 0] 29)
  have hpc1 := hpc.below hB0
  have hnp := hn.2.1
  go_enter_defers Try.func24, Try.ntmps24
  go_wp2_with fail
  refine (open_pic p _ _ hpc1 hn).mono ?_
  rintro e w1 ⟨⟨s, P, F, T, ho, rfl, hs, hF⟩ | ⟨ho, rfl⟩, hB1⟩
  rotate_left
  · have HE := Lib.hid (block_below (World.alloc_heap_new (w.alloc (.cells #[.int .i64 p.size, .slice Ax p.fixed.length cx, .slice Fa p.files.length cf] 25)) (.cells #[.int .i64 0] 29)) hB1)
    have hB := below_then hB0 hB1
    have Ho := Lib.hid ho
    clear ho
    simp only [World.size_alloc] at HE
    go_wp2_with fail
    have hc4 := cell_of_one (one_setCell (u := .int .i64 9) HE.out)
    refine door_fault HE.out ⟨_, by first | (simp [results, Try.results24, go_sem, hc4]; done) | (simp [results, Try.results24, go_sem, hc4]; rfl), ?_, ?_⟩
    · simp [fragN, Ho.out]
    · exact hB.setCell (p := ⟨w.heap.size + 1, 0, none⟩) (by dsimp only; omega) _
  have HE := Lib.hid (block_below (World.alloc_heap_new (w.alloc (.cells #[.int .i64 p.size, .slice Ax p.fixed.length cx, .slice Fa p.files.length cf] 25)) (.cells #[.int .i64 0] 29)) hB1)
  have hB := below_then hB0 hB1
  have hop := openL_spec ho
  have hpic := hop.pic
  have hgood := hop.good
  obtain ⟨Ax', cx', Fa', cf', cT', st', -, -, p2, -, -, -, hfil, -⟩ := hs.cellP
  have hfl : s.pic.files.length ≤ 1099511627776 := by rw [hpic]; exact hnp
  have Hs := Lib.hid hs
  have Ho := Lib.hid ho
  have Hpic := Lib.hid hpic
  have Hgood := Lib.hid hgood
  have Hfil := Lib.hid hfil
  clear hs ho hpic hop hgood hfil
  simp only [World.size_alloc] at HE
  have hcE := cell_of_one HE.out
  have hzE := free_of_one HE.out
  go_wp2_with fail
  refine wp_mono (Q := FragQ p no (w.heap.size + 1) w1) ?_ ?_
  rotate_left
  · intro e a' W hq
    cases e with
    | panic c =>
      obtain ⟨rfl, ⟨h4, h45, hd⟩, hfn, hB2⟩ := hq
      have HE2 := block_below HE.out hB2
      have hc4 := cell_of_one (one_setCell (u := .int .i64 3) HE2)
      have hB' := (below_then hB hB2).setCell (p := ⟨w.heap.size + 1, 0, none⟩) (by dsimp only; omega) (.int .i64 3)
      show Leaves Try.prog _ a'.tmps _ a'.defers _ _
      rw [hd]
      refine door_fault HE2 ⟨_, by first | (simp [results, Try.results24, go_sem, hc4, h4, h45]; done) | (simp [results, Try.results24, go_sem, hc4, h4, h45]; rfl), ?_, hB'⟩
      rw [hfn]
    | normal =>
      obtain ⟨⟨h4, h45, h5, hd⟩, W', hB2, rfl⟩ := hq
      have HE2 := block_below HE.out hB2
      have hc4 := cell_of_one (one_setCell (u := .int .i64 0) HE2)
      have hB' := (below_then hB hB2).setCell (p := ⟨w.heap.size + 1, 0, none⟩) (by dsimp only; omega) (.int .i64 0)
      go_wp2_with fail
      show Leaves Try.prog _ a'.tmps _ a'.defers _ _
      rw [hd]
      refine door_ret ⟨_, by first | (simp [results, Try.results24, go_sem, hc4, h4, h45]; done) | (simp [results, Try.results24, go_sem, hc4, h4, h45]; rfl), ?_, hB'⟩
      rw [h5]
    | _ => exact hq.elim
  refine wp_region_anyL (L := 13) (C := fun W' => W'.cell? ⟨P, 2, none⟩ = some (.slice Fa' s.pic.files.length cf')) hmx ?_
  have hCw : (fun W' : World => W'.cell? ⟨P, 2, none⟩ = some (.slice Fa' s.pic.files.length cf')) w1.drew := p2
  refine anyL_take (i := 0) ?v0 rfl rfl (by kernel_rfl) (by kernel_rfl) (by kernel_rfl) (by kernel_rfl) (by kernel_rfl) (fragQ_put (d := 9) (by decide) (by decide)) hCw ⟨.inl ⟨by kernel_rfl, fun W' hW' => ?y0⟩, fun _ => rfl⟩ ?_
  case y0 => (have q0 := hW'; go_simp; rfl)
  simp only [Act.put, List.setIfInBounds_toArray, List.set_cons_succ, List.set_cons_zero]
  refine anyL_take (i := 1) ?v1 rfl rfl (by kernel_rfl) (by kernel_rfl) (by kernel_rfl) (by kernel_rfl) (by kernel_rfl) (fragQ_put (d := 10) (by decide) (by decide)) hCw ⟨.inl ⟨by kernel_rfl, fun W' hW' => ?y1⟩, fun _ => rfl⟩ ?_
  case y1 => (have q0 := hW'; go_simp; rfl)
  simp only [Act.put, List.setIfInBounds_toArray, List.set_cons_succ, List.set_cons_zero]
  refine anyL_take (i := 2) ?v2 rfl rfl (by kernel_rfl) (by kernel_rfl) (by kernel_rfl) (by kernel_rfl) (by kernel_rfl) (fragQ_put (d := 11) (by decide) (by decide)) hCw ⟨.inl ⟨by kernel_rfl, fun W' hW' => ?y2⟩, fun _ => rfl⟩ ?_
  case y2 => (have q0 := hW'; go_simp; rfl)
  simp only [Act.put, List.setIfInBounds_toArray, List.set_cons_succ, List.set_cons_zero]
  refine anyL_take (i := 3) ?v3 rfl rfl (by kernel_rfl) (by kernel_rfl) (by kernel_rfl) (by kernel_rfl) (by kernel_rfl) (fragQ_put (d := 12) (by decide) (by decide)) hCw ⟨.inl ⟨by kernel_rfl, fun W' hW' => ?y3⟩, fun _ => rfl⟩ ?_
  case y3 => (have q0 := hW'; go_simp; rfl)
  simp only [Act.put, List.setIfInBounds_toArray, List.set_cons_succ, List.set_cons_zero]
  refine anyL_take (i := 4) ?v4 rfl rfl (by kernel_rfl) (by kernel_rfl) (by kernel_rfl) (by kernel_rfl) (by kernel_rfl) (fragQ_put (d := 13) (by decide) (by decide)) hCw ⟨.inl ⟨by kernel_rfl, fun W' hW' => ?y4⟩, fun _ => rfl⟩ ?_
  case y4 => (have q0 := hW'; go_simp; rfl)
  simp only [Act.put, List.setIfInBounds_toArray, List.set_cons_succ, List.set_cons_zero]
  refine anyL_take (i := 5) ?v5 rfl rfl (by kernel_rfl) (by kernel_rfl) (by kernel_rfl) (by kernel_rfl) (by kernel_rfl) (fragQ_put (d := 14) (by decide) (by decide)) hCw ⟨.inl ⟨by kernel_rfl, fun W' hW' => ?y5⟩, fun _ => rfl⟩ ?_
  case y5 => (have q0 := hW'; go_simp; rfl)
  simp only [Act.put, List.setIfInBounds_toArray, List.set_cons_succ, List.set_cons_zero]
  refine anyL_take (i := 6) ?v6 rfl rfl (by kernel_rfl) (by kernel_rfl) (by kernel_rfl) (by kernel_rfl) (by kernel_rfl) (fragQ_put (d := 15) (by decide) (by decide)) hCw ⟨.inl ⟨by kernel_rfl, fun W' hW' => ?y6⟩, fun _ => rfl⟩ ?_
  case y6 => (have q0 := hW'; go_simp; rfl)
  simp only [Act.put, List.setIfInBounds_toArray, List.set_cons_succ, List.set_cons_zero]

  refine anyL_only (i := 7) (by kernel_rfl) (wpOpIn_step rfl (fun K' hK' => ?_))
  go_simp
  refine ⟨trivial, rfl, (callsIn_wide.2 (file_any _ P F T s no _ (Hs.out.below (Below.refl _ _).drew) hfl)).mono ?_⟩
  rintro e w2 ⟨⟨hi, rfl⟩ | ⟨hi, rfl⟩, hB2⟩
  rotate_left
  · exact ⟨rfl, ⟨by simp, by simp, rfl⟩, by simp only [fragN, Ho.out]; rw [if_neg hi], ((Below.refl _ _).drew).trans hB2⟩
  rcases fileI_spec s.pic.files no with ⟨hneg, -⟩ | ⟨k, hk, hik, hkno, hkmin⟩
  · omega
  have Hfn := Lib.hid (show fragN p no = (fragL (-1) s.pic.files[k].runs, 0) by simp only [fragN, Ho.out]; rw [if_pos hi, hik]; simp [runsOf, hk])
  rw [hik]
  have hBd2 : Below w1.heap.size w1 w2 := ((Below.refl _ _).drew).trans hB2
  obtain ⟨b, o, A', c', rfl, e0, e1, hrun⟩ := (Hfil.out.c.below hBd2) k hk
  have hgr := Hgood.out.2.2.2.2.2 _ (List.getElem_mem hk)
  have hrb := RB.of_must hgr.1
  have HE2 := Lib.hid (block_below HE.out hBd2)
  have hBw2 := below_then hB hBd2
  refine hK' _ _ ⟨fun _ => cell_below p2 hBd2, ?_⟩
  clear hK' K' hgr hcE hzE hi hik hkmin
  have hCw2 : (fun W' : World => W'.cell? ⟨P, 2, none⟩ = some (.slice (some ⟨b, o, none⟩) s.pic.files.length cf')) w2 := cell_below p2 hBd2
  refine anyL_take (i := 8) ?v8 rfl rfl (by kernel_rfl) (by kernel_rfl) (by kernel_rfl) (by kernel_rfl) (by kernel_rfl) (fragQ_put (d := 17) (by decide) (by decide)) hCw2 ⟨.inl ⟨by kernel_rfl, fun W' hW' => ?y8⟩, fun _ => rfl⟩ ?_
  case y8 => (have q0 := hW'; go_simp; rfl)
  simp only [Act.put, List.setIfInBounds_toArray, List.set_cons_succ, List.set_cons_zero]
  refine anyL_take (i := 9) ?v9 rfl rfl (by kernel_rfl) (by kernel_rfl) (by kernel_rfl) (by kernel_rfl) (by kernel_rfl) (fragQ_put (d := 18) (by decide) (by decide)) hCw2 ⟨.inl ⟨by kernel_rfl, fun W' hW' => ?y9⟩, fun _ => rfl⟩ ?_
  case y9 => (have q0 := hW'; go_simp; rfl)
  simp only [Act.put, List.setIfInBounds_toArray, List.set_cons_succ, List.set_cons_zero]

  refine anyL_only (i := 10) (by kernel_rfl) (wpOpIn_step rfl (fun K' hK' => ?_))
  go_simp
  refine hK' _ _ ⟨fun _ => hCw2, ?_⟩
  clear hK' K'
  refine anyL_only (i := 11) (by kernel_rfl) (wpOpIn_step rfl (fun K' hK' => ?_))
  go_simp
  refine ⟨trivial, rfl, (callsIn_wide.2 (fragments_any _ _ _ _ (by have := hrb.2; omega) hrun (fun r hr => by have := hrb.1 r hr; omega))).mono ?_⟩
  rintro e w3 ⟨rfl, hB3⟩
  refine hK' _ _ ⟨fun _ => cell_below hCw2 hB3, ?_⟩
  clear hK' K'
  have hCw3 : (fun W' : World => W'.cell? ⟨P, 2, none⟩ = some (.slice (some ⟨b, o, none⟩) s.pic.files.length cf')) w3 := cell_below hCw2 hB3
  have HE3 := Lib.hid (block_below HE2.out hB3)
  have hBw3 := below_then hBw2 hB3
  have hcE := cell_of_one HE3.out
  have hzE := free_of_one HE3.out
  refine anyL_only (i := 12) (by kernel_rfl) (wpOpIn_step rfl (fun K' hK' => ?_))
  go_simp
  refine hK' _ _ ⟨fun _ => hCw3, ?_⟩
  clear hK' K'
  refine anyL_last (by kernel_rfl) (by kernel_rfl) (wpOpIn_step rfl (fun K' hK' => ?_))
  go_simp
  refine hK' _ _ ?_
  clear hK' K'
  exact ⟨⟨by rw [Hfn.out]; rfl, rfl, by rw [Hfn.out], rfl⟩, w3, below_then hBd2 hB3, rfl⟩

end Go.Proofs.Yteipclnlfanfeaa

/- move: Free. -/
namespace Go.Proofs.Yteipclnlfanfeaa
open Go.RowKit

def freeP (p : Pic) : List Ext × Int := match openL p with
  | none => ([], 9)
  | some s => (freeL s.tk p.size.toNat, 0)

/-- extents and an error are returned -/
def RetExt (l : List Ext) (er : Int) (w : World) (e : Ending) (w' : World) : Prop :=
  (∃ A c, e = .returned (.tuple #[.slice A l.length c, .int .i64 er]) ∧ ExtC w' A l) ∧ Below w.heap.size w w'

theorem SpC.lts {n0 P F T : Nat} {s : Spc} {w : World} (h : SpC n0 P F T s w) : P < w.heap.size ∧ T < w.heap.size := by
  obtain ⟨a1, a2, a3, Ax, cx, Fa, cf, cT, st, h1, h2, h3, h4, h5⟩ := h
  exact ⟨lt_of_block h1, lt_of_block h4⟩

theorem SpC.freeC {n0 P F T : Nat} {s : Spc} {w : World} (h : SpC n0 P F T s w) (size : Nat) :
    ∃ cT, FreeC (w.heap.size + 1) w.heap.size P T cT s.tk size ((w.alloc (.cells #[.pointer (some ⟨P, 0, none⟩)] 66)).alloc (.cells #[.int .i64 size] 3)) := by
  obtain ⟨a1, a2, a3, Ax, cx, Fa, cf, cT, st, h1, h2, h3, h4, h5⟩ := h
  refine ⟨cT, heap_new _ _ (by simp), heap_alloc_old' (heap_new _ _ rfl) _, ?_, heap_alloc_old' (heap_alloc_old' h4 _) _⟩
  have := heap_alloc_old' (heap_alloc_old' h1 (.cells #[.pointer (some ⟨P, 0, none⟩)] 66)) (.cells #[.int .i64 size] 3)
  simp [World.cell?, this]

set_option maxRecDepth 100000 in
set_option maxHeartbeats 4000000 in
theorem free_pic (p : Pic) (v : Value) (w : World) (hp : PicC w v p) (hn : PicOk p) :
    Calls Try.prog 25 #[v] w (RetExt (freeP p).1 (freeP p).2 w) := by
  have hmx : Try.prog.follows .mixedOrders = true := by kernel_rfl
  have hpc := hp
  obtain ⟨Ax, cx, Fa, cf, rfl, -, -⟩ := hp
  have hB0 := below_alloc (below_alloc (Below.refl _ w) (.cells #[.int .i64 p.size, .slice Ax p.fixed.length cx, .slice Fa p.files.length cf] 25)) (.cells #[.int .i64 0] 29)
  have hpc1 := hpc.below (hB0.drew)
  have hbx := heap_alloc_old' (World.alloc_heap_new w (.cells #[.int .i64 p.size, .slice Ax p.fixed.length cx, .slice Fa p.files.length cf] 25)) (.cells #[.int .i64 0] 29)
  have hbE := heap_new (w.alloc (.cells #[.int .i64 p.size, .slice Ax p.fixed.length cx, .slice Fa p.files.length cf] 25)) (.cells #[.int .i64 0] 29) (n := w.heap.size + 1) (by simp)
  have Hbx := Lib.hid hbx
  go_enter_defers Try.func25, Try.ntmps25
  go_wp2_with fail
  obtain ⟨W0, hW0⟩ : ∃ W0, (w.alloc (.cells #[.int .i64 p.size, .slice Ax p.fixed.length cx, .slice Fa p.files.length cf] 25)).alloc (.cells #[.int .i64 0] 29) = W0 := ⟨_, rfl⟩
  rw [hW0] at hB0 hpc1 Hbx hbE ⊢
  clear hW0 hbx
  have b0 := cell_at Hbx.out 0; have b1 := cell_at Hbx.out 1; have b2 := cell_at Hbx.out 2
  simp only [List.getElem?_toArray, List.getElem?_cons_zero, List.getElem?_cons_succ] at b0 b1 b2
  have HbE := Lib.hid hbE; clear hbE
  refine wp_region_orders [[0, 1, 2, 3, 4, 5, 6, 7], [0, 2, 1, 3, 4, 5, 6, 7], [0, 2, 3, 1, 4, 5, 6, 7], [2, 0, 1, 3, 4, 5, 6, 7], [2, 0, 3, 1, 4, 5, 6, 7], [2, 3, 0, 1, 4, 5, 6, 7]] (by kernel_rfl) (by kernel_rfl) ?_
  intro o ho
  simp only [List.mem_cons, List.not_mem_nil, or_false] at ho
  rcases ho with rfl | rfl | rfl | rfl | rfl | rfl
  all_goals
    simp only [List.filterMap_cons, List.filterMap_nil, List.getElem?_toArray, List.getElem?_cons_zero, List.getElem?_cons_succ]
    go_wp2_with fail
    refine (open_pic p _ _ hpc1 hn).mono ?_
    rintro e w1 ⟨⟨s, P, F, T, ho, rfl, hs, hF⟩ | ⟨ho, rfl⟩, hB1⟩
    rotate_left
    · have hB1' : Below W0.heap.size W0 w1 := ((Below.refl _ _).drew).trans hB1
      have HE := block_below HbE.out hB1'
      have hB := (below_then hB0 hB1').setCell (p := ⟨w.heap.size + 1, 0, none⟩) (by dsimp only; omega) (.int .i64 9)
      have hc4 := cell_of_one (one_setCell (u := .int .i64 9) HE)
      refine door_fault HE ⟨_, by first | (simp [results, Try.results25, go_sem, hc4]; done) | (simp [results, Try.results25, go_sem, hc4]; rfl), ⟨none, 0, ?_, ?_⟩, hB⟩
      · simp [freeP, ho]
      · intro k hk; simp [freeP, ho] at hk
    have hB1' : Below W0.heap.size W0 w1 := ((Below.refl _ _).drew).trans hB1
    have hop := openL_spec ho
    obtain ⟨sz, hsz⟩ := Int.eq_ofNat_of_zero_le (show 0 ≤ p.size by have := hop.size; omega)
    have hfr : freeP p = (freeL s.tk sz, 0) := by simp [freeP, ho, hsz]
    have hsz1 : sz ≤ s.tk.length := by have := hop.tkl; omega
    have htl : s.tk.length ≤ 1000000 := by have := hop.tkl; have := hop.size; omega
    obtain ⟨lP, lT⟩ := hs.lts
    obtain ⟨cT, hfc⟩ := hs.freeC sz
    have b0' := cell_below b0 hB1'
    have hBw := below_then hB0 hB1'
    have HE1 := Lib.hid (block_below HbE.out hB1')
    have Hfr := Lib.hid hfr
    have hsz' : p.size = (sz : Int) := hsz
    have Hfc := Lib.hid hfc
    have Hsz := Lib.hid hsz'
    rw [hsz'] at b0'
    clear hs hop ho hfr hfc hsz hsz'
    try rw [Hsz.out]
    go_wp2_with fail
    refine (free_any P sz w1).mono ?_
    rintro e w2 ⟨rfl, rfl⟩
    have hB2 := below_alloc (below_alloc (Below.refl _ w1) (.cells #[.pointer (some ⟨P, 0, none⟩)] 66)) (.cells #[.int .i64 sz] 3)
    go_wp2_with fail
    refine (collect_any (w1.heap.size + 1) w1.heap.size P T cT s.tk sz _ hsz1 htl (by simp; omega) Hfc.out).mono ?_
    rintro e w3 ⟨⟨A, c, rfl, hown⟩, hB3⟩
    have hB4 := below_then hBw (below_then hB2 hB3)
    have HE3 := Lib.hid (block_below HE1.out (below_then hB2 hB3))
    have hcE := cell_of_one HE3.out
    have hzE := free_of_one HE3.out
    have hX : ExtC (w3.setCell ⟨w.heap.size + 1, 0, none⟩ (.int .i64 0)) A (freeL s.tk sz) :=
      ExtT.c ((ExtT.of_owns hown).kept (fun k c f hk => (Below.heap_setCell _ _ _ _ (fun e => by dsimp only at e; subst e; rw [HE3.out] at hk; cases hk)).trans hk))
    have HX := Lib.hid hX
    clear hown hX
    go_wp2_with fail
    have hc4 := cell_of_one (one_setCell (u := .int .i64 0) HE3.out)
    refine door_ret ⟨.tuple #[.slice A (freeL s.tk sz).length c, .int .i64 0], by first | (simp [results, Try.results25, go_sem, hc4]; done) | (simp [results, Try.results25, go_sem, hc4]; rfl), ⟨A, c, by rw [Hfr.out], by rw [Hfr.out]; exact HX.out⟩, ?_⟩
    exact hB4.setCell (p := ⟨w.heap.size + 1, 0, none⟩) (by dsimp only; omega) _

end Go.Proofs.Yteipclnlfanfeaa

/- move: Resize. -/
namespace Go.Proofs.Yteipclnlfanfeaa
open Go.RowKit

def picZ : Pic := ⟨0, [], []⟩
/-- a picture's value, in blocks whose types are known -/
def PicD (w : World) (v : Value) (p : Pic) : Prop :=
  ∃ Ax cx Fa cf F, v = .agg #[.int .i64 p.size, .slice Ax p.fixed.length cx, .slice Fa p.files.length cf] ∧ ExtT w Ax p.fixed ∧ FilT w F Fa p.files
theorem PicD.c {w : World} {v : Value} {p : Pic} (h : PicD w v p) : PicC w v p := by
  obtain ⟨Ax, cx, Fa, cf, F, h0, h1, h2⟩ := h
  exact ⟨Ax, cx, Fa, cf, h0, h1.c, h2.c⟩
theorem PicD.kept {w w' : World} {v : Value} {p : Pic} (h : PicD w v p) (hk : ∀ (k : Nat) c t f, w.heap[k]? = some (.cells c t f) → t = 52 ∨ t = 54 ∨ t = 46 → w'.heap[k]? = some (.cells c t f)) : PicD w' v p := by
  obtain ⟨Ax, cx, Fa, cf, F, h0, h1, h2⟩ := h
  exact ⟨Ax, cx, Fa, cf, F, h0, h1.kept (fun k c f hq => hk _ _ _ _ hq (.inr (.inl rfl))), h2.kept (fun k c f hq => hk _ _ _ _ hq (.inl rfl)) (fun c f hq => hk _ _ _ _ hq (.inr (.inr rfl)))⟩
theorem PicD.below {w w' : World} {v : Value} {p : Pic} (h : PicD w v p) (hB : Below w.heap.size w w') : PicD w' v p := h.kept fun _ _ _ _ hk _ => block_below hk hB
theorem picC_zero (w : World) : PicD w (.agg #[.int .i64 0, .slice none 0 0, .slice none 0 0]) picZ :=
  ⟨none, 0, none, 0, 0, rfl, .inl rfl, .inl rfl⟩
def resizeP (p : Pic) (size : Int) : Pic × Int := match openL p with
  | none => (picZ, 9)
  | some _ => if ¬ (4 ≤ size ∧ size ≤ 768) then (picZ, 1) else if bynd size p.fixed = false ∧ overF size p.files = 0 then (⟨size, p.fixed, p.files⟩, 0) else (picZ, 13)

/-- a picture and an error are returned -/
def RetPic (q : Pic) (er : Int) (w : World) (e : Ending) (w' : World) : Prop :=
  (∃ v, e = .returned (.tuple #[v, .int .i64 er]) ∧ PicD w' v q) ∧ Below w.heap.size w w'

theorem ret_zero {q : Pic × Int} {w w' : World} {er : Int} (h : q = (picZ, er)) (hB : Below w.heap.size w w') : RetPic q.1 q.2 w (.returned (.tuple #[.agg #[.int .i64 0, .slice none 0 0, .slice none 0 0], .int .i64 er])) w' := by
  subst h; exact ⟨⟨_, rfl, picC_zero _⟩, hB⟩

theorem ret_pic {q : Pic × Int} {pc : Pic} {w w' : World} {v : Value} {er : Int} (h : q = (pc, er)) (hv : PicD w' v pc) (hB : Below w.heap.size w w') : RetPic q.1 q.2 w (.returned (.tuple #[v, .int .i64 er])) w' := by
  subst h; exact ⟨⟨_, rfl, hv⟩, hB⟩

/-- the picture in its blocks -/
theorem SpC.pic3 {n0 P F T : Nat} {s : Spc} {w w' : World} {Ax Fa : Option Addr} {cx cf : Nat} (h : SpC n0 P F T s w)
    (hk : ∀ (k : Nat) c t f, w.heap[k]? = some (.cells c t f) → t = 52 ∨ t = 54 ∨ t = 46 → w'.heap[k]? = some (.cells c t f))
    (hx : w.cell? ⟨P, 1, none⟩ = some (.slice Ax s.pic.fixed.length cx)) (hf : w.cell? ⟨P, 2, none⟩ = some (.slice Fa s.pic.files.length cf)) (size : Int) :
    PicD w' (.agg #[.int .i64 size, .slice Ax s.pic.fixed.length cx, .slice Fa s.pic.files.length cf]) ⟨size, s.pic.fixed, s.pic.files⟩ := by
  obtain ⟨a1, a2, a3, Ax', cx', Fa', cf', cT, st, h1, h2, h3, h4, h5⟩ := h
  have e1 : w.cell? ⟨P, 1, none⟩ = some (.slice Ax' s.pic.fixed.length cx') := by simp [World.cell?, h1]
  have e2 : w.cell? ⟨P, 2, none⟩ = some (.slice Fa' s.pic.files.length cf') := by simp [World.cell?, h1]
  rw [e1] at hx; cases hx
  rw [e2] at hf; cases hf
  exact ⟨Ax, cx, Fa, cf, F, rfl, h2.kept (fun k c f hq => hk _ _ _ _ hq (.inr (.inl rfl))), h3.kept (fun k c f hq => hk _ _ _ _ hq (.inl rfl)) (fun c f hq => hk _ _ _ _ hq (.inr (.inr rfl)))⟩

/-- a picture is stored, and no error -/
theorem setPic {W : World} {R E : Nat} {a b c : Value} (hR : W.heap[R]? = some (.cells #[a, b, c] 25 (0, 0))) (hne : R ≠ E) (x y z v : Value) :
    ((((W.setCell ⟨R, 0, none⟩ x).setCell ⟨R, 1, none⟩ y).setCell ⟨R, 2, none⟩ z).setCell ⟨E, 0, none⟩ v).heap[R]? = some (.cells #[x, y, z] 25 (0, 0)) := by
  refine (Below.heap_setCell _ _ _ _ hne).trans ?_
  have e1 := heap_setCell_at (o := 0) hR x
  have e2 := heap_setCell_at (o := 1) e1 y
  have e3 := heap_setCell_at (o := 2) e2 z
  simpa using e3
theorem setPic_E {W : World} {R E : Nat} {a : Value} (hE : W.heap[E]? = some (.cells #[a] 29 (0, 0))) (hne : E ≠ R) (x y z v : Value) :
    ((((W.setCell ⟨R, 0, none⟩ x).setCell ⟨R, 1, none⟩ y).setCell ⟨R, 2, none⟩ z).setCell ⟨E, 0, none⟩ v).heap[E]? = some (.cells #[v] 29 (0, 0)) :=
  one_setCell ((Below.heap_setCell _ _ _ _ hne).trans ((Below.heap_setCell _ _ _ _ hne).trans ((Below.heap_setCell _ _ _ _ hne).trans hE)))
theorem setPic_other {W : World} {R E k : Nat} (h1 : k ≠ R) (h2 : k ≠ E) (x y z v : Value) :
    ((((W.setCell ⟨R, 0, none⟩ x).setCell ⟨R, 1, none⟩ y).setCell ⟨R, 2, none⟩ z).setCell ⟨E, 0, none⟩ v).heap[k]? = W.heap[k]? :=
  (Below.heap_setCell _ _ _ _ h2).trans ((Below.heap_setCell _ _ _ _ h1).trans ((Below.heap_setCell _ _ _ _ h1).trans (Below.heap_setCell _ _ _ _ h1)))
theorem setPic_below {n R E : Nat} {w W : World} (h : Below n w W) (h1 : n ≤ R) (h2 : n ≤ E) (x y z v : Value) :
    Below n w ((((W.setCell ⟨R, 0, none⟩ x).setCell ⟨R, 1, none⟩ y).setCell ⟨R, 2, none⟩ z).setCell ⟨E, 0, none⟩ v) :=
  (((h.setCell (p := ⟨R, 0, none⟩) h1 _).setCell (p := ⟨R, 1, none⟩) h1 _).setCell (p := ⟨R, 2, none⟩) h1 _).setCell (p := ⟨E, 0, none⟩) h2 _

set_option maxRecDepth 100000 in
set_option maxHeartbeats 4000000 in
theorem resize_pic (p : Pic) (size : Int) (v : Value) (w : World) (hp : PicC w v p) (hn : PicOk p) :
    Calls Try.prog 26 #[v, .int .i64 size] w (RetPic (resizeP p size).1 (resizeP p size).2 w) := by
  have hpc := hp
  obtain ⟨Ax, cx, Fa, cf, rfl, -, -⟩ := hp
  have hB0 := below_alloc (below_alloc (below_alloc (Below.refl _ w) (.cells #[.int .i64 p.size, .slice Ax p.fixed.length cx, .slice Fa p.files.length cf] 25)) (.cells #[.int .i64 0, .slice none 0 0, .slice none 0 0] 25)) (.cells #[.int .i64 0] 29)
  have hpc1 := hpc.below hB0
  have hbR := heap_alloc_old' (heap_new (w.alloc (.cells #[.int .i64 p.size, .slice Ax p.fixed.length cx, .slice Fa p.files.length cf] 25)) (.cells #[.int .i64 0, .slice none 0 0, .slice none 0 0] 25) (n := w.heap.size + 1) (by simp)) (.cells #[.int .i64 0] 29)
  have hbE := heap_new ((w.alloc (.cells #[.int .i64 p.size, .slice Ax p.fixed.length cx, .slice Fa p.files.length cf] 25)).alloc (.cells #[.int .i64 0, .slice none 0 0, .slice none 0 0] 25)) (.cells #[.int .i64 0] 29) (n := w.heap.size + 1 + 1) (by simp)
  have HbE := Lib.hid hbE; clear hbE
  have HbR := Lib.hid hbR; clear hbR
  go_enter_defers Try.func26, Try.ntmps26
  go_wp2_with fail
  obtain ⟨W0, hW0⟩ : ∃ W0, ((w.alloc (.cells #[.int .i64 p.size, .slice Ax p.fixed.length cx, .slice Fa p.files.length cf] 25)).alloc (.cells #[.int .i64 0, .slice none 0 0, .slice none 0 0] 25)).alloc (.cells #[.int .i64 0] 29) = W0 := ⟨_, rfl⟩
  rw [hW0] at hB0 hpc1 HbR HbE ⊢
  clear hW0
  refine (open_pic p _ _ hpc1 hn).mono ?_
  rintro e w1 ⟨⟨s, P, F, T, ho, rfl, hs, hF⟩ | ⟨ho, rfl⟩, hB1⟩
  rotate_left
  · have HE := block_below HbE.out hB1
    have hR := block_below HbR.out hB1
    have hB := (below_then hB0 hB1).setCell (p := ⟨w.heap.size + 1 + 1, 0, none⟩) (by dsimp only; omega) (.int .i64 9)
    have hq : resizeP p size = (picZ, 9) := by simp [resizeP, ho]
    have hc4 := cell_of_one (one_setCell (u := .int .i64 9) HE)
    have r0 := cell_at ((Below.heap_setCell _ ⟨w.heap.size + 1 + 1, 0, none⟩ (.int .i64 9) (w.heap.size + 1) (by dsimp only; omega)).trans hR) 0
    have r1 := cell_at ((Below.heap_setCell _ ⟨w.heap.size + 1 + 1, 0, none⟩ (.int .i64 9) (w.heap.size + 1) (by dsimp only; omega)).trans hR) 1
    have r2 := cell_at ((Below.heap_setCell _ ⟨w.heap.size + 1 + 1, 0, none⟩ (.int .i64 9) (w.heap.size + 1) (by dsimp only; omega)).trans hR) 2
    simp only [List.getElem?_toArray, List.getElem?_cons_zero, List.getElem?_cons_succ] at r0 r1 r2
    refine door_fault HE ⟨.tuple #[.agg #[.int .i64 0, .slice none 0 0, .slice none 0 0], .int .i64 9], by first | (simp [results, Try.results26, go_sem, hc4, r0, r1, r2]; done) | (simp [results, Try.results26, go_sem, hc4, r0, r1, r2]; rfl), ret_zero hq hB⟩
  have hop := openL_spec ho
  have hgood := hop.good
  have hpic := hop.pic
  have hsz := hop.size
  have heb := hop.eb
  have hrb := hgood.rb
  have l1 := hop.nfix
  have l2 := hop.nfil
  rw [← hpic] at l1 l2
  obtain ⟨lP, lT⟩ := hs.lts
  have hB := below_then hB0 hB1
  have HE := Lib.hid (block_below HbE.out hB1)
  have HR := Lib.hid (block_below HbR.out hB1)
  have hn0P : W0.heap.size ≤ P := hs.1
  have hEl := lt_of_block HbE.out
  have Hs := Lib.hid hs; have Ho := Lib.hid ho; have Hpic := Lib.hid hpic
  have Heb := Lib.hid heb; have Hrb := Lib.hid hrb
  clear hs ho hpic hop hgood heb hrb hpc1
  by_cases h4 : 4 ≤ size
  rotate_left
  · have d4 : decide (4 ≤ size) = false := by simpa using h4
    have hq : resizeP p size = (picZ, 1) := by simp only [resizeP, Ho.out]; rw [if_pos (by omega)]
    have Hq := Lib.hid hq; clear hq
    go_wp2_with (go_at_call 37; refine (need_no _ _).mono ?_; rintro e w' ⟨rfl, rfl⟩)
    have HE := HE.out
    have hR := HR.out
    have hB := hB.setCell (p := ⟨w.heap.size + 1 + 1, 0, none⟩) (by dsimp only; omega) (.int .i64 1)
    have hq := Hq.out
    have hc4 := cell_of_one (one_setCell (u := .int .i64 1) HE)
    have r0 := cell_at ((Below.heap_setCell _ ⟨w.heap.size + 1 + 1, 0, none⟩ (.int .i64 1) (w.heap.size + 1) (by dsimp only; omega)).trans hR) 0
    have r1 := cell_at ((Below.heap_setCell _ ⟨w.heap.size + 1 + 1, 0, none⟩ (.int .i64 1) (w.heap.size + 1) (by dsimp only; omega)).trans hR) 1
    have r2 := cell_at ((Below.heap_setCell _ ⟨w.heap.size + 1 + 1, 0, none⟩ (.int .i64 1) (w.heap.size + 1) (by dsimp only; omega)).trans hR) 2
    simp only [List.getElem?_toArray, List.getElem?_cons_zero, List.getElem?_cons_succ] at r0 r1 r2
    refine door_fault HE ⟨.tuple #[.agg #[.int .i64 0, .slice none 0 0, .slice none 0 0], .int .i64 1], by first | (simp [results, Try.results26, go_sem, hc4, r0, r1, r2]; done) | (simp [results, Try.results26, go_sem, hc4, r0, r1, r2]; rfl), ret_zero hq hB⟩
  have d4 : decide (4 ≤ size) = true := by simpa using h4
  by_cases h5 : size ≤ 768
  rotate_left
  · have d5 : decide (size ≤ 768) = false := by simpa using h5
    have hq : resizeP p size = (picZ, 1) := by simp only [resizeP, Ho.out]; rw [if_pos (by omega)]
    have Hq := Lib.hid hq; clear hq
    go_wp2_with (go_at_call 37; refine (need_no _ _).mono ?_; rintro e w' ⟨rfl, rfl⟩)
    have HE := HE.out
    have hR := HR.out
    have hB := hB.setCell (p := ⟨w.heap.size + 1 + 1, 0, none⟩) (by dsimp only; omega) (.int .i64 1)
    have hq := Hq.out
    have hc4 := cell_of_one (one_setCell (u := .int .i64 1) HE)
    have r0 := cell_at ((Below.heap_setCell _ ⟨w.heap.size + 1 + 1, 0, none⟩ (.int .i64 1) (w.heap.size + 1) (by dsimp only; omega)).trans hR) 0
    have r1 := cell_at ((Below.heap_setCell _ ⟨w.heap.size + 1 + 1, 0, none⟩ (.int .i64 1) (w.heap.size + 1) (by dsimp only; omega)).trans hR) 1
    have r2 := cell_at ((Below.heap_setCell _ ⟨w.heap.size + 1 + 1, 0, none⟩ (.int .i64 1) (w.heap.size + 1) (by dsimp only; omega)).trans hR) 2
    simp only [List.getElem?_toArray, List.getElem?_cons_zero, List.getElem?_cons_succ] at r0 r1 r2
    refine door_fault HE ⟨.tuple #[.agg #[.int .i64 0, .slice none 0 0, .slice none 0 0], .int .i64 1], by first | (simp [results, Try.results26, go_sem, hc4, r0, r1, r2]; done) | (simp [results, Try.results26, go_sem, hc4, r0, r1, r2]; rfl), ret_zero hq hB⟩
  have d5 : decide (size ≤ 768) = true := by simpa using h5
  go_wp2_with (go_at_call 37; refine (need_yes _ _).mono ?_; rintro e w' ⟨rfl, rfl⟩)
  refine (beyond_any _ P F T s size _ Hs.out (by omega) (by omega) Hrb.out Heb.out ⟨by omega, by omega⟩).mono ?_
  rintro e w2 ⟨rfl, hB2⟩
  have hBw2 := below_then hB hB2
  have HE2 := Lib.hid (block_below HE.out hB2)
  have HR2 := Lib.hid (block_below HR.out hB2)
  have HS2 := Lib.hid (Hs.out.below hB2)
  rw [Hpic.out]
  obtain ⟨bf, hbf⟩ : ∃ bf, bynd size p.fixed = bf := ⟨_, rfl⟩
  obtain ⟨ov, hov⟩ : ∃ ov, overF size p.files = ov := ⟨_, rfl⟩
  rw [hbf, hov]
  have Hq0 := Lib.hid (show resizeP p size = if bf = false ∧ ov = 0 then (⟨size, p.fixed, p.files⟩, 0) else (picZ, 13) by simp only [resizeP, Ho.out]; rw [if_neg (by omega), hbf, hov])
  clear hbf hov
  by_cases hc : bf = false ∧ ov = 0
  rotate_left
  · have hq : resizeP p size = (picZ, 13) := by rw [Hq0.out, if_neg hc]
    have Hq := Lib.hid hq; clear hq
    have Hc := Lib.hid hc; clear hc
    cases bf with
    | true =>
      go_wp2_with (go_at_call 37; refine (need_no _ _).mono ?_; rintro e w' ⟨rfl, rfl⟩)
      have HE := HE2.out
      have hR := HR2.out
      have hB := hBw2.setCell (p := ⟨w.heap.size + 1 + 1, 0, none⟩) (by dsimp only; omega) (.int .i64 13)
      have hq := Hq.out
      have hc4 := cell_of_one (one_setCell (u := .int .i64 13) HE)
      have r0 := cell_at ((Below.heap_setCell _ ⟨w.heap.size + 1 + 1, 0, none⟩ (.int .i64 13) (w.heap.size + 1) (by dsimp only; omega)).trans hR) 0
      have r1 := cell_at ((Below.heap_setCell _ ⟨w.heap.size + 1 + 1, 0, none⟩ (.int .i64 13) (w.heap.size + 1) (by dsimp only; omega)).trans hR) 1
      have r2 := cell_at ((Below.heap_setCell _ ⟨w.heap.size + 1 + 1, 0, none⟩ (.int .i64 13) (w.heap.size + 1) (by dsimp only; omega)).trans hR) 2
      simp only [List.getElem?_toArray, List.getElem?_cons_zero, List.getElem?_cons_succ] at r0 r1 r2
      refine door_fault HE ⟨.tuple #[.agg #[.int .i64 0, .slice none 0 0, .slice none 0 0], .int .i64 13], by first | (simp [results, Try.results26, go_sem, hc4, r0, r1, r2]; done) | (simp [results, Try.results26, go_sem, hc4, r0, r1, r2]; rfl), ret_zero hq hB⟩
    | false =>
      have dov : (ov == 0) = false := by have := Hc.out; simp at this; simpa using this
      go_wp2_with (go_at_call 37; refine (need_no _ _).mono ?_; rintro e w' ⟨rfl, rfl⟩)
      have HE := HE2.out
      have hR := HR2.out
      have hB := hBw2.setCell (p := ⟨w.heap.size + 1 + 1, 0, none⟩) (by dsimp only; omega) (.int .i64 13)
      have hq := Hq.out
      have hc4 := cell_of_one (one_setCell (u := .int .i64 13) HE)
      have r0 := cell_at ((Below.heap_setCell _ ⟨w.heap.size + 1 + 1, 0, none⟩ (.int .i64 13) (w.heap.size + 1) (by dsimp only; omega)).trans hR) 0
      have r1 := cell_at ((Below.heap_setCell _ ⟨w.heap.size + 1 + 1, 0, none⟩ (.int .i64 13) (w.heap.size + 1) (by dsimp only; omega)).trans hR) 1
      have r2 := cell_at ((Below.heap_setCell _ ⟨w.heap.size + 1 + 1, 0, none⟩ (.int .i64 13) (w.heap.size + 1) (by dsimp only; omega)).trans hR) 2
      simp only [List.getElem?_toArray, List.getElem?_cons_zero, List.getElem?_cons_succ] at r0 r1 r2
      refine door_fault HE ⟨.tuple #[.agg #[.int .i64 0, .slice none 0 0, .slice none 0 0], .int .i64 13], by first | (simp [results, Try.results26, go_sem, hc4, r0, r1, r2]; done) | (simp [results, Try.results26, go_sem, hc4, r0, r1, r2]; rfl), ret_zero hq hB⟩
  have hq : resizeP p size = (⟨size, p.fixed, p.files⟩, 0) := by rw [Hq0.out, if_pos hc]
  have Hq := Lib.hid hq; clear hq
  obtain ⟨rfl, rfl⟩ := hc
  have hPb : ∃ c f, w2.heap[P]? = some (.cells c 72 f) := by
    obtain ⟨a1, a2, a3, Ax, cx, Fa, cf, cT, st, h1, _⟩ := HS2.out
    exact ⟨_, _, h1⟩
  obtain ⟨cP, fP, hPb⟩ := hPb
  obtain ⟨Ax', cx', Fa', cf', cT', st', p0, p1, p2, -, -, -, -, -⟩ := HS2.out.cellP
  have zP : w2.frozen? ⟨P, 0, none⟩ = false := by
    obtain ⟨a1, a2, a3, Ax, cx, Fa, cf, cT, st, h1, _⟩ := HS2.out
    exact free_at h1 0
  have hR0 := cell_at HR2.out 0; have hR1 := cell_at HR2.out 1; have hR2 := cell_at HR2.out 2
  simp only [List.getElem?_toArray, List.getElem?_cons_zero, List.getElem?_cons_succ] at hR0 hR1 hR2
  have zR0 := free_at HR2.out 0; have zR1 := free_at HR2.out 1; have zR2 := free_at HR2.out 2
  have hcE := cell_of_one HE2.out
  have hzE := free_of_one HE2.out
  have hne1 : ¬ P = w.heap.size + 1 := by omega
  have hne2 : ¬ P = w.heap.size + 1 + 1 := by omega
  have hne3 : ¬ w.heap.size + 1 = P := by omega
  have hne4 : ¬ w.heap.size + 1 + 1 = P := by omega
  have HPb := Lib.hid hPb; clear hPb
  go_wp2_with (go_at_call 37; refine (need_yes _ _).mono ?_; rintro e w' ⟨rfl, rfl⟩)
  have oR : (w2.setCell ⟨P, 0, none⟩ (.int .i64 size)).heap[w.heap.size + 1]? = _ := (Below.heap_setCell _ _ _ _ (by dsimp only; omega)).trans HR2.out
  have oE : (w2.setCell ⟨P, 0, none⟩ (.int .i64 size)).heap[w.heap.size + 1 + 1]? = _ := (Below.heap_setCell _ _ _ _ (by dsimp only; omega)).trans HE2.out
  have q1 := setPic oR (by omega) (.int .i64 size) (.slice Ax' s.pic.fixed.length cx') (.slice Fa' s.pic.files.length cf') (.int .i64 0) (E := w.heap.size + 1 + 1)
  have q2 := setPic_E oE (by omega) (.int .i64 size) (.slice Ax' s.pic.fixed.length cx') (.slice Fa' s.pic.files.length cf') (.int .i64 0) (R := w.heap.size + 1)
  have hPic := HS2.out.pic3 (w' := (((((w2.setCell ⟨P, 0, none⟩ (.int .i64 size)).setCell ⟨w.heap.size + 1, 0, none⟩ (.int .i64 size)).setCell ⟨w.heap.size + 1, 1, none⟩ (.slice Ax' s.pic.fixed.length cx')).setCell ⟨w.heap.size + 1, 2, none⟩ (.slice Fa' s.pic.files.length cf')).setCell ⟨w.heap.size + 1 + 1, 0, none⟩ (.int .i64 0))) (fun k c t f hk ht => (setPic_other (fun e => by subst e; rw [HR2.out] at hk; cases hk; simp at ht) (fun e => by subst e; rw [HE2.out] at hk; cases hk; simp at ht) _ _ _ _).trans ((Below.heap_setCell _ _ _ _ (fun e => by dsimp only at e; subst e; rw [HPb.out] at hk; cases hk; simp at ht)).trans hk)) p1 p2 size
  have hBf := setPic_below (hBw2.setCell (p := ⟨P, 0, none⟩) (by dsimp only; omega) (.int .i64 size)) (R := w.heap.size + 1) (E := w.heap.size + 1 + 1) (by omega) (by omega) (.int .i64 size) (.slice Ax' s.pic.fixed.length cx') (.slice Fa' s.pic.files.length cf') (.int .i64 0)
  have c0 := cell_at q1 0; have c1 := cell_at q1 1; have c2 := cell_at q1 2; have cE := cell_at q2 0
  simp only [List.getElem?_toArray, List.getElem?_cons_zero, List.getElem?_cons_succ] at c0 c1 c2 cE
  refine door_ret ⟨.tuple #[.agg #[.int .i64 size, .slice Ax' s.pic.fixed.length cx', .slice Fa' s.pic.files.length cf'], .int .i64 0], by first | (simp [results, Try.results26, go_sem, c0, c1, c2, cE]; done) | (simp [results, Try.results26, go_sem, c0, c1, c2, cE]; rfl), ret_pic Hq.out ?_ hBf⟩
  have := hPic
  rw [Hpic.out] at this ⊢
  exact this

end Go.Proofs.Yteipclnlfanfeaa

/- move: Run, Apply. -/
namespace Go.Proofs.Yteipclnlfanfeaa
open Go.RowKit

def applyAll (s : Spc) : List Step → Except Int Spc
  | [] => .ok s
  | x :: l => match applyL s x with
    | .ok s' => applyAll s' l
    | .error e => .error e
def runP (p : Pic) (l : List Step) : Pic × Int := match openL p with
  | none => (picZ, 9)
  | some s => if l.length ≤ 5000 then match applyAll s l with
      | .ok s' => (s'.pic, 0)
      | .error e => (picZ, e)
    else (picZ, 1)

/-- the cells of a slice of steps -/
def StepC (w : World) (A : Option Addr) (l : List Step) : Prop :=
  ∀ k (h : k < l.length), ∃ b o, A = some ⟨b, o, none⟩ ∧ w.cell? ⟨b, o + k * 4, none⟩ = some (.int .i64 l[k].no) ∧ w.cell? ⟨b, o + k * 4 + 1, none⟩ = some (.int .i64 l[k].from_) ∧
    w.cell? ⟨b, o + k * 4 + 2, none⟩ = some (.int .i64 l[k].to) ∧ w.cell? ⟨b, o + k * 4 + 3, none⟩ = some (.int .i64 l[k].many)
theorem StepC.below {w w' : World} {A : Option Addr} {l : List Step} (h : StepC w A l) (hB : Below w.heap.size w w') : StepC w' A l := by
  intro k hk
  obtain ⟨b, o, hA, h0, h1, h2, h3⟩ := h k hk
  exact ⟨b, o, hA, cell_below h0 hB, cell_below h1 hB, cell_below h2 hB, cell_below h3 hB⟩
theorem applyAll_ok {s s' : Spc} {l : List Step} {k : Nat} (hk : k < l.length) (h : applyL s l[k] = .ok s') : applyAll s (l.drop k) = applyAll s' (l.drop (k + 1)) := by
  rw [List.drop_eq_getElem_cons hk, applyAll, h]
theorem applyAll_error {s : Spc} {l : List Step} {k : Nat} {e : Int} (hk : k < l.length) (h : applyL s l[k] = .error e) : applyAll s (l.drop k) = .error e := by
  rw [List.drop_eq_getElem_cons hk, applyAll, h]

/-- what stands in the loop of Run -/
structure RunS (n0 P F T : Nat) (s : Spc) (k : Nat) (w1 wr : World) : Prop where
  good : Good s
  steps : s.steps.length ≤ k
  spc : SpC n0 P F T s wr
  below : Below n0 w1 wr
theorem RunS.next {n0 P F T k : Nat} {s s' : Spc} {w1 wr w2 : World} {x : Step} (h : RunS n0 P F T s k w1 wr) (hk : k ≤ 1000000) (ha : applyL s x = .ok s') (hs : SpC n0 P F T s' w2) (hB : Below n0 wr w2) : RunS n0 P F T s' (k + 1) w1 w2 :=
  ⟨good_applyL h.good (by have := h.steps; omega) ha, by
    obtain ⟨_, _, _, _, _, _, _, _, _, _, _, _, _, _, _, _, h14⟩ := applyL_ok ha
    rw [h14]; simp; exact h.steps, hs, h.below.trans hB⟩

set_option maxRecDepth 100000 in
set_option maxHeartbeats 4000000 in
theorem run_pic (p : Pic) (l : List Step) (v : Value) (A : Option Addr) (c : Nat) (w : World) (hp : PicC w v p) (hn : PicOk p) (hl : StepC w A l) (hln : l.length ≤ 1099511627776) :
    Calls Try.prog 10 #[v, .slice A l.length c] w (RetPic (runP p l).1 (runP p l).2 w) := by
  have hmf : ∀ (fn : Fn) (first cap : Array Value) (w : World), (Instr.makeFunc fn first cap).run Try.prog w = .ok (.func fn first cap) w := fun _ _ _ _ => rfl
  have hpc := hp
  obtain ⟨Ax, cx, Fa, cf, rfl, -, -⟩ := hp
  have hB0 := below_alloc (below_alloc (below_alloc (Below.refl _ w) (.cells #[.int .i64 p.size, .slice Ax p.fixed.length cx, .slice Fa p.files.length cf] 25)) (.cells #[.int .i64 0, .slice none 0 0, .slice none 0 0] 25)) (.cells #[.int .i64 0] 29)
  have hpc1 := hpc.below hB0
  have hl0 := hl.below hB0
  have hbR := heap_alloc_old' (heap_new (w.alloc (.cells #[.int .i64 p.size, .slice Ax p.fixed.length cx, .slice Fa p.files.length cf] 25)) (.cells #[.int .i64 0, .slice none 0 0, .slice none 0 0] 25) (n := w.heap.size + 1) (by simp)) (.cells #[.int .i64 0] 29)
  have hbE := heap_new ((w.alloc (.cells #[.int .i64 p.size, .slice Ax p.fixed.length cx, .slice Fa p.files.length cf] 25)).alloc (.cells #[.int .i64 0, .slice none 0 0, .slice none 0 0] 25)) (.cells #[.int .i64 0] 29) (n := w.heap.size + 1 + 1) (by simp)
  have HbE := Lib.hid hbE; clear hbE
  have HbR := Lib.hid hbR; clear hbR
  go_enter_defers Try.func10, Try.ntmps10
  go_wp2_with fail
  obtain ⟨W0, hW0⟩ : ∃ W0, ((w.alloc (.cells #[.int .i64 p.size, .slice Ax p.fixed.length cx, .slice Fa p.files.length cf] 25)).alloc (.cells #[.int .i64 0, .slice none 0 0, .slice none 0 0] 25)).alloc (.cells #[.int .i64 0] 29) = W0 := ⟨_, rfl⟩
  rw [hW0] at hB0 hpc1 hl0 HbR HbE ⊢
  clear hW0
  refine (open_pic p _ _ hpc1 hn).mono ?_
  rintro e w1 ⟨⟨s, P, F, T, ho, rfl, hs, hF⟩ | ⟨ho, rfl⟩, hB1⟩
  rotate_left
  · have HE := block_below HbE.out hB1
    have hR := block_below HbR.out hB1
    have hB := (below_then hB0 hB1).setCell (p := ⟨w.heap.size + 1 + 1, 0, none⟩) (by dsimp only; omega) (.int .i64 9)
    have hq : runP p l = (picZ, 9) := by simp [runP, ho]
    have hc4 := cell_of_one (one_setCell (u := .int .i64 9) HE)
    have r0 := cell_at ((Below.heap_setCell _ ⟨w.heap.size + 1 + 1, 0, none⟩ (.int .i64 9) (w.heap.size + 1) (by dsimp only; omega)).trans hR) 0
    have r1 := cell_at ((Below.heap_setCell _ ⟨w.heap.size + 1 + 1, 0, none⟩ (.int .i64 9) (w.heap.size + 1) (by dsimp only; omega)).trans hR) 1
    have r2 := cell_at ((Below.heap_setCell _ ⟨w.heap.size + 1 + 1, 0, none⟩ (.int .i64 9) (w.heap.size + 1) (by dsimp only; omega)).trans hR) 2
    simp only [List.getElem?_toArray, List.getElem?_cons_zero, List.getElem?_cons_succ] at r0 r1 r2
    refine door_fault HE ⟨.tuple #[.agg #[.int .i64 0, .slice none 0 0, .slice none 0 0], .int .i64 9], by first | (simp [results, Try.results10, go_sem, hc4, r0, r1, r2]; done) | (simp [results, Try.results10, go_sem, hc4, r0, r1, r2]; rfl), ret_zero hq hB⟩
  have hop := openL_spec ho
  have hgood := hop.good
  have hst := hop.steps
  obtain ⟨lP, lT⟩ := hs.lts
  have hB := below_then hB0 hB1
  have HE := Lib.hid (block_below HbE.out hB1)
  have HR := Lib.hid (block_below HbR.out hB1)
  have hn0P : W0.heap.size ≤ P := hs.1
  have hEl := lt_of_block HbE.out
  have hEl : w.heap.size + 1 + 1 < W0.heap.size := hEl
  have Hs := Lib.hid hs; have Ho := Lib.hid ho; have Hgood := Lib.hid hgood; have Hst := Lib.hid hst
  have hl1 := hl0.below hB1
  clear hs ho hop hgood hst hpc1
  by_cases h5 : l.length ≤ 5000
  rotate_left
  · have d5 : decide ((l.length : Int) ≤ 5000) = false := by simp; omega
    have hq : runP p l = (picZ, 1) := by simp only [runP, Ho.out]; rw [if_neg h5]
    have Hq := Lib.hid hq; clear hq
    go_wp2_with (go_at_call 37; refine (need_no _ _).mono ?_; rintro e w' ⟨rfl, rfl⟩)
    have HE := HE.out
    have hR := HR.out
    have hB := hB.setCell (p := ⟨w.heap.size + 1 + 1, 0, none⟩) (by dsimp only; omega) (.int .i64 1)
    have hq := Hq.out
    have hc4 := cell_of_one (one_setCell (u := .int .i64 1) HE)
    have r0 := cell_at ((Below.heap_setCell _ ⟨w.heap.size + 1 + 1, 0, none⟩ (.int .i64 1) (w.heap.size + 1) (by dsimp only; omega)).trans hR) 0
    have r1 := cell_at ((Below.heap_setCell _ ⟨w.heap.size + 1 + 1, 0, none⟩ (.int .i64 1) (w.heap.size + 1) (by dsimp only; omega)).trans hR) 1
    have r2 := cell_at ((Below.heap_setCell _ ⟨w.heap.size + 1 + 1, 0, none⟩ (.int .i64 1) (w.heap.size + 1) (by dsimp only; omega)).trans hR) 2
    simp only [List.getElem?_toArray, List.getElem?_cons_zero, List.getElem?_cons_succ] at r0 r1 r2
    refine door_fault HE ⟨.tuple #[.agg #[.int .i64 0, .slice none 0 0, .slice none 0 0], .int .i64 1], by first | (simp [results, Try.results10, go_sem, hc4, r0, r1, r2]; done) | (simp [results, Try.results10, go_sem, hc4, r0, r1, r2]; rfl), ret_zero hq hB⟩
  have d5 : decide ((l.length : Int) ≤ 5000) = true := by simp; omega
  have Hq0 := Lib.hid (show runP p l = (match applyAll s l with | .ok s' => (s'.pic, 0) | .error e => (picZ, e)) by simp only [runP, Ho.out]; rw [if_pos h5])
  go_wp2_with (go_at_call 37; refine (need_yes _ _).mono ?_; rintro e w' ⟨rfl, rfl⟩)
  obtain ⟨n0, hn0⟩ : ∃ n0, W0.heap.size = n0 := ⟨_, rfl⟩
  have hs1 := Hs.out
  rw [hn0] at hs1 hn0P hEl
  have Hn0 := Lib.hid hn0
  have Hs1 := Lib.hid hs1
  clear hn0 hs1 Hs
  go_loopw [20] (fun i wr => ∃ (k : Nat) (s' : Spc), k ≤ l.length ∧ i = .int .i64 k ∧ Hid (applyAll s l = applyAll s' (l.drop k)) ∧ RunS n0 P F T s' k w1 wr) (fun i _ => l.length - (intOf i).toNat)
  case atStart => exact ⟨0, s, by omega, by simp, Lib.hid (by simp), Hgood.out, by rw [Hst.out]; simp, Hs1.out, Below.refl _ _⟩
  case round =>
    obtain ⟨k, s', hk, rfl, HL, hRS⟩ := hrel
    have hBn : Below n0 W0 wr := (by have := hB1; rw [Hn0.out] at this; exact this.trans hRS.below)
    have hBw : Below w.heap.size w wr := hB0.trans (hBn.mono (by have := hB0.size; have := Hn0.out; omega))
    have HEr : Hid (wr.heap[w.heap.size + 1 + 1]? = some (.cells #[.int .i64 0] 29 (0, 0))) := Lib.hid ((hBn.block _ hEl).trans HbE.out)
    have HRr : Hid (wr.heap[w.heap.size + 1]? = some (.cells #[.int .i64 0, .slice none 0 0, .slice none 0 0] 25 (0, 0))) := Lib.hid ((hBn.block _ (by omega)).trans HbR.out)
    by_cases hlt : k < l.length
    · obtain ⟨b, o, rfl, e0, e1, e2, e3⟩ := (hl.below hBw) k hlt
      have hB35 := below_alloc (Below.refl wr.heap.size wr) (.cells #[.int .i64 l[k].no, .int .i64 l[k].from_, .int .i64 l[k].to, .int .i64 l[k].many] 35)
      have hS35 := hRS.spc.below hB35
      have HS := Lib.hid hRS
      have HS35 := Lib.hid hS35
      clear hRS hS35
      have hn0r : n0 ≤ wr.heap.size := by have := HS.out.spc.lts; omega
      go_wp2_with fail
      refine (apply_any n0 P F T s' l[k] _ HS.out.good HS35.out).mono ?_
      rintro e w3 ⟨⟨s2, ha, rfl, hs3⟩ | ⟨er, ha, rfl⟩, hF3⟩
      · have hnx := HL.out.trans (applyAll_ok hlt ha)
        have HN := Lib.hid hnx
        have hrs := HS.out.next (by omega) ha hs3 ((hB35.mono hn0r).trans hF3.1)
        have HRS := Lib.hid hrs
        clear hnx hrs hs3 hF3 ha
        go_wp2_with fail
        exact ⟨⟨k + 1, s2, by omega, by simp, HN, HRS.out⟩, by simp [intOf]; omega⟩
      · have hq : runP p l = (picZ, er) := by rw [Hq0.out, HL.out, applyAll_error hlt ha]
        have hB3 : Below n0 wr w3 := (hB35.mono hn0r).trans hF3.1
        have HE := (hB3.block _ hEl).trans HEr.out
        have hR := (hB3.block _ (by omega)).trans HRr.out
        have hB := (hBw.trans (hB3.mono (by have := hB0.size; have := Hn0.out; omega))).setCell (p := ⟨w.heap.size + 1 + 1, 0, none⟩) (by dsimp only; omega) (.int .i64 er)
        have hc4 := cell_of_one (one_setCell (u := .int .i64 er) HE)
        have r0 := cell_at ((Below.heap_setCell _ ⟨w.heap.size + 1 + 1, 0, none⟩ (.int .i64 er) (w.heap.size + 1) (by dsimp only; omega)).trans hR) 0
        have r1 := cell_at ((Below.heap_setCell _ ⟨w.heap.size + 1 + 1, 0, none⟩ (.int .i64 er) (w.heap.size + 1) (by dsimp only; omega)).trans hR) 1
        have r2 := cell_at ((Below.heap_setCell _ ⟨w.heap.size + 1 + 1, 0, none⟩ (.int .i64 er) (w.heap.size + 1) (by dsimp only; omega)).trans hR) 2
        simp only [List.getElem?_toArray, List.getElem?_cons_zero, List.getElem?_cons_succ] at r0 r1 r2
        refine door_fault HE ⟨.tuple #[.agg #[.int .i64 0, .slice none 0 0, .slice none 0 0], .int .i64 er], by first | (simp [results, Try.results10, go_sem, hc4, r0, r1, r2]; done) | (simp [results, Try.results10, go_sem, hc4, r0, r1, r2]; rfl), ret_zero hq hB⟩
    · obtain rfl : k = l.length := by omega
      have hL := HL.out
      rw [List.drop_length] at hL
      have hq : runP p l = (s'.pic, 0) := by rw [Hq0.out, hL]; rfl
      have Hq := Lib.hid hq
      clear hq hL
      have HS := Lib.hid hRS
      clear hRS
      obtain ⟨Ax', cx', Fa', cf', cT', st', p0, p1, p2, -, -, -, -, -⟩ := HS.out.spc.cellP
      have hR0 := cell_at HRr.out 0; have hR1 := cell_at HRr.out 1; have hR2 := cell_at HRr.out 2
      simp only [List.getElem?_toArray, List.getElem?_cons_zero, List.getElem?_cons_succ] at hR0 hR1 hR2
      have zR0 := free_at HRr.out 0; have zR1 := free_at HRr.out 1; have zR2 := free_at HRr.out 2
      have hcE := cell_of_one HEr.out
      have hzE := free_of_one HEr.out
      go_wp2_with fail
      have q1 := setPic HRr.out (by omega) (.int .i64 s'.pic.size) (.slice Ax' s'.pic.fixed.length cx') (.slice Fa' s'.pic.files.length cf') (.int .i64 0) (E := w.heap.size + 1 + 1)
      have q2 := setPic_E HEr.out (by omega) (.int .i64 s'.pic.size) (.slice Ax' s'.pic.fixed.length cx') (.slice Fa' s'.pic.files.length cf') (.int .i64 0) (R := w.heap.size + 1)
      have hPic := HS.out.spc.pic3 (w' := ((((wr.setCell ⟨w.heap.size + 1, 0, none⟩ (.int .i64 s'.pic.size)).setCell ⟨w.heap.size + 1, 1, none⟩ (.slice Ax' s'.pic.fixed.length cx')).setCell ⟨w.heap.size + 1, 2, none⟩ (.slice Fa' s'.pic.files.length cf')).setCell ⟨w.heap.size + 1 + 1, 0, none⟩ (.int .i64 0))) (fun k c t f hk ht => (setPic_other (fun e => by subst e; rw [HRr.out] at hk; cases hk; simp at ht) (fun e => by subst e; rw [HEr.out] at hk; cases hk; simp at ht) _ _ _ _).trans hk) p1 p2 s'.pic.size
      have hBf := setPic_below hBw (R := w.heap.size + 1) (E := w.heap.size + 1 + 1) (by omega) (by omega) (.int .i64 s'.pic.size) (.slice Ax' s'.pic.fixed.length cx') (.slice Fa' s'.pic.files.length cf') (.int .i64 0)
      have c0 := cell_at q1 0; have c1 := cell_at q1 1; have c2 := cell_at q1 2; have cE := cell_at q2 0
      simp only [List.getElem?_toArray, List.getElem?_cons_zero, List.getElem?_cons_succ] at c0 c1 c2 cE
      exact door_ret ⟨.tuple #[.agg #[.int .i64 s'.pic.size, .slice Ax' s'.pic.fixed.length cx', .slice Fa' s'.pic.files.length cf'], .int .i64 0], by first | (simp [results, Try.results10, go_sem, c0, c1, c2, cE]; done) | (simp [results, Try.results10, go_sem, c0, c1, c2, cE]; rfl), ret_pic Hq.out hPic hBf⟩

set_option maxRecDepth 100000 in
theorem apply_pic (p : Pic) (x : Step) (v : Value) (w : World) (hp : PicC w v p) (hn : PicOk p) :
    Calls Try.prog 13 #[v, .agg #[.int .i64 x.no, .int .i64 x.from_, .int .i64 x.to, .int .i64 x.many]] w (RetPic (runP p [x]).1 (runP p [x]).2 w) := by
  have hpc := hp
  obtain ⟨Ax, cx, Fa, cf, rfl, -, -⟩ := hp
  have hB0 := below_alloc (below_alloc (below_alloc (below_alloc (Below.refl _ w) (.cells #[.int .i64 p.size, .slice Ax p.fixed.length cx, .slice Fa p.files.length cf] 25)) (.cells #[.int .i64 x.no, .int .i64 x.from_, .int .i64 x.to, .int .i64 x.many] 35)) (.cells #[.int .i64 0, .slice none 0 0, .slice none 0 0] 25)) (.cells #[.int .i64 x.no, .int .i64 x.from_, .int .i64 x.to, .int .i64 x.many] 35)
  have hpc1 := hpc.below hB0
  have hbR := heap_alloc_old' (heap_new ((w.alloc (.cells #[.int .i64 p.size, .slice Ax p.fixed.length cx, .slice Fa p.files.length cf] 25)).alloc (.cells #[.int .i64 x.no, .int .i64 x.from_, .int .i64 x.to, .int .i64 x.many] 35)) (.cells #[.int .i64 0, .slice none 0 0, .slice none 0 0] 25) (n := w.heap.size + 1 + 1) (by simp)) (.cells #[.int .i64 x.no, .int .i64 x.from_, .int .i64 x.to, .int .i64 x.many] 35)
  have hbS := heap_new (((w.alloc (.cells #[.int .i64 p.size, .slice Ax p.fixed.length cx, .slice Fa p.files.length cf] 25)).alloc (.cells #[.int .i64 x.no, .int .i64 x.from_, .int .i64 x.to, .int .i64 x.many] 35)).alloc (.cells #[.int .i64 0, .slice none 0 0, .slice none 0 0] 25)) (.cells #[.int .i64 x.no, .int .i64 x.from_, .int .i64 x.to, .int .i64 x.many] 35) (n := w.heap.size + 1 + 1 + 1) (by simp)
  have HbR := Lib.hid hbR; have HbS := Lib.hid hbS
  clear hbR hbS
  go_enter Try.func13, Try.ntmps13
  go_wp2_with fail
  obtain ⟨W0, hW0⟩ : ∃ W0, (((w.alloc (.cells #[.int .i64 p.size, .slice Ax p.fixed.length cx, .slice Fa p.files.length cf] 25)).alloc (.cells #[.int .i64 x.no, .int .i64 x.from_, .int .i64 x.to, .int .i64 x.many] 35)).alloc (.cells #[.int .i64 0, .slice none 0 0, .slice none 0 0] 25)).alloc (.cells #[.int .i64 x.no, .int .i64 x.from_, .int .i64 x.to, .int .i64 x.many] 35) = W0 := ⟨_, rfl⟩
  rw [hW0] at hB0 hpc1 HbR HbS ⊢
  clear hW0
  have hst : StepC W0 (some ⟨w.heap.size + 1 + 1 + 1, 0, none⟩) [x] := by
    intro k hk
    obtain rfl : k = 0 := by simp at hk; omega
    have h0 := cell_at HbS.out 0; have h1 := cell_at HbS.out 1; have h2 := cell_at HbS.out 2; have h3 := cell_at HbS.out 3
    exact ⟨_, _, rfl, by simpa using h0, by simpa using h1, by simpa using h2, by simpa using h3⟩
  refine (run_pic p [x] _ _ 1 _ hpc1 hn hst (by simp)).mono ?_
  rintro e w1 ⟨⟨v, rfl, hv⟩, hB1⟩
  obtain ⟨q, hq⟩ : ∃ q, runP p [x] = q := ⟨_, rfl⟩
  rw [hq] at hv
  have Hq := Lib.hid hq
  rw [hq]
  clear hq
  have hv' := hv
  obtain ⟨Ax', cx', Fa', cf', F', rfl, hx', hf'⟩ := hv
  have HR := Lib.hid (block_below HbR.out hB1)
  have hR0 := cell_at HR.out 0; have hR1 := cell_at HR.out 1; have hR2 := cell_at HR.out 2
  simp only [List.getElem?_toArray, List.getElem?_cons_zero, List.getElem?_cons_succ] at hR0 hR1 hR2
  have zR0 := free_at HR.out 0; have zR1 := free_at HR.out 1; have zR2 := free_at HR.out 2
  have hBw := below_then hB0 hB1
  go_wp2_with fail
  have hne : w.heap.size + 1 + 1 ≠ w.heap.size := by omega
  have e1 := heap_setCell_at (o := 0) HR.out (.int .i64 q.1.size)
  have e2 := heap_setCell_at (o := 1) e1 (.slice Ax' q.1.fixed.length cx')
  have e3 := heap_setCell_at (o := 2) e2 (.slice Fa' q.1.files.length cf')
  simp only [List.setIfInBounds_toArray, List.set_cons_zero, List.set_cons_succ] at e3
  have hPic := hv'.kept (w' := (((w1.setCell ⟨w.heap.size + 1 + 1, 0, none⟩ (.int .i64 q.1.size)).setCell ⟨w.heap.size + 1 + 1, 1, none⟩ (.slice Ax' q.1.fixed.length cx')).setCell ⟨w.heap.size + 1 + 1, 2, none⟩ (.slice Fa' q.1.files.length cf'))) (fun k c t f hk ht => by
    have hkR : k ≠ w.heap.size + 1 + 1 := fun e => by subst e; rw [HR.out] at hk; cases hk; simp at ht
    exact (Below.heap_setCell _ _ _ _ hkR).trans ((Below.heap_setCell _ _ _ _ hkR).trans ((Below.heap_setCell _ _ _ _ hkR).trans hk)))
  have hBf := ((hBw.setCell (p := ⟨w.heap.size + 1 + 1, 0, none⟩) (by dsimp only; omega) (.int .i64 q.1.size)).setCell (p := ⟨w.heap.size + 1 + 1, 1, none⟩) (by dsimp only; omega) (.slice Ax' q.1.fixed.length cx')).setCell (p := ⟨w.heap.size + 1 + 1, 2, none⟩) (by dsimp only; omega) (.slice Fa' q.1.files.length cf')
  have c0 := cell_at e3 0; have c1 := cell_at e3 1; have c2 := cell_at e3 2
  simp only [List.getElem?_toArray, List.getElem?_cons_zero, List.getElem?_cons_succ] at c0 c1 c2
  exact bodyPost_ret (v := .tuple #[.agg #[.int .i64 q.1.size, .slice Ax' q.1.fixed.length cx', .slice Fa' q.1.files.length cf'], .int .i64 q.2]) (by first | (simp [results, Try.results13, go_sem, c0, c1, c2]; done) | (simp [results, Try.results13, go_sem, c0, c1, c2]; rfl)) rfl (ret_pic (q := runP p [x]) (by rw [Hq.out]) hPic hBf)

end Go.Proofs.Yteipclnlfanfeaa

/- move: evict. -/
namespace Go.Proofs.Yteipclnlfanfeaa
open Go.RowKit

/-- the extent that evict takes -/
def evX (s : Spc) (left : Int) (size : Nat) : Ext := match bestL (fun x : Ext => decide (left ≤ x.many)) (fun a b : Ext => decide (a.many < b.many)) (freeL s.tk size) with
  | some x => x
  | none => exOf (bestL (fun _ : Ext => true) (fun a b : Ext => decide (b.many < a.many)) (freeL s.tk size))
def evStep (no end_ : Int) (s : Spc) (left : Int) (size : Nat) : Step := ⟨no, end_ - left, (evX s left size).page, min left (evX s left size).many⟩
def evictL (no end_ : Int) (size : Nat) : Nat → Spc → Int → Except Int Spc
  | 0, s, _ => .ok s
  | n + 1, s, left => if left ≤ 0 then .ok s else
    match applyL s (evStep no end_ s left size) with
    | .error e => .error e
    | .ok s' => evictL no end_ size n s' (left - min left (evX s left size).many)

def EvictPost (n0 P F T : Nat) (r : Except Int Spc) (m : Nat) (w : World) (e : Ending) (w' : World) : Prop :=
  ((∃ s', r = .ok s' ∧ e = .returned (.tuple #[]) ∧ SpC n0 P F T s' w' ∧ Good s' ∧ s'.steps.length ≤ m) ∨ (∃ er, r = .error er ∧ e = faulted 110 er)) ∧ FrS n0 P F T w w'

theorem FrS.setNew {n0 P F T b o : Nat} {w w2 : World} (h : FrS n0 P F T w w2) (hb : w.heap.size ≤ b) (hn : n0 ≤ b) (v : Value) : FrS n0 P F T w (w2.setCell ⟨b, o, none⟩ v) :=
  ⟨h.1.setCell (p := ⟨b, o, none⟩) hn v, fun k ob hk hP hF hT h35 => (Below.heap_setCell _ _ _ _ (by have := (Array.getElem?_eq_some_iff.1 hk).1; dsimp only; omega)).trans (h.2 k ob hk hP hF hT h35)⟩

theorem applyL_tk {s s' : Spc} {x : Step} (h : applyL s x = .ok s') : s'.tk.length = s.tk.length := by
  obtain ⟨_, _, _, _, _, _, _, _, _, _, _, _, _, h1, h2, _⟩ := applyL_ok h
  rw [takeL_length h2, takeL_length h1]
theorem applyL_steps {s s' : Spc} {x : Step} (h : applyL s x = .ok s') : s'.steps = s.steps ++ [x] := by
  obtain ⟨_, _, _, _, _, _, _, _, _, _, _, _, _, _, _, _, h14⟩ := applyL_ok h
  exact h14
theorem applyL_many {s s' : Spc} {x : Step} (h : applyL s x = .ok s') : 1 ≤ x.many := by
  obtain ⟨_, _, _, _, h2, _⟩ := applyL_ok h
  exact h2

/-- the numbers of an extent that is found -/
theorem bestL_mem {may : Ext → Bool} {better : Ext → Ext → Bool} {l : List Ext} {x : Ext} (h : bestL may better l = some x) : x ∈ l ∧ may x = true := by
  have key : ∀ (l : List Ext) (acc : Option Ext), l.foldl (bestStep may better) acc = some x → (x ∈ l ∧ may x = true) ∨ acc = some x := by
    intro l
    induction l with
    | nil => intro acc h; exact .inr h
    | cons y l ih =>
      intro acc h
      rcases ih _ h with h1 | h1
      · exact .inl ⟨by simp [h1.1], h1.2⟩
      · unfold bestStep at h1
        split at h1
        · rename_i hm
          cases acc with
          | none => simp only [Option.some.injEq] at h1; subst h1; exact .inl ⟨by simp, hm⟩
          | some z =>
            dsimp only at h1
            split at h1
            · cases h1; exact .inl ⟨by simp, hm⟩
            · exact .inr h1
        · exact .inr h1
  rcases key l none h with h | h
  · exact h
  · cases h
theorem freeGo_mem {x : Ext} : ∀ (l : List Bool) (a n : Nat), x ∈ freeGo a l n → n ≤ a → (a : Int) - n ≤ x.page ∧ 1 ≤ x.many ∧ x.page + x.many ≤ a + l.length := by
  intro l
  induction l with
  | nil =>
    intro a n h hn
    cases n with
    | zero => simp [freeGo] at h
    | succ n => simp [freeGo] at h; subst h; dsimp only; simp; omega
  | cons b l ih =>
    intro a n h hn
    cases b with
    | true =>
      cases n with
      | zero => have := ih (a + 1) 0 (by simpa [freeGo] using h) (by omega); simp at this ⊢; omega
      | succ n =>
        simp only [freeGo, List.mem_cons] at h
        rcases h with rfl | h
        · dsimp only; simp; omega
        · have := ih (a + 1) 0 h (by omega); simp at this ⊢; omega
    | false =>
      have := ih (a + 1) (n + 1) (by cases n <;> simpa [freeGo] using h) (by omega); simp at this ⊢; omega
theorem freeL_mem {x : Ext} {tk : List Bool} {size : Nat} (h : x ∈ freeL tk size) : 0 ≤ x.page ∧ 1 ≤ x.many ∧ x.page + x.many ≤ tk.length := by
  have := freeGo_mem (tk.take size) 0 0 h (by omega)
  simp at this
  omega
theorem evX_bd (s : Spc) (left : Int) (size : Nat) : 0 ≤ (evX s left size).page ∧ 0 ≤ (evX s left size).many ∧ (evX s left size).page + (evX s left size).many ≤ s.tk.length := by
  unfold evX
  split
  · rename_i x hx
    have := freeL_mem (bestL_mem hx).1; omega
  · cases hb : bestL (fun _ : Ext => true) (fun a b : Ext => decide (b.many < a.many)) (freeL s.tk size) with
    | none => simp [exOf]
    | some x => have := freeL_mem (bestL_mem hb).1; simp only [exOf, Option.getD_some]; omega

set_option maxRecDepth 100000 in
set_option maxHeartbeats 4000000 in
theorem evict_any (n0 P F T : Nat) (s : Spc) (no end_ left : Int) (size : Nat) (w : World) (hg : Good s) (hs : SpC n0 P F T s w) (hFw : F < w.heap.size) (hz : size ≤ s.tk.length) (hl : left ≤ 1000000) (hst : s.steps.length + left.toNat ≤ 1000000000000) (he : 0 ≤ end_ ∧ end_ ≤ 1125899906842624) (hl0 : 0 ≤ left) :
    Calls Try.prog 55 #[.pointer (some ⟨P, 0, none⟩), .int .i64 no, .int .i64 end_, .int .i64 left, .int .i64 size] w (EvictPost n0 P F T (evictL no end_ size (left.toNat + 1) s left) (s.steps.length + left.toNat) w) := by
  have hmf : ∀ (fn : Fn) (first cap : Array Value) (w : World), (Instr.makeFunc fn first cap).run Try.prog w = .ok (.func fn first cap) w := fun _ _ _ _ => rfl
  obtain ⟨lP, lT⟩ := hs.lts
  have hn0P : n0 ≤ P := hs.1
  have hB0 := below_alloc (Below.refl _ w) (.cells #[.int .i64 left] 3)
  have hbL := World.alloc_heap_new w (.cells #[.int .i64 left] 3)
  obtain ⟨e0, e1⟩ := he
  have Hg := Lib.hid hg; have Hs := Lib.hid hs
  clear hg hs
  go_enter Try.func55, Try.ntmps55
  go_wp2_with fail
  obtain ⟨nb, hnb⟩ : ∃ nb, w.heap.size = nb := ⟨_, rfl⟩
  have Hnb := Lib.hid hnb
  rw [hnb] at lP lT hbL ⊢
  clear hnb
  go_loopg [] (left.toNat + 1) (fun k wr => ∃ (s' : Spc) (lf : Int), 0 ≤ lf ∧ lf ≤ left ∧ Hid (lf.toNat < k ∧ evictL no end_ size (left.toNat + 1) s left = evictL no end_ size k s' lf ∧ Good s' ∧ s'.tk.length = s.tk.length ∧ s'.steps.length + lf.toNat ≤ s.steps.length + left.toNat) ∧ Hid (SpC n0 P F T s' wr ∧ FrS n0 P F T w wr) ∧ Hid (wr.heap[nb]? = some (.cells #[.int .i64 lf] 3 (0, 0))))
  case atStart => exact ⟨s, left, hl0, Int.le_refl _, Lib.hid ⟨by omega, rfl, Hg.out, rfl, Nat.le_refl _⟩, Lib.hid ⟨Hs.out.below hB0, (FrS.refl _ _ _ _ _).below hB0 (by have := Hnb.out; omega)⟩, Lib.hid hbL⟩
  case round =>
    obtain ⟨s', lf, q0, q1, HQ, HS, HL⟩ := hrel
    have cL := cell_of_one HL.out
    have hlL := lt_of_block HL.out
    by_cases hpos : 0 < lf
    rotate_left
    · have hd : decide (0 < lf) = false := by simpa using hpos
      go_wp2_with fail
      go_end0
      refine ⟨.inl ⟨s', ?_, rfl, HS.out.1, HQ.out.2.2.1, by have := HQ.out.2.2.2.2; omega⟩, HS.out.2⟩
      obtain ⟨h1, h2, _⟩ := HQ.out
      obtain ⟨m, rfl⟩ : ∃ m, gk = m + 1 := ⟨gk - 1, by omega⟩
      rw [h2, evictL, if_pos (by omega)]
    have hd : decide (0 < lf) = true := by simpa using hpos
    obtain ⟨lP2, lT2⟩ := HS.out.1.lts
    obtain ⟨cT, hfc⟩ := HS.out.1.freeC size
    have Hfc := Lib.hid hfc
    have hzs : size ≤ s'.tk.length := by have := HQ.out.2.2.2.1; omega
    have htl : s'.tk.length ≤ 1000000 := by have := HQ.out.2.2.1.2.2.1; have := HQ.out.2.2.1.2.1; omega
    clear hfc
    go_wp2_with fail
    refine (free_any P size wr).mono ?_
    rintro e w2 ⟨rfl, rfl⟩
    have hB2 := below_alloc (below_alloc (Below.refl _ wr) (.cells #[.pointer (some ⟨P, 0, none⟩)] 66)) (.cells #[.int .i64 size] 3)
    go_wp2_with fail
    refine (callsIn_wide.1 (best_evict (wr.heap.size + 1) wr.heap.size P T cT s'.tk size lf nb _ hzs htl (by simp; omega) Hfc.out (block_below HL.out hB2))).mono ?_
    rintro e w3 ⟨rfl, hB3⟩
    have hB3' := below_then hB2 hB3
    have cL3 := cell_below cL hB3'
    have hbd := evX_bd s' lf size
    have hevx : evX s' lf size = (match bestL (fun x : Ext => decide (lf ≤ x.many)) (fun a b : Ext => decide (a.many < b.many)) (freeL s'.tk size) with | some x => x | none => exOf (bestL (fun _ : Ext => true) (fun a b : Ext => decide (b.many < a.many)) (freeL s'.tk size))) := rfl
    obtain ⟨ob, hob⟩ : ∃ ob, bestL (fun x : Ext => decide (lf ≤ x.many)) (fun a b : Ext => decide (a.many < b.many)) (freeL s'.tk size) = ob := ⟨_, rfl⟩
    rw [hob] at hevx ⊢
    clear hob
    obtain ⟨X, hX⟩ : ∃ X, evX s' lf size = X := ⟨_, rfl⟩
    rw [hX] at hevx hbd
    have HX := Lib.hid hX
    obtain ⟨x0, x1, x2⟩ := hbd
    obtain ⟨N1, hN1⟩ : ∃ N1, (if X.many < lf then X.many else lf) = N1 := ⟨_, rfl⟩
    have hN1' : N1 = min lf X.many := by rw [← hN1]; split <;> omega
    have bN : 0 ≤ N1 ∧ N1 ≤ lf := by omega
    have HN1 := Lib.hid hN1'
    clear hN1' hX
    have hstep : evStep no end_ s' lf size = ⟨no, end_ - lf, X.page, N1⟩ := by rw [evStep, HX.out, ← HN1.out]
    have Hstep := Lib.hid hstep
    clear hstep
    have hfin : ∀ (w4 : World), Below wr.heap.size wr w4 → SpC n0 P F T s' w4 ∧ FrS n0 P F T w w4 ∧ w4.heap[nb]? = some (.cells #[.int .i64 lf] 3 (0, 0)) := fun w4 hB4 => ⟨HS.out.1.below hB4, HS.out.2.below hB4 (by omega), block_below HL.out hB4⟩
    have Hfin := Lib.hid hfin
    clear hfin
    cases ob with
    | some y =>
      dsimp only at hevx
      subst hevx
      simp only [exOf, Option.getD_some, Option.isSome_some]
      have hB4 := below_then hB3' (below_alloc (Below.refl _ w3) (.cells #[.int .i64 X.page, .int .i64 X.many] 54))
      have cL4 := cell_below cL hB4
      have H4 := Lib.hid (Hfin.out _ hB4)
      go_wp2_with fail
      refine (apply_any n0 P F T s' ⟨no, end_ - lf, X.page, N1⟩ _ HQ.out.2.2.1 H4.out.1).mono ?_
      rintro e w5 hA
      obtain ⟨⟨s2, ha, rfl, hs2⟩ | ⟨er, ha, rfl⟩, hF2⟩ := hA
      · have hF := H4.out.2.1.trans hF2
        have hL2 := hF2.box H4.out.1 H4.out.2.2 ⟨by decide, by decide, by have := Hnb.out; omega, fun e => absurd e (by decide)⟩
        have cL5 := cell_of_one hL2
        have zL5 := free_of_one hL2
        have hm1 := applyL_many ha
        dsimp only at hm1
        have hst2 := applyL_steps ha
        have htk2 := applyL_tk ha
        have hg2 := good_applyL HQ.out.2.2.1 (by have := HQ.out.2.2.2.2; omega) ha
        have HS2 := Lib.hid (And.intro (hs2.setBox (p := ⟨nb, 0, none⟩) hL2 ⟨by decide, by decide, by decide, by decide, by decide, fun e => absurd e (by decide)⟩ (.int .i64 (lf - N1))) (hF.setNew (o := 0) (by have := Hnb.out; omega) (by omega : n0 ≤ nb) (.int .i64 (lf - N1))))
        have HL2 := Lib.hid (one_setCell (u := .int .i64 (lf - N1)) hL2)
        have HQ2 := Lib.hid (show (lf - N1).toNat < gk - 1 ∧ evictL no end_ size (left.toNat + 1) s left = evictL no end_ size (gk - 1) s2 (lf - N1) ∧ Good s2 ∧ s2.tk.length = s.tk.length ∧ s2.steps.length + (lf - N1).toNat ≤ s.steps.length + left.toNat by
          obtain ⟨h1, h2, h3, h4, h5⟩ := HQ.out
          obtain ⟨m, rfl⟩ : ∃ m, gk = m + 1 := ⟨gk - 1, by omega⟩
          refine ⟨by omega, ?_, hg2, by omega, by rw [hst2]; simp; omega⟩
          rw [h2, evictL, if_neg (by omega), Hstep.out, ha]
          dsimp only
          rw [HX.out, ← HN1.out]; rfl)
        have hgk : gk - 1 < gk := by have := HQ.out.1; omega
        clear hL2 hst2 htk2 hg2 ha hs2 hF hF2
        go_wp2_with fail
        go_roundg (gk - 1)
        case measure => exact hgk
        case rel => exact ⟨s2, lf - N1, by omega, by omega, HQ2, HS2, HL2⟩
      · refine ⟨rfl, .inr ⟨er, ?_, rfl⟩, H4.out.2.1.trans hF2⟩
        obtain ⟨h1, h2, _⟩ := HQ.out
        obtain ⟨m, rfl⟩ : ∃ m, gk = m + 1 := ⟨gk - 1, by omega⟩
        rw [h2, evictL, if_neg (by omega), Hstep.out, ha]
    | none =>
      dsimp only at hevx
      simp only [exOf, Option.getD_none, Option.isSome_none]
      have hB4 := below_then hB3' (below_alloc (Below.refl _ w3) (.cells #[.int .i64 0, .int .i64 0] 54))
      have cL4 := cell_below cL hB4
      have hbX := World.alloc_heap_new w3 (.cells #[.int .i64 0, .int .i64 0] 54)
      go_wp2_with fail
      obtain ⟨W4, hW4⟩ : ∃ W4, w3.alloc (.cells #[.int .i64 0, .int .i64 0] 54) = W4 := ⟨_, rfl⟩
      obtain ⟨xb, hxb⟩ : ∃ xb, w3.heap.size = xb := ⟨_, rfl⟩
      rw [hxb] at hbX ⊢
      rw [hW4] at hB4 cL4 hbX ⊢
      have Hxb := Lib.hid hxb
      clear hW4 hxb
      refine (free_any P size W4).mono ?_
      rintro e w5 ⟨rfl, rfl⟩
      have hB5 := below_alloc (below_alloc (Below.refl _ W4) (.cells #[.pointer (some ⟨P, 0, none⟩)] 66)) (.cells #[.int .i64 size] 3)
      obtain ⟨cT4, hfc4⟩ := (Hfin.out _ hB4).1.freeC size
      obtain ⟨lP4, lT4⟩ := (Hfin.out _ hB4).1.lts
      have Hfc4 := Lib.hid hfc4
      clear hfc4
      go_wp2_with fail
      refine (callsIn_wide.1 (best_most (W4.heap.size + 1) W4.heap.size P T cT4 s'.tk size _ hzs htl (by simp; omega) Hfc4.out)).mono ?_
      rintro e w6 ⟨rfl, hB6⟩
      have hB6' := below_then hB4 (below_then hB5 hB6)
      have cL6 := cell_below cL hB6'
      have hX6 := block_below hbX (below_then hB5 hB6)
      have hX' : exOf (bestL (fun _ : Ext => true) (fun a b : Ext => decide (b.many < a.many)) (freeL s'.tk size)) = X := hevx.symm
      rw [hX']
      have h60 := cell_at hX6 0; have h61 := cell_at hX6 1
      simp only [List.getElem?_toArray, List.getElem?_cons_zero, List.getElem?_cons_succ] at h60 h61
      have z60 := free_at hX6 0; have z61 := free_at hX6 1
      have hxr : wr.heap.size ≤ xb := by have := hB3'.size; have := Hxb.out; omega
      have hne : ¬ nb = xb := by omega
      have hne' : ¬ xb = nb := by omega
      have hB7 := (hB6'.setCell (p := ⟨xb, 0, none⟩) hxr (.int .i64 X.page)).setCell (p := ⟨xb, 1, none⟩) hxr (.int .i64 X.many)
      have H4 := Lib.hid (Hfin.out _ hB7)
      clear hevx hX'
      go_wp2_with fail
      refine (apply_any n0 P F T s' ⟨no, end_ - lf, X.page, N1⟩ _ HQ.out.2.2.1 H4.out.1).mono ?_
      rintro e w8 hA
      obtain ⟨⟨s2, ha, rfl, hs2⟩ | ⟨er, ha, rfl⟩, hF2⟩ := hA
      · have hF := H4.out.2.1.trans hF2
        have hL2 := hF2.box H4.out.1 H4.out.2.2 ⟨by decide, by decide, by have := Hnb.out; omega, fun e => absurd e (by decide)⟩
        have cL5 := cell_of_one hL2
        have zL5 := free_of_one hL2
        have hm1 := applyL_many ha
        dsimp only at hm1
        have hst2 := applyL_steps ha
        have htk2 := applyL_tk ha
        have hg2 := good_applyL HQ.out.2.2.1 (by have := HQ.out.2.2.2.2; omega) ha
        have HS2 := Lib.hid (And.intro (hs2.setBox (p := ⟨nb, 0, none⟩) hL2 ⟨by decide, by decide, by decide, by decide, by decide, fun e => absurd e (by decide)⟩ (.int .i64 (lf - N1))) (hF.setNew (o := 0) (by have := Hnb.out; omega) (by omega : n0 ≤ nb) (.int .i64 (lf - N1))))
        have HL2 := Lib.hid (one_setCell (u := .int .i64 (lf - N1)) hL2)
        have HQ2 := Lib.hid (show (lf - N1).toNat < gk - 1 ∧ evictL no end_ size (left.toNat + 1) s left = evictL no end_ size (gk - 1) s2 (lf - N1) ∧ Good s2 ∧ s2.tk.length = s.tk.length ∧ s2.steps.length + (lf - N1).toNat ≤ s.steps.length + left.toNat by
          obtain ⟨h1, h2, h3, h4, h5⟩ := HQ.out
          obtain ⟨m, rfl⟩ : ∃ m, gk = m + 1 := ⟨gk - 1, by omega⟩
          refine ⟨by omega, ?_, hg2, by omega, by rw [hst2]; simp; omega⟩
          rw [h2, evictL, if_neg (by omega), Hstep.out, ha]
          dsimp only
          rw [HX.out, ← HN1.out]; rfl)
        have hgk : gk - 1 < gk := by have := HQ.out.1; omega
        clear hL2 hst2 htk2 hg2 ha hs2 hF hF2
        go_wp2_with fail
        go_roundg (gk - 1)
        case measure => exact hgk
        case rel => exact ⟨s2, lf - N1, by omega, by omega, HQ2, HS2, HL2⟩
      · refine ⟨rfl, .inr ⟨er, ?_, rfl⟩, H4.out.2.1.trans hF2⟩
        obtain ⟨h1, h2, _⟩ := HQ.out
        obtain ⟨m, rfl⟩ : ∃ m, gk = m + 1 := ⟨gk - 1, by omega⟩
        rw [h2, evictL, if_neg (by omega), Hstep.out, ha]
end Go.Proofs.Yteipclnlfanfeaa
