import Derived.Test.YteipclnlfanfeaaBaseF
import Derived.Test.YteipclnlfanfeaaBaseB
set_option linter.unusedVariables false
set_option linter.unusedSimpArgs false
/- move: best. -/
namespace Go.Proofs.Yteipclnlfanfeaa
open Go.RowKit
attribute [local go_sem] Oper.semAt_some undef

def bestStep (may : Ext → Bool) (better : Ext → Ext → Bool) (acc : Option Ext) (x : Ext) : Option Ext :=
  if may x = true then match acc with
    | none => some x
    | some y => if better x y = true then some x else some y
  else acc
/-- the first of some things than which none is better -/
def bestL (may : Ext → Bool) (better : Ext → Ext → Bool) (l : List Ext) : Option Ext := l.foldl (bestStep may better) none
def exOf (o : Option Ext) : Ext := o.getD ⟨0, 0⟩

theorem bestL_snoc (may : Ext → Bool) (better : Ext → Ext → Bool) (l : List Ext) (x : Ext) : bestL may better (l ++ [x]) = bestStep may better (bestL may better l) x := by
  simp [bestL]

/-- the boxes of best -/
structure BestB (n0 : Nat) (vm vb : Value) (o : Option Ext) (W : World) : Prop where
  b0 : W.heap[n0]? = some (.cells #[vm] 91 (0, 0))
  b1 : W.heap[n0 + 1]? = some (.cells #[vb] 92 (0, 0))
  b2 : W.heap[n0 + 2]? = some (.cells #[.int .i64 (exOf o).page, .int .i64 (exOf o).many] 54 (0, 0))
  b3 : W.heap[n0 + 3]? = some (.cells #[.bool o.isSome] 4 (0, 0))
theorem BestB.below {n0 : Nat} {vm vb : Value} {o : Option Ext} {W W' : World} (h : BestB n0 vm vb o W) (hB : Below W.heap.size W W') : BestB n0 vm vb o W' :=
  ⟨block_below h.b0 hB, block_below h.b1 hB, block_below h.b2 hB, block_below h.b3 hB⟩
theorem BestB.drew {n0 : Nat} {vm vb : Value} {o : Option Ext} {W : World} (h : BestB n0 vm vb o W) : BestB n0 vm vb o W.drew := ⟨h.b0, h.b1, h.b2, h.b3⟩
theorem BestB.own {β : Type} (n0 : Nat) (vm vb : Value) (f : β → Option Ext) : Own (fun s W => BestB n0 vm vb (f s) W) := by
  rintro s X Y row h hg hrow
  exact ⟨(grownBy_keeps_cells hg hrow h.b0 rfl).trans h.b0, (grownBy_keeps_cells hg hrow h.b1 rfl).trans h.b1, (grownBy_keeps_cells hg hrow h.b2 rfl).trans h.b2, (grownBy_keeps_cells hg hrow h.b3 rfl).trans h.b3⟩

def BestPost (o : Option Ext) (w : World) (e : Ending) (w' : World) : Prop :=
  e = .returned (.tuple #[.agg #[.int .i64 (exOf o).page, .int .i64 (exOf o).many], .bool o.isSome]) ∧ Below w.heap.size w w'

theorem others_below {W W' : World} (hB : Below W.heap.size W W') : KeepsOthers W W' := ⟨hB.size, fun _ _ hi _ => block_below hi hB⟩

/-- a better one is kept -/
theorem BestB.set {n0 : Nat} {vm vb : Value} {o : Option Ext} {W : World} (h : BestB n0 vm vb o W) (x : Ext) :
    BestB n0 vm vb (some x) (((W.setCell ⟨n0 + 2, 0, none⟩ (.int .i64 x.page)).setCell ⟨n0 + 2, 1, none⟩ (.int .i64 x.many)).setCell ⟨n0 + 3, 0, none⟩ (.bool true)) := by
  have ne : ∀ (k : Nat) (c : Array Value) (t : TypeId), k ≠ n0 + 2 → k ≠ n0 + 3 → W.heap[k]? = some (.cells c t (0, 0)) →
      (((W.setCell ⟨n0 + 2, 0, none⟩ (.int .i64 x.page)).setCell ⟨n0 + 2, 1, none⟩ (.int .i64 x.many)).setCell ⟨n0 + 3, 0, none⟩ (.bool true)).heap[k]? = some (.cells c t (0, 0)) := fun k c t h2 h3 hk =>
    (Below.heap_setCell _ _ _ _ h3).trans ((Below.heap_setCell _ _ _ _ h2).trans ((Below.heap_setCell _ _ _ _ h2).trans hk))
  refine ⟨ne _ _ _ (by omega) (by omega) h.b0, ne _ _ _ (by omega) (by omega) h.b1, ?_, ?_⟩
  · refine (Below.heap_setCell _ _ _ _ (by dsimp only; omega)).trans ?_
    have e1 := heap_setCell_at (o := 0) h.b2 (.int .i64 x.page)
    have e2 := heap_setCell_at (o := 1) e1 (.int .i64 x.many)
    simpa [exOf] using e2
  · exact one_setCell ((Below.heap_setCell _ _ _ _ (by dsimp only; omega)).trans ((Below.heap_setCell _ _ _ _ (by dsimp only; omega)).trans h.b3))

theorem best_fin {n0 D : Nat} {vm vb : Value} {o o' : Option Ext} {w W1 W W' : World} (hD : n0 ≤ D) (hB : Below n0 w W) (hS : Below n0 W1 W) (h : Below n0 W W') (hk : KeepsOthers W W') (hb : BestB n0 vm vb o' W') (e : o' = o) :
    KeepsFrom D W W' ∧ Below n0 W1 W' ∧ BestB n0 vm vb o W' ∧ Below n0 w W' := by
  subst e
  exact ⟨hk.from _, hS.trans h, hb, hB.trans h⟩

theorem three_below {n0 : Nat} {W W2 : World} (a b c : Value) (h : Below n0 W W2) : Below n0 W (((W2.setCell ⟨n0 + 2, 0, none⟩ a).setCell ⟨n0 + 2, 1, none⟩ b).setCell ⟨n0 + 3, 0, none⟩ c) :=
  ((h.setCell (p := ⟨n0 + 2, 0, none⟩) (by dsimp only; omega) _).setCell (p := ⟨n0 + 2, 1, none⟩) (by dsimp only; omega) _).setCell (p := ⟨n0 + 3, 0, none⟩) (by dsimp only; omega) _
theorem three_others {n0 : Nat} {W W2 : World} (a b c : Value) (h : KeepsOthers W W2) : KeepsOthers W (((W2.setCell ⟨n0 + 2, 0, none⟩ a).setCell ⟨n0 + 2, 1, none⟩ b).setCell ⟨n0 + 3, 0, none⟩ c) :=
  h.trans ((KeepsOthers.setCell _ _ _).trans ((KeepsOthers.setCell _ _ _).trans (KeepsOthers.setCell _ _ _)))


set_option maxRecDepth 100000 in
set_option maxHeartbeats 1000000 in
theorem best_defrag (Bz Bs P T cT : Nat) (tk : List Bool) (size : Nat) (m : Int) (b : Nat) (w : World) (hsz : size ≤ tk.length) (hlen : tk.length ≤ 1000000) (hn : Bz < w.heap.size ∧ Bs < w.heap.size ∧ P < w.heap.size ∧ T < w.heap.size)
    (hc : FreeC Bz Bs P T cT tk size w) (hb : w.heap[b]? = some (.cells #[.int .i64 m] 3 (0, 0))) :
    CallsIn Fence.wide 5 Try.prog 48 #[.func (.func 80) #[] #[.pointer (some ⟨Bz, 0, none⟩), .pointer (some ⟨Bs, 0, none⟩)], (.func (.func 50) #[] #[.pointer (some ⟨b, 0, none⟩)]), (.func (.func 51) #[] #[])] w (BestPost (bestL (fun x : Ext => decide (m ≤ x.many)) (fun a b : Ext => decide (a.many < b.many)) (freeL tk size)) w) := by
  have hmf : ∀ (fn : Fn) (first cap : Array Value) (w : World), (Instr.makeFunc fn first cap).run Try.prog w = .ok (.func fn first cap) w := fun _ _ _ _ => rfl
  have Hm : Hid (∀ (x : Ext) (W : World), Below w.heap.size w W → Calls Try.prog 50 (#[.agg #[.int .i64 x.page, .int .i64 x.many], .pointer (some ⟨b, 0, none⟩)]) W fun e W' => e = .returned (.bool ((fun x : Ext => decide (m ≤ x.many)) x)) ∧ Below W.heap.size W W') := Lib.hid (fun x W hW => fits1_any 50 x m b W (.inl rfl) ((hW.block b (lt_of_block hb)).trans hb))
  have Hb : Hid (∀ (x y : Ext) (W : World), Calls Try.prog 51 #[.agg #[.int .i64 x.page, .int .i64 x.many], .agg #[.int .i64 y.page, .int .i64 y.many]] W fun e W' => e = .returned (.bool ((fun a b : Ext => decide (a.many < b.many)) x y)) ∧ Below W.heap.size W W') := Lib.hid (fun x y W => fewer_any x y W)
  have Hc := Lib.hid hc; clear hc
  obtain ⟨may, hmay⟩ : ∃ may : Ext → Bool, may = (fun x : Ext => decide (m ≤ x.many)) := ⟨_, rfl⟩
  obtain ⟨better, hbetter⟩ : ∃ better : Ext → Ext → Bool, better = (fun a b : Ext => decide (a.many < b.many)) := ⟨_, rfl⟩
  rw [← hmay] at Hm ⊢
  rw [← hbetter] at Hb ⊢
  clear hmay hbetter
  refine callsIn_of_wp_marks Try.func48 rfl trivial ?_ rfl
  simp only [Try.ntmps48, List.size_toArray, List.length_cons, List.length_nil, Nat.reduceAdd, Nat.reduceSub, Array.replicate_succ, Array.replicate_zero, List.push_toArray, List.append_toArray, List.nil_append, List.cons_append]
  gi_wp2_with fail
  obtain ⟨n0, hn0⟩ : ∃ n0, w.heap.size = n0 := ⟨_, rfl⟩
  have HN := Lib.hid hn0
  rw [hn0] at hn Hm ⊢
  simp only [Nat.add_assoc, Nat.reduceAdd]
  obtain ⟨W0, hW0⟩ : ∃ W0, ((((w.alloc (.cells #[(.func (.func 50) #[] #[.pointer (some ⟨b, 0, none⟩)])] 91)).alloc (.cells #[(.func (.func 51) #[] #[])] 92)).alloc (.cells #[.int .i64 0, .int .i64 0] 54)).alloc (.cells #[.bool false] 4)) = W0 := ⟨_, rfl⟩
  rw [hW0]
  have hBW : Below n0 w W0 := by
    rw [← hW0]; exact ((((Below.refl _ w).alloc (by omega) _).alloc (by simp; omega) _).alloc (by simp; omega) _).alloc (by simp; omega) _
  have hszW : W0.heap.size = n0 + 4 := by rw [← hW0]; simp; omega
  have hB0 : BestB n0 (.func (.func 50) #[] #[.pointer (some ⟨b, 0, none⟩)]) (.func (.func 51) #[] #[]) none W0 := by
    have e0 := heap_new w (.cells #[(.func (.func 50) #[] #[.pointer (some ⟨b, 0, none⟩)])] 91) hn0
    have e1 := heap_new (w.alloc (.cells #[(.func (.func 50) #[] #[.pointer (some ⟨b, 0, none⟩)])] 91)) (.cells #[(.func (.func 51) #[] #[])] 92) (n := n0 + 1) (by simp; omega)
    have e2 := heap_new ((w.alloc (.cells #[(.func (.func 50) #[] #[.pointer (some ⟨b, 0, none⟩)])] 91)).alloc (.cells #[(.func (.func 51) #[] #[])] 92)) (.cells #[.int .i64 0, .int .i64 0] 54) (n := n0 + 2) (by simp; omega)
    have e3 := heap_new (((w.alloc (.cells #[(.func (.func 50) #[] #[.pointer (some ⟨b, 0, none⟩)])] 91)).alloc (.cells #[(.func (.func 51) #[] #[])] 92)).alloc (.cells #[.int .i64 0, .int .i64 0] 54)) (.cells #[.bool false] 4) (n := n0 + 3) (by simp; omega)
    rw [← hW0]
    exact ⟨heap_alloc_old' (heap_alloc_old' (heap_alloc_old' e0 _) _) _, heap_alloc_old' (heap_alloc_old' e1 _) _, heap_alloc_old' e2 _, e3⟩
  have hW0c : FreeC Bz Bs P T cT tk size W0 := Hc.out.belowN hn hBW
  refine wpIn_range rfl (by omega) (gf := 80) (lb := #[.pointer (some ⟨Bz, 0, none⟩), .pointer (some ⟨Bs, 0, none⟩)]) rfl trivial (enters_of Try.func80 (by kernel_rfl) rfl)
    (free_stops 4 Bz Bs P T cT n0 tk size hsz hlen hn W0 (by omega) hW0c)
    (fun W1 W l r r' h1 h2 h3 => h3.grown (grownBy_putObj' W l _) (by have := (Array.getElem?_eq_some_iff.1 h2).1; omega) (fun k e => by cases e; omega)) (fun _ => rfl)
    (fun pre W => BestB n0 (.func (.func 50) #[] #[.pointer (some ⟨b, 0, none⟩)]) (.func (.func 51) #[] #[]) (bestL may better (pre.map Subtype.val)) W ∧ Below n0 w W)
    (fun _ _ _ => False) (OwnFrom.and (Own.from (BestB.own _ _ _ _) _) (ownFrom_below (by omega) (by omega))) (fun _ _ _ _ _ hs _ _ => hs) ⟨hB0, hBW⟩
    (fun x W1 a' W => Below n0 W1 W ∧ ∃ Bx, n0 + 4 ≤ Bx ∧ W.heap[Bx]? = some (.cells #[.int .i64 x.1.page, .int .i64 x.1.many] 54 (0, 0)) ∧ a' = { tmps := #[.func (.func 80) #[] #[.pointer (some ⟨Bz, 0, none⟩), .pointer (some ⟨Bs, 0, none⟩)], (.func (.func 50) #[] #[.pointer (some ⟨b, 0, none⟩)]), (.func (.func 51) #[] #[]), undef, .pointer (some ⟨n0, 0, none⟩), .pointer (some ⟨n0 + 1, 0, none⟩), .pointer (some ⟨n0 + 2, 0, none⟩), .pointer (some ⟨n0 + 3, 0, none⟩), .pointer (some ⟨Bx, 0, none⟩), .func (.func 80) #[] #[.pointer (some ⟨Bz, 0, none⟩), .pointer (some ⟨Bs, 0, none⟩)], .agg #[.int .i64 x.1.page, .int .i64 x.1.many], undef, undef, undef, undef, undef, undef, undef, undef, undef, undef, undef, undef, undef, undef, undef, undef], defers := [] }) ?ax ?assign ?body ?done ?stop
  case ax =>
    rintro x W1 a' s X Y row ⟨hs, Bx, hx, h, e⟩ hg hr
    exact ⟨hs.grown hg (by have := (Array.getElem?_eq_some_iff.1 h).1; omega) (fun k e => by have := (hr k e).1; omega), Bx, hx, (grownBy_keeps_cells hg (fun r e => (hr r e).2) h rfl).trans h, e⟩
  case assign =>
    rintro l0 pre ⟨x, hx⟩ W K ⟨hi, hB⟩ hK
    dsimp only at hK ⊢
    gi_wp2
    have hBa := below_alloc (Below.refl _ W) (.cells #[.int .i64 x.page, .int .i64 x.many] 54)
    have hl := lt_of_block hi.b3
    exact hK _ _ ((KeepsOthers.alloc _ _).from _) ⟨hi.below hBa, hB.trans (hBa.mono (by omega))⟩ ⟨hBa.mono (by omega), W.heap.size, by omega, World.alloc_heap_new W _, rfl⟩
  case body =>
    rintro l0 pre ⟨x, hx⟩ W1 a' W hl0 _ ⟨hBB, hB⟩ ⟨hS, Bx, hBx, hR, rfl⟩ hlen
    dsimp only at hR ⊢
    have c0 := cell_of_one hBB.b0
    have c3 := cell_of_one hBB.b3
    have HBB := Lib.hid hBB
    have r0 : W.cell? ⟨Bx, 0, none⟩ = some (.int .i64 x.page) := by simp [World.cell?, hR]
    have r1 : W.cell? ⟨Bx, 1, none⟩ = some (.int .i64 x.many) := by simp [World.cell?, hR]
    have HR := Lib.hid hR; clear hR
    have hnB : n0 + 3 < W.heap.size := lt_of_block hBB.b3
    obtain ⟨o, ho⟩ : ∃ o, bestL may better (pre.map Subtype.val) = o := ⟨_, rfl⟩
    rw [ho] at c3 HBB
    have Hsn := Lib.hid (show bestL may better ((pre ++ [(⟨x, hx⟩ : Ex)]).map Subtype.val) = bestStep may better o x by rw [List.map_append, List.map_cons, List.map_nil, bestL_snoc, ho])
    clear ho hBB
    gi_wp2_with fail
    refine ⟨trivial, (CallsIn.inRound l0 (callsIn_wide.2 (Hm.out x W hB))).mono ?_⟩
    rintro e w2 ⟨rfl, hB2⟩
    have hB2n : Below n0 W w2 := hB2.mono (by omega)
    have hk2 := others_below hB2
    have HBB2 := Lib.hid (HBB.out.below hB2)
    have c3' := cell_below c3 hB2
    have r0' := cell_below r0 hB2
    have r1' := cell_below r1 hB2
    cases hmx : may x with
    | false =>
      have Hend := Lib.hid (best_fin (D := W0.heap.size) (by omega) hB hS hB2n hk2 HBB2.out (show o = bestL may better ((pre ++ [(⟨x, hx⟩ : Ex)]).map Subtype.val) by rw [Hsn.out]; simp [bestStep, hmx]))
      gi_wp2_with fail
      exact ⟨Hend.out.1, Hend.out.2.1, Hend.out.2.2⟩
    | true =>
      cases o with
      | none =>
        simp only [Option.isSome_none] at c3'
        have z0 := free_at HBB2.out.b2 0; have z1 := free_at HBB2.out.b2 1; have z3 := free_at HBB2.out.b3 0
        have y0 := cell_at HBB2.out.b2 0; have y1 := cell_at HBB2.out.b2 1
        simp only [List.getElem?_toArray, List.getElem?_cons_zero, List.getElem?_cons_succ, exOf, Option.getD_none] at y0 y1
        have Hend := Lib.hid (best_fin (D := W0.heap.size) (by omega) hB hS (three_below _ _ _ hB2n) (three_others _ _ _ hk2) (HBB2.out.set x) (show some x = bestL may better ((pre ++ [(⟨x, hx⟩ : Ex)]).map Subtype.val) by rw [Hsn.out]; simp [bestStep, hmx]))
        gi_wp2_with fail
        exact ⟨Hend.out.1, Hend.out.2.1, Hend.out.2.2⟩
      | some y =>
        simp only [Option.isSome_some] at c3'
        have c1 := cell_of_one HBB2.out.b1
        have y0 := cell_at HBB2.out.b2 0; have y1 := cell_at HBB2.out.b2 1
        simp only [List.getElem?_toArray, List.getElem?_cons_zero, List.getElem?_cons_succ, exOf, Option.getD_some] at y0 y1
        gi_wp2_with fail
        refine ⟨trivial, (CallsIn.inRound l0 (callsIn_wide.2 (Hb.out x y w2))).mono ?_⟩
        rintro e w3 ⟨rfl, hB3⟩
        have hB3n : Below n0 W w3 := hB2n.trans (hB3.mono (by have := hB2.size; omega))
        have hk3 := hk2.trans (others_below hB3)
        have HBB3 := Lib.hid (HBB2.out.below hB3)
        cases hbt : better x y with
        | false =>
          have Hend := Lib.hid (best_fin (D := W0.heap.size) (by omega) hB hS hB3n hk3 HBB3.out (show some y = bestL may better ((pre ++ [(⟨x, hx⟩ : Ex)]).map Subtype.val) by rw [Hsn.out]; simp [bestStep, hmx, hbt]))
          gi_wp2_with fail
          exact ⟨Hend.out.1, Hend.out.2.1, Hend.out.2.2⟩
        | true =>
          have r0'' := cell_below r0' hB3
          have r1'' := cell_below r1' hB3
          have z0 := free_at HBB3.out.b2 0; have z1 := free_at HBB3.out.b2 1; have z3 := free_at HBB3.out.b3 0
          have y0' := cell_below y0 hB3
          have y1' := cell_below y1 hB3
          have c3'' := cell_below c3' hB3
          have Hend := Lib.hid (best_fin (D := W0.heap.size) (by omega) hB hS (three_below _ _ _ hB3n) (three_others _ _ _ hk3) (HBB3.out.set x) (show some x = bestL may better ((pre ++ [(⟨x, hx⟩ : Ex)]).map Subtype.val) by rw [Hsn.out]; simp [bestStep, hmx, hbt]))
          gi_wp2_with fail
          exact ⟨Hend.out.1, Hend.out.2.1, Hend.out.2.2⟩
  case done =>
    rintro D ys W hD hys ⟨hBB, hB⟩ hK
    rw [hys] at hBB
    obtain ⟨o, ho⟩ : ∃ o, bestL may better (freeL tk size) = o := ⟨_, rfl⟩
    rw [ho] at hBB
    have Ho := Lib.hid ho
    clear ho hys
    gi_wp2_with fail
    refine wpIn_region_orders [[0, 1, 2, 3], [0, 2, 1, 3], [1, 0, 2, 3]] (by kernel_rfl) (by kernel_rfl) ?_
    intro od hod
    simp only [List.mem_cons, List.not_mem_nil, or_false] at hod
    have y0 := cell_at hBB.b2 0; have y1 := cell_at hBB.b2 1; have y3 := cell_at hBB.b3 0
    simp only [List.getElem?_toArray, List.getElem?_cons_zero, List.getElem?_cons_succ] at y0 y1 y3
    have z0 := free_at hBB.b2 0; have z1 := free_at hBB.b2 1; have z3 := free_at hBB.b3 0
    have HBB := Lib.hid hBB; clear hBB
    have Hsame : Hid (BestB n0 (.func (.func 50) #[] #[.pointer (some ⟨b, 0, none⟩)]) (.func (.func 51) #[] #[]) o (((W.setCell ⟨n0 + 2, 0, none⟩ (.int .i64 (exOf o).page)).setCell ⟨n0 + 2, 1, none⟩ (.int .i64 (exOf o).many)).setCell ⟨n0 + 3, 0, none⟩ (.bool o.isSome))) := Lib.hid (by
      have h1 := HBB.out
      refine ⟨?_, ?_, ?_, ?_⟩
      · exact (Below.heap_setCell _ _ _ _ (by dsimp only; omega)).trans ((Below.heap_setCell _ _ _ _ (by dsimp only; omega)).trans ((Below.heap_setCell _ _ _ _ (by dsimp only; omega)).trans h1.b0))
      · exact (Below.heap_setCell _ _ _ _ (by dsimp only; omega)).trans ((Below.heap_setCell _ _ _ _ (by dsimp only; omega)).trans ((Below.heap_setCell _ _ _ _ (by dsimp only; omega)).trans h1.b1))
      · refine (Below.heap_setCell _ _ _ _ (by dsimp only; omega)).trans ?_
        have e1 := heap_setCell_at (o := 0) h1.b2 (.int .i64 (exOf o).page)
        have e2 := heap_setCell_at (o := 1) e1 (.int .i64 (exOf o).many)
        simpa using e2
      · exact one_setCell ((Below.heap_setCell _ _ _ _ (by dsimp only; omega)).trans ((Below.heap_setCell _ _ _ _ (by dsimp only; omega)).trans h1.b3)))
    rcases hod with rfl | rfl | rfl
    all_goals
      simp only [List.filterMap_cons, List.filterMap_nil, List.getElem?_toArray, List.getElem?_cons_zero, List.getElem?_cons_succ]
      gi_wp2_with fail
      have hK' : (((W.setCell ⟨n0 + 2, 0, none⟩ (.int .i64 (exOf o).page)).setCell ⟨n0 + 2, 1, none⟩ (.int .i64 (exOf o).many)).setCell ⟨n0 + 3, 0, none⟩ (.bool o.isSome)).drew.heap[D]? = some (.deferred (some [])) :=
        (three_others _ _ _ (show KeepsOthers W W from ⟨Nat.le_refl _, fun _ _ h _ => h⟩)).2 _ _ hK rfl
      refine ⟨by simp, .inl ⟨_, _, rfl, run_takeDeferred hK', ?_⟩⟩
      have h2 := (BestB.own n0 (.func (.func 50) #[] #[.pointer (some ⟨b, 0, none⟩)]) (.func (.func 51) #[] #[]) (fun _ : Unit => o)) () _ _ (some D) Hsame.out.drew (grownBy_putObj' _ D (.deferred none)) (fun r e => by cases e; exact ⟨_, hK', rfl⟩)
      have hBe := ((hB.trans (three_below (.int .i64 (exOf o).page) (.int .i64 (exOf o).many) (.bool o.isSome) (Below.refl _ W))).drew).grown (grownBy_putObj' _ D (.deferred none)) (by have := hB.size; have := HN.out; simp; omega) (fun k e => by cases e; omega)
      obtain ⟨W9, hW9⟩ : ∃ W9, (((W.setCell ⟨n0 + 2, 0, none⟩ (.int .i64 (exOf o).page)).setCell ⟨n0 + 2, 1, none⟩ (.int .i64 (exOf o).many)).setCell ⟨n0 + 3, 0, none⟩ (.bool o.isSome)).drew.putObj D (.deferred none) = W9 := ⟨_, rfl⟩
      rw [hW9] at h2 hBe ⊢
      clear hW9 hK'
      have q0 := cell_at h2.b2 0; have q1 := cell_at h2.b2 1; have q3 := cell_at h2.b3 0
      simp only [List.getElem?_toArray, List.getElem?_cons_zero, List.getElem?_cons_succ] at q0 q1 q3
      refine ⟨_, by simp [results, Try.results48, go_sem, q0, q1, q3]; rw [Ho.out]; exact ⟨⟨rfl, rfl⟩, rfl⟩, rfl, ?_⟩
      rw [HN.out]; exact hBe
  case stop =>
    rintro D c pre W _ _ h _
    exact h.elim

set_option maxRecDepth 100000 in
set_option maxHeartbeats 1000000 in
theorem best_evict (Bz Bs P T cT : Nat) (tk : List Bool) (size : Nat) (m : Int) (b : Nat) (w : World) (hsz : size ≤ tk.length) (hlen : tk.length ≤ 1000000) (hn : Bz < w.heap.size ∧ Bs < w.heap.size ∧ P < w.heap.size ∧ T < w.heap.size)
    (hc : FreeC Bz Bs P T cT tk size w) (hb : w.heap[b]? = some (.cells #[.int .i64 m] 3 (0, 0))) :
    CallsIn Fence.wide 5 Try.prog 48 #[.func (.func 80) #[] #[.pointer (some ⟨Bz, 0, none⟩), .pointer (some ⟨Bs, 0, none⟩)], (.func (.func 81) #[] #[.pointer (some ⟨b, 0, none⟩)]), (.func (.func 51) #[] #[])] w (BestPost (bestL (fun x : Ext => decide (m ≤ x.many)) (fun a b : Ext => decide (a.many < b.many)) (freeL tk size)) w) := by
  have hmf : ∀ (fn : Fn) (first cap : Array Value) (w : World), (Instr.makeFunc fn first cap).run Try.prog w = .ok (.func fn first cap) w := fun _ _ _ _ => rfl
  have Hm : Hid (∀ (x : Ext) (W : World), Below w.heap.size w W → Calls Try.prog 81 (#[.agg #[.int .i64 x.page, .int .i64 x.many], .pointer (some ⟨b, 0, none⟩)]) W fun e W' => e = .returned (.bool ((fun x : Ext => decide (m ≤ x.many)) x)) ∧ Below W.heap.size W W') := Lib.hid (fun x W hW => fits1_any 81 x m b W (.inr rfl) ((hW.block b (lt_of_block hb)).trans hb))
  have Hb : Hid (∀ (x y : Ext) (W : World), Calls Try.prog 51 #[.agg #[.int .i64 x.page, .int .i64 x.many], .agg #[.int .i64 y.page, .int .i64 y.many]] W fun e W' => e = .returned (.bool ((fun a b : Ext => decide (a.many < b.many)) x y)) ∧ Below W.heap.size W W') := Lib.hid (fun x y W => fewer_any x y W)
  have Hc := Lib.hid hc; clear hc
  obtain ⟨may, hmay⟩ : ∃ may : Ext → Bool, may = (fun x : Ext => decide (m ≤ x.many)) := ⟨_, rfl⟩
  obtain ⟨better, hbetter⟩ : ∃ better : Ext → Ext → Bool, better = (fun a b : Ext => decide (a.many < b.many)) := ⟨_, rfl⟩
  rw [← hmay] at Hm ⊢
  rw [← hbetter] at Hb ⊢
  clear hmay hbetter
  refine callsIn_of_wp_marks Try.func48 rfl trivial ?_ rfl
  simp only [Try.ntmps48, List.size_toArray, List.length_cons, List.length_nil, Nat.reduceAdd, Nat.reduceSub, Array.replicate_succ, Array.replicate_zero, List.push_toArray, List.append_toArray, List.nil_append, List.cons_append]
  gi_wp2_with fail
  obtain ⟨n0, hn0⟩ : ∃ n0, w.heap.size = n0 := ⟨_, rfl⟩
  have HN := Lib.hid hn0
  rw [hn0] at hn Hm ⊢
  simp only [Nat.add_assoc, Nat.reduceAdd]
  obtain ⟨W0, hW0⟩ : ∃ W0, ((((w.alloc (.cells #[(.func (.func 81) #[] #[.pointer (some ⟨b, 0, none⟩)])] 91)).alloc (.cells #[(.func (.func 51) #[] #[])] 92)).alloc (.cells #[.int .i64 0, .int .i64 0] 54)).alloc (.cells #[.bool false] 4)) = W0 := ⟨_, rfl⟩
  rw [hW0]
  have hBW : Below n0 w W0 := by
    rw [← hW0]; exact ((((Below.refl _ w).alloc (by omega) _).alloc (by simp; omega) _).alloc (by simp; omega) _).alloc (by simp; omega) _
  have hszW : W0.heap.size = n0 + 4 := by rw [← hW0]; simp; omega
  have hB0 : BestB n0 (.func (.func 81) #[] #[.pointer (some ⟨b, 0, none⟩)]) (.func (.func 51) #[] #[]) none W0 := by
    have e0 := heap_new w (.cells #[(.func (.func 81) #[] #[.pointer (some ⟨b, 0, none⟩)])] 91) hn0
    have e1 := heap_new (w.alloc (.cells #[(.func (.func 81) #[] #[.pointer (some ⟨b, 0, none⟩)])] 91)) (.cells #[(.func (.func 51) #[] #[])] 92) (n := n0 + 1) (by simp; omega)
    have e2 := heap_new ((w.alloc (.cells #[(.func (.func 81) #[] #[.pointer (some ⟨b, 0, none⟩)])] 91)).alloc (.cells #[(.func (.func 51) #[] #[])] 92)) (.cells #[.int .i64 0, .int .i64 0] 54) (n := n0 + 2) (by simp; omega)
    have e3 := heap_new (((w.alloc (.cells #[(.func (.func 81) #[] #[.pointer (some ⟨b, 0, none⟩)])] 91)).alloc (.cells #[(.func (.func 51) #[] #[])] 92)).alloc (.cells #[.int .i64 0, .int .i64 0] 54)) (.cells #[.bool false] 4) (n := n0 + 3) (by simp; omega)
    rw [← hW0]
    exact ⟨heap_alloc_old' (heap_alloc_old' (heap_alloc_old' e0 _) _) _, heap_alloc_old' (heap_alloc_old' e1 _) _, heap_alloc_old' e2 _, e3⟩
  have hW0c : FreeC Bz Bs P T cT tk size W0 := Hc.out.belowN hn hBW
  refine wpIn_range rfl (by omega) (gf := 80) (lb := #[.pointer (some ⟨Bz, 0, none⟩), .pointer (some ⟨Bs, 0, none⟩)]) rfl trivial (enters_of Try.func80 (by kernel_rfl) rfl)
    (free_stops 4 Bz Bs P T cT n0 tk size hsz hlen hn W0 (by omega) hW0c)
    (fun W1 W l r r' h1 h2 h3 => h3.grown (grownBy_putObj' W l _) (by have := (Array.getElem?_eq_some_iff.1 h2).1; omega) (fun k e => by cases e; omega)) (fun _ => rfl)
    (fun pre W => BestB n0 (.func (.func 81) #[] #[.pointer (some ⟨b, 0, none⟩)]) (.func (.func 51) #[] #[]) (bestL may better (pre.map Subtype.val)) W ∧ Below n0 w W)
    (fun _ _ _ => False) (OwnFrom.and (Own.from (BestB.own _ _ _ _) _) (ownFrom_below (by omega) (by omega))) (fun _ _ _ _ _ hs _ _ => hs) ⟨hB0, hBW⟩
    (fun x W1 a' W => Below n0 W1 W ∧ ∃ Bx, n0 + 4 ≤ Bx ∧ W.heap[Bx]? = some (.cells #[.int .i64 x.1.page, .int .i64 x.1.many] 54 (0, 0)) ∧ a' = { tmps := #[.func (.func 80) #[] #[.pointer (some ⟨Bz, 0, none⟩), .pointer (some ⟨Bs, 0, none⟩)], (.func (.func 81) #[] #[.pointer (some ⟨b, 0, none⟩)]), (.func (.func 51) #[] #[]), undef, .pointer (some ⟨n0, 0, none⟩), .pointer (some ⟨n0 + 1, 0, none⟩), .pointer (some ⟨n0 + 2, 0, none⟩), .pointer (some ⟨n0 + 3, 0, none⟩), .pointer (some ⟨Bx, 0, none⟩), .func (.func 80) #[] #[.pointer (some ⟨Bz, 0, none⟩), .pointer (some ⟨Bs, 0, none⟩)], .agg #[.int .i64 x.1.page, .int .i64 x.1.many], undef, undef, undef, undef, undef, undef, undef, undef, undef, undef, undef, undef, undef, undef, undef, undef], defers := [] }) ?ax ?assign ?body ?done ?stop
  case ax =>
    rintro x W1 a' s X Y row ⟨hs, Bx, hx, h, e⟩ hg hr
    exact ⟨hs.grown hg (by have := (Array.getElem?_eq_some_iff.1 h).1; omega) (fun k e => by have := (hr k e).1; omega), Bx, hx, (grownBy_keeps_cells hg (fun r e => (hr r e).2) h rfl).trans h, e⟩
  case assign =>
    rintro l0 pre ⟨x, hx⟩ W K ⟨hi, hB⟩ hK
    dsimp only at hK ⊢
    gi_wp2
    have hBa := below_alloc (Below.refl _ W) (.cells #[.int .i64 x.page, .int .i64 x.many] 54)
    have hl := lt_of_block hi.b3
    exact hK _ _ ((KeepsOthers.alloc _ _).from _) ⟨hi.below hBa, hB.trans (hBa.mono (by omega))⟩ ⟨hBa.mono (by omega), W.heap.size, by omega, World.alloc_heap_new W _, rfl⟩
  case body =>
    rintro l0 pre ⟨x, hx⟩ W1 a' W hl0 _ ⟨hBB, hB⟩ ⟨hS, Bx, hBx, hR, rfl⟩ hlen
    dsimp only at hR ⊢
    have c0 := cell_of_one hBB.b0
    have c3 := cell_of_one hBB.b3
    have HBB := Lib.hid hBB
    have r0 : W.cell? ⟨Bx, 0, none⟩ = some (.int .i64 x.page) := by simp [World.cell?, hR]
    have r1 : W.cell? ⟨Bx, 1, none⟩ = some (.int .i64 x.many) := by simp [World.cell?, hR]
    have HR := Lib.hid hR; clear hR
    have hnB : n0 + 3 < W.heap.size := lt_of_block hBB.b3
    obtain ⟨o, ho⟩ : ∃ o, bestL may better (pre.map Subtype.val) = o := ⟨_, rfl⟩
    rw [ho] at c3 HBB
    have Hsn := Lib.hid (show bestL may better ((pre ++ [(⟨x, hx⟩ : Ex)]).map Subtype.val) = bestStep may better o x by rw [List.map_append, List.map_cons, List.map_nil, bestL_snoc, ho])
    clear ho hBB
    gi_wp2_with fail
    refine ⟨trivial, (CallsIn.inRound l0 (callsIn_wide.2 (Hm.out x W hB))).mono ?_⟩
    rintro e w2 ⟨rfl, hB2⟩
    have hB2n : Below n0 W w2 := hB2.mono (by omega)
    have hk2 := others_below hB2
    have HBB2 := Lib.hid (HBB.out.below hB2)
    have c3' := cell_below c3 hB2
    have r0' := cell_below r0 hB2
    have r1' := cell_below r1 hB2
    cases hmx : may x with
    | false =>
      have Hend := Lib.hid (best_fin (D := W0.heap.size) (by omega) hB hS hB2n hk2 HBB2.out (show o = bestL may better ((pre ++ [(⟨x, hx⟩ : Ex)]).map Subtype.val) by rw [Hsn.out]; simp [bestStep, hmx]))
      gi_wp2_with fail
      exact ⟨Hend.out.1, Hend.out.2.1, Hend.out.2.2⟩
    | true =>
      cases o with
      | none =>
        simp only [Option.isSome_none] at c3'
        have z0 := free_at HBB2.out.b2 0; have z1 := free_at HBB2.out.b2 1; have z3 := free_at HBB2.out.b3 0
        have y0 := cell_at HBB2.out.b2 0; have y1 := cell_at HBB2.out.b2 1
        simp only [List.getElem?_toArray, List.getElem?_cons_zero, List.getElem?_cons_succ, exOf, Option.getD_none] at y0 y1
        have Hend := Lib.hid (best_fin (D := W0.heap.size) (by omega) hB hS (three_below _ _ _ hB2n) (three_others _ _ _ hk2) (HBB2.out.set x) (show some x = bestL may better ((pre ++ [(⟨x, hx⟩ : Ex)]).map Subtype.val) by rw [Hsn.out]; simp [bestStep, hmx]))
        gi_wp2_with fail
        exact ⟨Hend.out.1, Hend.out.2.1, Hend.out.2.2⟩
      | some y =>
        simp only [Option.isSome_some] at c3'
        have c1 := cell_of_one HBB2.out.b1
        have y0 := cell_at HBB2.out.b2 0; have y1 := cell_at HBB2.out.b2 1
        simp only [List.getElem?_toArray, List.getElem?_cons_zero, List.getElem?_cons_succ, exOf, Option.getD_some] at y0 y1
        gi_wp2_with fail
        refine ⟨trivial, (CallsIn.inRound l0 (callsIn_wide.2 (Hb.out x y w2))).mono ?_⟩
        rintro e w3 ⟨rfl, hB3⟩
        have hB3n : Below n0 W w3 := hB2n.trans (hB3.mono (by have := hB2.size; omega))
        have hk3 := hk2.trans (others_below hB3)
        have HBB3 := Lib.hid (HBB2.out.below hB3)
        cases hbt : better x y with
        | false =>
          have Hend := Lib.hid (best_fin (D := W0.heap.size) (by omega) hB hS hB3n hk3 HBB3.out (show some y = bestL may better ((pre ++ [(⟨x, hx⟩ : Ex)]).map Subtype.val) by rw [Hsn.out]; simp [bestStep, hmx, hbt]))
          gi_wp2_with fail
          exact ⟨Hend.out.1, Hend.out.2.1, Hend.out.2.2⟩
        | true =>
          have r0'' := cell_below r0' hB3
          have r1'' := cell_below r1' hB3
          have z0 := free_at HBB3.out.b2 0; have z1 := free_at HBB3.out.b2 1; have z3 := free_at HBB3.out.b3 0
          have y0' := cell_below y0 hB3
          have y1' := cell_below y1 hB3
          have c3'' := cell_below c3' hB3
          have Hend := Lib.hid (best_fin (D := W0.heap.size) (by omega) hB hS (three_below _ _ _ hB3n) (three_others _ _ _ hk3) (HBB3.out.set x) (show some x = bestL may better ((pre ++ [(⟨x, hx⟩ : Ex)]).map Subtype.val) by rw [Hsn.out]; simp [bestStep, hmx, hbt]))
          gi_wp2_with fail
          exact ⟨Hend.out.1, Hend.out.2.1, Hend.out.2.2⟩
  case done =>
    rintro D ys W hD hys ⟨hBB, hB⟩ hK
    rw [hys] at hBB
    obtain ⟨o, ho⟩ : ∃ o, bestL may better (freeL tk size) = o := ⟨_, rfl⟩
    rw [ho] at hBB
    have Ho := Lib.hid ho
    clear ho hys
    gi_wp2_with fail
    refine wpIn_region_orders [[0, 1, 2, 3], [0, 2, 1, 3], [1, 0, 2, 3]] (by kernel_rfl) (by kernel_rfl) ?_
    intro od hod
    simp only [List.mem_cons, List.not_mem_nil, or_false] at hod
    have y0 := cell_at hBB.b2 0; have y1 := cell_at hBB.b2 1; have y3 := cell_at hBB.b3 0
    simp only [List.getElem?_toArray, List.getElem?_cons_zero, List.getElem?_cons_succ] at y0 y1 y3
    have z0 := free_at hBB.b2 0; have z1 := free_at hBB.b2 1; have z3 := free_at hBB.b3 0
    have HBB := Lib.hid hBB; clear hBB
    have Hsame : Hid (BestB n0 (.func (.func 81) #[] #[.pointer (some ⟨b, 0, none⟩)]) (.func (.func 51) #[] #[]) o (((W.setCell ⟨n0 + 2, 0, none⟩ (.int .i64 (exOf o).page)).setCell ⟨n0 + 2, 1, none⟩ (.int .i64 (exOf o).many)).setCell ⟨n0 + 3, 0, none⟩ (.bool o.isSome))) := Lib.hid (by
      have h1 := HBB.out
      refine ⟨?_, ?_, ?_, ?_⟩
      · exact (Below.heap_setCell _ _ _ _ (by dsimp only; omega)).trans ((Below.heap_setCell _ _ _ _ (by dsimp only; omega)).trans ((Below.heap_setCell _ _ _ _ (by dsimp only; omega)).trans h1.b0))
      · exact (Below.heap_setCell _ _ _ _ (by dsimp only; omega)).trans ((Below.heap_setCell _ _ _ _ (by dsimp only; omega)).trans ((Below.heap_setCell _ _ _ _ (by dsimp only; omega)).trans h1.b1))
      · refine (Below.heap_setCell _ _ _ _ (by dsimp only; omega)).trans ?_
        have e1 := heap_setCell_at (o := 0) h1.b2 (.int .i64 (exOf o).page)
        have e2 := heap_setCell_at (o := 1) e1 (.int .i64 (exOf o).many)
        simpa using e2
      · exact one_setCell ((Below.heap_setCell _ _ _ _ (by dsimp only; omega)).trans ((Below.heap_setCell _ _ _ _ (by dsimp only; omega)).trans h1.b3)))
    rcases hod with rfl | rfl | rfl
    all_goals
      simp only [List.filterMap_cons, List.filterMap_nil, List.getElem?_toArray, List.getElem?_cons_zero, List.getElem?_cons_succ]
      gi_wp2_with fail
      have hK' : (((W.setCell ⟨n0 + 2, 0, none⟩ (.int .i64 (exOf o).page)).setCell ⟨n0 + 2, 1, none⟩ (.int .i64 (exOf o).many)).setCell ⟨n0 + 3, 0, none⟩ (.bool o.isSome)).drew.heap[D]? = some (.deferred (some [])) :=
        (three_others _ _ _ (show KeepsOthers W W from ⟨Nat.le_refl _, fun _ _ h _ => h⟩)).2 _ _ hK rfl
      refine ⟨by simp, .inl ⟨_, _, rfl, run_takeDeferred hK', ?_⟩⟩
      have h2 := (BestB.own n0 (.func (.func 81) #[] #[.pointer (some ⟨b, 0, none⟩)]) (.func (.func 51) #[] #[]) (fun _ : Unit => o)) () _ _ (some D) Hsame.out.drew (grownBy_putObj' _ D (.deferred none)) (fun r e => by cases e; exact ⟨_, hK', rfl⟩)
      have hBe := ((hB.trans (three_below (.int .i64 (exOf o).page) (.int .i64 (exOf o).many) (.bool o.isSome) (Below.refl _ W))).drew).grown (grownBy_putObj' _ D (.deferred none)) (by have := hB.size; have := HN.out; simp; omega) (fun k e => by cases e; omega)
      obtain ⟨W9, hW9⟩ : ∃ W9, (((W.setCell ⟨n0 + 2, 0, none⟩ (.int .i64 (exOf o).page)).setCell ⟨n0 + 2, 1, none⟩ (.int .i64 (exOf o).many)).setCell ⟨n0 + 3, 0, none⟩ (.bool o.isSome)).drew.putObj D (.deferred none) = W9 := ⟨_, rfl⟩
      rw [hW9] at h2 hBe ⊢
      clear hW9 hK'
      have q0 := cell_at h2.b2 0; have q1 := cell_at h2.b2 1; have q3 := cell_at h2.b3 0
      simp only [List.getElem?_toArray, List.getElem?_cons_zero, List.getElem?_cons_succ] at q0 q1 q3
      refine ⟨_, by simp [results, Try.results48, go_sem, q0, q1, q3]; rw [Ho.out]; exact ⟨⟨rfl, rfl⟩, rfl⟩, rfl, ?_⟩
      rw [HN.out]; exact hBe
  case stop =>
    rintro D c pre W _ _ h _
    exact h.elim

set_option maxRecDepth 100000 in
set_option maxHeartbeats 1000000 in
theorem best_most (Bz Bs P T cT : Nat) (tk : List Bool) (size : Nat) (w : World) (hsz : size ≤ tk.length) (hlen : tk.length ≤ 1000000) (hn : Bz < w.heap.size ∧ Bs < w.heap.size ∧ P < w.heap.size ∧ T < w.heap.size)
    (hc : FreeC Bz Bs P T cT tk size w) :
    CallsIn Fence.wide 5 Try.prog 48 #[.func (.func 80) #[] #[.pointer (some ⟨Bz, 0, none⟩), .pointer (some ⟨Bs, 0, none⟩)], (.func (.func 82) #[] #[]), (.func (.func 83) #[] #[])] w (BestPost (bestL (fun _ : Ext => true) (fun a b : Ext => decide (b.many < a.many)) (freeL tk size)) w) := by
  have hmf : ∀ (fn : Fn) (first cap : Array Value) (w : World), (Instr.makeFunc fn first cap).run Try.prog w = .ok (.func fn first cap) w := fun _ _ _ _ => rfl
  have Hm : Hid (∀ (x : Ext) (W : World), Below w.heap.size w W → Calls Try.prog 82 (#[.agg #[.int .i64 x.page, .int .i64 x.many]]) W fun e W' => e = .returned (.bool ((fun _ : Ext => true) x)) ∧ Below W.heap.size W W') := Lib.hid (fun x W hW => may_any x W)
  have Hb : Hid (∀ (x y : Ext) (W : World), Calls Try.prog 83 #[.agg #[.int .i64 x.page, .int .i64 x.many], .agg #[.int .i64 y.page, .int .i64 y.many]] W fun e W' => e = .returned (.bool ((fun a b : Ext => decide (b.many < a.many)) x y)) ∧ Below W.heap.size W W') := Lib.hid (fun x y W => more_any x y W)
  have Hc := Lib.hid hc; clear hc
  obtain ⟨may, hmay⟩ : ∃ may : Ext → Bool, may = (fun _ : Ext => true) := ⟨_, rfl⟩
  obtain ⟨better, hbetter⟩ : ∃ better : Ext → Ext → Bool, better = (fun a b : Ext => decide (b.many < a.many)) := ⟨_, rfl⟩
  rw [← hmay] at Hm ⊢
  rw [← hbetter] at Hb ⊢
  clear hmay hbetter
  refine callsIn_of_wp_marks Try.func48 rfl trivial ?_ rfl
  simp only [Try.ntmps48, List.size_toArray, List.length_cons, List.length_nil, Nat.reduceAdd, Nat.reduceSub, Array.replicate_succ, Array.replicate_zero, List.push_toArray, List.append_toArray, List.nil_append, List.cons_append]
  gi_wp2_with fail
  obtain ⟨n0, hn0⟩ : ∃ n0, w.heap.size = n0 := ⟨_, rfl⟩
  have HN := Lib.hid hn0
  rw [hn0] at hn Hm ⊢
  simp only [Nat.add_assoc, Nat.reduceAdd]
  obtain ⟨W0, hW0⟩ : ∃ W0, ((((w.alloc (.cells #[(.func (.func 82) #[] #[])] 91)).alloc (.cells #[(.func (.func 83) #[] #[])] 92)).alloc (.cells #[.int .i64 0, .int .i64 0] 54)).alloc (.cells #[.bool false] 4)) = W0 := ⟨_, rfl⟩
  rw [hW0]
  have hBW : Below n0 w W0 := by
    rw [← hW0]; exact ((((Below.refl _ w).alloc (by omega) _).alloc (by simp; omega) _).alloc (by simp; omega) _).alloc (by simp; omega) _
  have hszW : W0.heap.size = n0 + 4 := by rw [← hW0]; simp; omega
  have hB0 : BestB n0 (.func (.func 82) #[] #[]) (.func (.func 83) #[] #[]) none W0 := by
    have e0 := heap_new w (.cells #[(.func (.func 82) #[] #[])] 91) hn0
    have e1 := heap_new (w.alloc (.cells #[(.func (.func 82) #[] #[])] 91)) (.cells #[(.func (.func 83) #[] #[])] 92) (n := n0 + 1) (by simp; omega)
    have e2 := heap_new ((w.alloc (.cells #[(.func (.func 82) #[] #[])] 91)).alloc (.cells #[(.func (.func 83) #[] #[])] 92)) (.cells #[.int .i64 0, .int .i64 0] 54) (n := n0 + 2) (by simp; omega)
    have e3 := heap_new (((w.alloc (.cells #[(.func (.func 82) #[] #[])] 91)).alloc (.cells #[(.func (.func 83) #[] #[])] 92)).alloc (.cells #[.int .i64 0, .int .i64 0] 54)) (.cells #[.bool false] 4) (n := n0 + 3) (by simp; omega)
    rw [← hW0]
    exact ⟨heap_alloc_old' (heap_alloc_old' (heap_alloc_old' e0 _) _) _, heap_alloc_old' (heap_alloc_old' e1 _) _, heap_alloc_old' e2 _, e3⟩
  have hW0c : FreeC Bz Bs P T cT tk size W0 := Hc.out.belowN hn hBW
  refine wpIn_range rfl (by omega) (gf := 80) (lb := #[.pointer (some ⟨Bz, 0, none⟩), .pointer (some ⟨Bs, 0, none⟩)]) rfl trivial (enters_of Try.func80 (by kernel_rfl) rfl)
    (free_stops 4 Bz Bs P T cT n0 tk size hsz hlen hn W0 (by omega) hW0c)
    (fun W1 W l r r' h1 h2 h3 => h3.grown (grownBy_putObj' W l _) (by have := (Array.getElem?_eq_some_iff.1 h2).1; omega) (fun k e => by cases e; omega)) (fun _ => rfl)
    (fun pre W => BestB n0 (.func (.func 82) #[] #[]) (.func (.func 83) #[] #[]) (bestL may better (pre.map Subtype.val)) W ∧ Below n0 w W)
    (fun _ _ _ => False) (OwnFrom.and (Own.from (BestB.own _ _ _ _) _) (ownFrom_below (by omega) (by omega))) (fun _ _ _ _ _ hs _ _ => hs) ⟨hB0, hBW⟩
    (fun x W1 a' W => Below n0 W1 W ∧ ∃ Bx, n0 + 4 ≤ Bx ∧ W.heap[Bx]? = some (.cells #[.int .i64 x.1.page, .int .i64 x.1.many] 54 (0, 0)) ∧ a' = { tmps := #[.func (.func 80) #[] #[.pointer (some ⟨Bz, 0, none⟩), .pointer (some ⟨Bs, 0, none⟩)], (.func (.func 82) #[] #[]), (.func (.func 83) #[] #[]), undef, .pointer (some ⟨n0, 0, none⟩), .pointer (some ⟨n0 + 1, 0, none⟩), .pointer (some ⟨n0 + 2, 0, none⟩), .pointer (some ⟨n0 + 3, 0, none⟩), .pointer (some ⟨Bx, 0, none⟩), .func (.func 80) #[] #[.pointer (some ⟨Bz, 0, none⟩), .pointer (some ⟨Bs, 0, none⟩)], .agg #[.int .i64 x.1.page, .int .i64 x.1.many], undef, undef, undef, undef, undef, undef, undef, undef, undef, undef, undef, undef, undef, undef, undef, undef], defers := [] }) ?ax ?assign ?body ?done ?stop
  case ax =>
    rintro x W1 a' s X Y row ⟨hs, Bx, hx, h, e⟩ hg hr
    exact ⟨hs.grown hg (by have := (Array.getElem?_eq_some_iff.1 h).1; omega) (fun k e => by have := (hr k e).1; omega), Bx, hx, (grownBy_keeps_cells hg (fun r e => (hr r e).2) h rfl).trans h, e⟩
  case assign =>
    rintro l0 pre ⟨x, hx⟩ W K ⟨hi, hB⟩ hK
    dsimp only at hK ⊢
    gi_wp2
    have hBa := below_alloc (Below.refl _ W) (.cells #[.int .i64 x.page, .int .i64 x.many] 54)
    have hl := lt_of_block hi.b3
    exact hK _ _ ((KeepsOthers.alloc _ _).from _) ⟨hi.below hBa, hB.trans (hBa.mono (by omega))⟩ ⟨hBa.mono (by omega), W.heap.size, by omega, World.alloc_heap_new W _, rfl⟩
  case body =>
    rintro l0 pre ⟨x, hx⟩ W1 a' W hl0 _ ⟨hBB, hB⟩ ⟨hS, Bx, hBx, hR, rfl⟩ hlen
    dsimp only at hR ⊢
    have c0 := cell_of_one hBB.b0
    have c3 := cell_of_one hBB.b3
    have HBB := Lib.hid hBB
    have r0 : W.cell? ⟨Bx, 0, none⟩ = some (.int .i64 x.page) := by simp [World.cell?, hR]
    have r1 : W.cell? ⟨Bx, 1, none⟩ = some (.int .i64 x.many) := by simp [World.cell?, hR]
    have HR := Lib.hid hR; clear hR
    have hnB : n0 + 3 < W.heap.size := lt_of_block hBB.b3
    obtain ⟨o, ho⟩ : ∃ o, bestL may better (pre.map Subtype.val) = o := ⟨_, rfl⟩
    rw [ho] at c3 HBB
    have Hsn := Lib.hid (show bestL may better ((pre ++ [(⟨x, hx⟩ : Ex)]).map Subtype.val) = bestStep may better o x by rw [List.map_append, List.map_cons, List.map_nil, bestL_snoc, ho])
    clear ho hBB
    gi_wp2_with fail
    refine ⟨trivial, (CallsIn.inRound l0 (callsIn_wide.2 (Hm.out x W hB))).mono ?_⟩
    rintro e w2 ⟨rfl, hB2⟩
    have hB2n : Below n0 W w2 := hB2.mono (by omega)
    have hk2 := others_below hB2
    have HBB2 := Lib.hid (HBB.out.below hB2)
    have c3' := cell_below c3 hB2
    have r0' := cell_below r0 hB2
    have r1' := cell_below r1 hB2
    cases hmx : may x with
    | false =>
      have Hend := Lib.hid (best_fin (D := W0.heap.size) (by omega) hB hS hB2n hk2 HBB2.out (show o = bestL may better ((pre ++ [(⟨x, hx⟩ : Ex)]).map Subtype.val) by rw [Hsn.out]; simp [bestStep, hmx]))
      gi_wp2_with fail
      exact ⟨Hend.out.1, Hend.out.2.1, Hend.out.2.2⟩
    | true =>
      cases o with
      | none =>
        simp only [Option.isSome_none] at c3'
        have z0 := free_at HBB2.out.b2 0; have z1 := free_at HBB2.out.b2 1; have z3 := free_at HBB2.out.b3 0
        have y0 := cell_at HBB2.out.b2 0; have y1 := cell_at HBB2.out.b2 1
        simp only [List.getElem?_toArray, List.getElem?_cons_zero, List.getElem?_cons_succ, exOf, Option.getD_none] at y0 y1
        have Hend := Lib.hid (best_fin (D := W0.heap.size) (by omega) hB hS (three_below _ _ _ hB2n) (three_others _ _ _ hk2) (HBB2.out.set x) (show some x = bestL may better ((pre ++ [(⟨x, hx⟩ : Ex)]).map Subtype.val) by rw [Hsn.out]; simp [bestStep, hmx]))
        gi_wp2_with fail
        exact ⟨Hend.out.1, Hend.out.2.1, Hend.out.2.2⟩
      | some y =>
        simp only [Option.isSome_some] at c3'
        have c1 := cell_of_one HBB2.out.b1
        have y0 := cell_at HBB2.out.b2 0; have y1 := cell_at HBB2.out.b2 1
        simp only [List.getElem?_toArray, List.getElem?_cons_zero, List.getElem?_cons_succ, exOf, Option.getD_some] at y0 y1
        gi_wp2_with fail
        refine ⟨trivial, (CallsIn.inRound l0 (callsIn_wide.2 (Hb.out x y w2))).mono ?_⟩
        rintro e w3 ⟨rfl, hB3⟩
        have hB3n : Below n0 W w3 := hB2n.trans (hB3.mono (by have := hB2.size; omega))
        have hk3 := hk2.trans (others_below hB3)
        have HBB3 := Lib.hid (HBB2.out.below hB3)
        cases hbt : better x y with
        | false =>
          have Hend := Lib.hid (best_fin (D := W0.heap.size) (by omega) hB hS hB3n hk3 HBB3.out (show some y = bestL may better ((pre ++ [(⟨x, hx⟩ : Ex)]).map Subtype.val) by rw [Hsn.out]; simp [bestStep, hmx, hbt]))
          gi_wp2_with fail
          exact ⟨Hend.out.1, Hend.out.2.1, Hend.out.2.2⟩
        | true =>
          have r0'' := cell_below r0' hB3
          have r1'' := cell_below r1' hB3
          have z0 := free_at HBB3.out.b2 0; have z1 := free_at HBB3.out.b2 1; have z3 := free_at HBB3.out.b3 0
          have y0' := cell_below y0 hB3
          have y1' := cell_below y1 hB3
          have c3'' := cell_below c3' hB3
          have Hend := Lib.hid (best_fin (D := W0.heap.size) (by omega) hB hS (three_below _ _ _ hB3n) (three_others _ _ _ hk3) (HBB3.out.set x) (show some x = bestL may better ((pre ++ [(⟨x, hx⟩ : Ex)]).map Subtype.val) by rw [Hsn.out]; simp [bestStep, hmx, hbt]))
          gi_wp2_with fail
          exact ⟨Hend.out.1, Hend.out.2.1, Hend.out.2.2⟩
  case done =>
    rintro D ys W hD hys ⟨hBB, hB⟩ hK
    rw [hys] at hBB
    obtain ⟨o, ho⟩ : ∃ o, bestL may better (freeL tk size) = o := ⟨_, rfl⟩
    rw [ho] at hBB
    have Ho := Lib.hid ho
    clear ho hys
    gi_wp2_with fail
    refine wpIn_region_orders [[0, 1, 2, 3], [0, 2, 1, 3], [1, 0, 2, 3]] (by kernel_rfl) (by kernel_rfl) ?_
    intro od hod
    simp only [List.mem_cons, List.not_mem_nil, or_false] at hod
    have y0 := cell_at hBB.b2 0; have y1 := cell_at hBB.b2 1; have y3 := cell_at hBB.b3 0
    simp only [List.getElem?_toArray, List.getElem?_cons_zero, List.getElem?_cons_succ] at y0 y1 y3
    have z0 := free_at hBB.b2 0; have z1 := free_at hBB.b2 1; have z3 := free_at hBB.b3 0
    have HBB := Lib.hid hBB; clear hBB
    have Hsame : Hid (BestB n0 (.func (.func 82) #[] #[]) (.func (.func 83) #[] #[]) o (((W.setCell ⟨n0 + 2, 0, none⟩ (.int .i64 (exOf o).page)).setCell ⟨n0 + 2, 1, none⟩ (.int .i64 (exOf o).many)).setCell ⟨n0 + 3, 0, none⟩ (.bool o.isSome))) := Lib.hid (by
      have h1 := HBB.out
      refine ⟨?_, ?_, ?_, ?_⟩
      · exact (Below.heap_setCell _ _ _ _ (by dsimp only; omega)).trans ((Below.heap_setCell _ _ _ _ (by dsimp only; omega)).trans ((Below.heap_setCell _ _ _ _ (by dsimp only; omega)).trans h1.b0))
      · exact (Below.heap_setCell _ _ _ _ (by dsimp only; omega)).trans ((Below.heap_setCell _ _ _ _ (by dsimp only; omega)).trans ((Below.heap_setCell _ _ _ _ (by dsimp only; omega)).trans h1.b1))
      · refine (Below.heap_setCell _ _ _ _ (by dsimp only; omega)).trans ?_
        have e1 := heap_setCell_at (o := 0) h1.b2 (.int .i64 (exOf o).page)
        have e2 := heap_setCell_at (o := 1) e1 (.int .i64 (exOf o).many)
        simpa using e2
      · exact one_setCell ((Below.heap_setCell _ _ _ _ (by dsimp only; omega)).trans ((Below.heap_setCell _ _ _ _ (by dsimp only; omega)).trans h1.b3)))
    rcases hod with rfl | rfl | rfl
    all_goals
      simp only [List.filterMap_cons, List.filterMap_nil, List.getElem?_toArray, List.getElem?_cons_zero, List.getElem?_cons_succ]
      gi_wp2_with fail
      have hK' : (((W.setCell ⟨n0 + 2, 0, none⟩ (.int .i64 (exOf o).page)).setCell ⟨n0 + 2, 1, none⟩ (.int .i64 (exOf o).many)).setCell ⟨n0 + 3, 0, none⟩ (.bool o.isSome)).drew.heap[D]? = some (.deferred (some [])) :=
        (three_others _ _ _ (show KeepsOthers W W from ⟨Nat.le_refl _, fun _ _ h _ => h⟩)).2 _ _ hK rfl
      refine ⟨by simp, .inl ⟨_, _, rfl, run_takeDeferred hK', ?_⟩⟩
      have h2 := (BestB.own n0 (.func (.func 82) #[] #[]) (.func (.func 83) #[] #[]) (fun _ : Unit => o)) () _ _ (some D) Hsame.out.drew (grownBy_putObj' _ D (.deferred none)) (fun r e => by cases e; exact ⟨_, hK', rfl⟩)
      have hBe := ((hB.trans (three_below (.int .i64 (exOf o).page) (.int .i64 (exOf o).many) (.bool o.isSome) (Below.refl _ W))).drew).grown (grownBy_putObj' _ D (.deferred none)) (by have := hB.size; have := HN.out; simp; omega) (fun k e => by cases e; omega)
      obtain ⟨W9, hW9⟩ : ∃ W9, (((W.setCell ⟨n0 + 2, 0, none⟩ (.int .i64 (exOf o).page)).setCell ⟨n0 + 2, 1, none⟩ (.int .i64 (exOf o).many)).setCell ⟨n0 + 3, 0, none⟩ (.bool o.isSome)).drew.putObj D (.deferred none) = W9 := ⟨_, rfl⟩
      rw [hW9] at h2 hBe ⊢
      clear hW9 hK'
      have q0 := cell_at h2.b2 0; have q1 := cell_at h2.b2 1; have q3 := cell_at h2.b3 0
      simp only [List.getElem?_toArray, List.getElem?_cons_zero, List.getElem?_cons_succ] at q0 q1 q3
      refine ⟨_, by simp [results, Try.results48, go_sem, q0, q1, q3]; rw [Ho.out]; exact ⟨⟨rfl, rfl⟩, rfl⟩, rfl, ?_⟩
      rw [HN.out]; exact hBe
  case stop =>
    rintro D c pre W _ _ h _
    exact h.elim

end Go.Proofs.Yteipclnlfanfeaa
