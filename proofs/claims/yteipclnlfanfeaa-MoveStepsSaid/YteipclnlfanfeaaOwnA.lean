/- ref36: owners. -/
import Derived.Test.YteipclnlfanfeaaRefC
import Derived.Test.YteipclnlfanfeaaRefD
set_option linter.unusedVariables false
set_option linter.unusedSimpArgs false
namespace Go.Proofs.Yteipclnlfanfeaa
open Go.RowKit

theorem ownX_bad {size e : Int} {l : List Ext} {k : Nat} {o : List Int} (hk : k < l.length) (h : l[k].page < e ∨ l[k].many < 1 ∨ size ≤ l[k].page ∨ size - l[k].page < l[k].many) : ownX size (l.drop k) e o = none := by
  rw [List.drop_eq_getElem_cons hk, ownX, if_pos h]
theorem ownX_go {size e : Int} {l : List Ext} {k : Nat} {o : List Int} (hk : k < l.length) (h : ¬ (l[k].page < e ∨ l[k].many < 1 ∨ size ≤ l[k].page ∨ size - l[k].page < l[k].many)) :
    ownX size (l.drop k) e o = ownX size (l.drop (k + 1)) (l[k].page + l[k].many) (fillO o l[k].page.toNat 1 l[k].many.toNat) := by
  rw [List.drop_eq_getElem_cons hk, ownX, if_neg h]
theorem ownR_hole {size v : Int} {l : List Run} {k : Nat} {o : List Int} (hk : k < l.length) (h : l[k].to = -1) : ownR size v (l.drop k) o = ownR size v (l.drop (k + 1)) o := by
  rw [List.drop_eq_getElem_cons hk, ownR, if_pos h]
theorem ownR_bad {size v : Int} {l : List Run} {k : Nat} {o : List Int} (hk : k < l.length) (h : l[k].to ≠ -1) (h2 : size ≤ l[k].to ∨ size - l[k].to < l[k].many) : ownR size v (l.drop k) o = none := by
  rw [List.drop_eq_getElem_cons hk, ownR, if_neg h, if_pos h2]
theorem ownR_none {size v : Int} {l : List Run} {k : Nat} {o : List Int} (hk : k < l.length) (h : l[k].to ≠ -1) (h2 : ¬ (size ≤ l[k].to ∨ size - l[k].to < l[k].many)) (h3 : putO o l[k].to.toNat v l[k].many.toNat = none) : ownR size v (l.drop k) o = none := by
  rw [List.drop_eq_getElem_cons hk, ownR, if_neg h, if_neg h2, h3]
theorem ownR_some {size v : Int} {l : List Run} {k : Nat} {o t : List Int} (hk : k < l.length) (h : l[k].to ≠ -1) (h2 : ¬ (size ≤ l[k].to ∨ size - l[k].to < l[k].many)) (h3 : putO o l[k].to.toNat v l[k].many.toNat = some t) : ownR size v (l.drop k) o = ownR size v (l.drop (k + 1)) t := by
  rw [List.drop_eq_getElem_cons hk, ownR, if_neg h, if_neg h2, h3]
theorem ownF_bad {size no : Int} {l : List Fil} {k : Nat} {o : List Int} (hk : k < l.length) (h : ¬ (no < l[k].no ∧ l[k].no ≤ 1073741824 ∧ mustE l[k].runs = 0 ∧ normL l[k].runs = l[k].runs)) : ownF size k (l.drop k) no o = none := by
  rw [List.drop_eq_getElem_cons hk, ownF, if_neg h]
theorem ownF_none {size no : Int} {l : List Fil} {k : Nat} {o : List Int} (hk : k < l.length) (h : no < l[k].no ∧ l[k].no ≤ 1073741824 ∧ mustE l[k].runs = 0 ∧ normL l[k].runs = l[k].runs) (h2 : ownR size ((k : Int) + 2) l[k].runs o = none) : ownF size k (l.drop k) no o = none := by
  rw [List.drop_eq_getElem_cons hk, ownF, if_pos h, h2]
theorem ownF_some {size no : Int} {l : List Fil} {k : Nat} {o t : List Int} (hk : k < l.length) (h : no < l[k].no ∧ l[k].no ≤ 1073741824 ∧ mustE l[k].runs = 0 ∧ normL l[k].runs = l[k].runs) (h2 : ownR size ((k : Int) + 2) l[k].runs o = some t) : ownF size k (l.drop k) no o = ownF size (k + 1) (l.drop (k + 1)) l[k].no t := by
  rw [List.drop_eq_getElem_cons hk, ownF, if_pos h, h2]
theorem ownL_bad {p : Pic} (h : ¬ openB p) : ownL p = none := by rw [ownL, if_neg h]
theorem ownL_fix {p : Pic} (hb : openB p) (h : ownX p.size p.fixed 0 (List.replicate p.size.toNat 0) = none) : ownL p = none := by
  rw [ownL, if_pos hb, h]
theorem ownL_first {p : Pic} {t : List Int} (hb : openB p) (h : ownX p.size p.fixed 0 (List.replicate p.size.toNat 0) = some t) (h3 : ¬ (t[0]? = some 1 ∧ t[1]? = some 1 ∧ t[2]? = some 1)) : ownL p = none := by
  rw [ownL, if_pos hb, h]
  simp only
  rw [if_neg h3]
theorem ownL_fil {p : Pic} {t : List Int} (hb : openB p) (h : ownX p.size p.fixed 0 (List.replicate p.size.toNat 0) = some t) (h3 : t[0]? = some 1 ∧ t[1]? = some 1 ∧ t[2]? = some 1) : ownL p = ownF p.size 0 p.files (-1) t := by
  rw [ownL, if_pos hb, h]
  simp only
  rw [if_pos h3]
/-- the number of the file ahead -/
def prevNo (l : List Fil) (k : Nat) : Int := if k = 0 then -1 else match l[k - 1]? with
  | some f => f.no
  | none => -1
theorem prevNo_zero (l : List Fil) : prevNo l 0 = -1 := rfl
theorem prevNo_succ {l : List Fil} {k : Nat} (h : k < l.length) : prevNo l (k + 1) = l[k].no := by simp [prevNo, h]
theorem fillO_length (o : List Int) (a : Nat) (v : Int) (m : Nat) : (fillO o a v m).length = o.length := by
  induction m with
  | zero => rfl
  | succ m ih => simp [fillO, ih]
theorem putO_length {o t : List Int} {a : Nat} {v : Int} {m : Nat} (h : putO o a v m = some t) : t.length = o.length := by
  induction m generalizing t with
  | zero => simp [putO] at h; subst h; rfl
  | succ m ih =>
    simp only [putO] at h
    split at h
    · cases h
    · rename_i t' ht
      split at h
      · cases h; simpa using ih ht
      · cases h
theorem putO_none {o : List Int} {a k n : Nat} {v : Int} (h : putO o a v k = none) (hk : k ≤ n) : putO o a v n = none := by
  induction n with
  | zero => obtain rfl : k = 0 := by omega
            exact h
  | succ n ih =>
    by_cases e : k = n + 1
    · subst e; exact h
    · simp only [putO]; rw [ih (by omega)]
theorem putO_step {o t : List Int} {a k : Nat} {v : Int} (h : putO o a v k = some t) (hk : a + k < t.length) (h0 : t[a + k] = 0) : putO o a v (k + 1) = some (t.set (a + k) v) := by
  simp only [putO, h]
  rw [List.getElem?_eq_getElem hk, h0, if_pos rfl]
theorem putO_stop {o t : List Int} {a k : Nat} {v : Int} (h : putO o a v k = some t) (hk : a + k < t.length) (h0 : t[a + k] ≠ 0) : putO o a v (k + 1) = none := by
  simp only [putO, h]
  rw [List.getElem?_eq_getElem hk, if_neg (fun e => h0 (by injection e))]

theorem infoI : (Try.prog.info? 3).map (fun i => (i.zero, i.size, i.bytes)) = some (some (.int .i64 0), 1, 8) := by kernel_rfl
theorem make_ints (n : Int) (h0 : 0 ≤ n) (h1 : n ≤ 1000000) (w : World) :
    (Instr.makeSlice 74 (.int .i64 n) (.int .i64 n)).run Try.prog w = .ok (.slice (some ⟨w.heap.size, 0, none⟩) n.toNat n.toNat) (w.alloc (.cells (Array.replicate n.toNat (.int .i64 0)) 3)) := by
  obtain ⟨i0, hi, hz0, hz1, hz2⟩ := info_parts infoI
  have h := run_makeSlice w 74 3 i0 (.int .i64 0) Try.underlying74 hi hz0 .i64 .i64 n n h0 (Int.le_refl _) (by rw [hz1]; omega) (by rw [hz2]; omega) (by omega)
  have e : madeCells (Value.int .i64 0).cells n.toNat = Array.replicate n.toNat (.int .i64 0) := Array.toList_inj.1 (by rw [show (Value.int .i64 0).cells = #[.int .i64 0] from rfl, toList_madeCells_one, Array.toList_replicate])
  rw [h, hz1, Nat.mul_one, e]

/-- what stands while owners runs -/
structure OwS (w0 : World) (v1 v2 : Value) (p : Pic) (o : List Int) (W : World) : Prop where
  below : Below w0.heap.size w0 W
  box : W.heap[w0.heap.size]? = some (.cells #[.int .i64 p.size, v1, v2] 25 (0, 0))
  out : W.heap[w0.heap.size + 1]? = some (.cells (o.map (Value.int .i64)).toArray 3 (0, 0))
  len : o.length = p.size.toNat
section
variable {w0 : World} {v1 v2 : Value} {p : Pic} {o : List Int} {W W' : World}
theorem OwS.next (h : OwS w0 v1 v2 p o W) (hB : Below W.heap.size W W') : OwS w0 v1 v2 p o W' := ⟨below_then h.below hB, block_below h.box hB, block_below h.out hB, h.len⟩
theorem OwS.alloc (h : OwS w0 v1 v2 p o W) (x : Obj) : OwS w0 v1 v2 p o (W.alloc x) := h.next (below_alloc (Below.refl _ _) _)
theorem OwS.c0 (h : OwS w0 v1 v2 p o W) : W.cell? ⟨w0.heap.size, 0, none⟩ = some (.int .i64 p.size) := by simpa using cell_at h.box 0
theorem OwS.c1 (h : OwS w0 v1 v2 p o W) : W.cell? ⟨w0.heap.size, 1, none⟩ = some v1 := by simpa using cell_at h.box 1
theorem OwS.c2 (h : OwS w0 v1 v2 p o W) : W.cell? ⟨w0.heap.size, 2, none⟩ = some v2 := by simpa using cell_at h.box 2
theorem OwS.co (h : OwS w0 v1 v2 p o W) {i : Nat} (hi : i < o.length) : W.cell? ⟨w0.heap.size + 1, i, none⟩ = some (.int .i64 o[i]) ∧ W.frozen? ⟨w0.heap.size + 1, i, none⟩ = false :=
  ⟨by rw [cell_at h.out]; simp [hi], free_at h.out i⟩
theorem OwS.o? (h : OwS w0 v1 v2 p o W) {i : Nat} {x : Int} (hi : o[i]? = some x) : W.cell? ⟨w0.heap.size + 1, i, none⟩ = some (.int .i64 x) := by
  rw [cell_at h.out]; simp [hi]
theorem OwS.set (h : OwS w0 v1 v2 p o W) (i : Nat) (v : Int) : OwS w0 v1 v2 p (o.set i v) (W.setCell ⟨w0.heap.size + 1, i, none⟩ (.int .i64 v)) := by
  refine ⟨h.below.setCell (p := ⟨w0.heap.size + 1, i, none⟩) (by dsimp only; omega) _, (Below.heap_setCell _ _ _ _ (by dsimp only; omega)).trans h.box, ?_, by rw [List.length_set]; exact h.len⟩
  rw [heap_setCell_at h.out]; simp [List.map_set]
theorem other_set {X : Nat} {x : Obj} (hx : W.heap[X]? = some x) {n i : Nat} {v : Value} (hn : X ≠ n) : (W.setCell ⟨n, i, none⟩ v).heap[X]? = some x := (Below.heap_setCell _ _ _ _ (by dsimp only; omega)).trans hx
theorem OwS.ints (h : OwS w0 v1 v2 p o W) : IntsC W (some ⟨w0.heap.size + 1, 0, none⟩) o := fun k hk => ⟨_, _, rfl, by rw [Nat.zero_add]; exact (h.co hk).1⟩
theorem OwS.lt (h : OwS w0 v1 v2 p o W) : w0.heap.size + 1 < W.heap.size := lt_of_block h.out
end
theorem own_fail {p : Pic} {w w' : World} (h : ownL p = none) (hB : Below w.heap.size w w') : OwnPost p w (.returned (.tuple #[.slice none 0 0, .bool false])) w' := ⟨.inr ⟨h, rfl⟩, hB⟩
theorem anyC_undef {F : Fence} {n : Nat} {P : Program} {ops : Array Oper} {Q : Exit → Act → World → Prop} {md : Region.Mode} {C : World → Prop} {i : Nat} (d : Nat) {oi : Oper} {fuel : Nat} {listed : Array Bool} {a : Act} {w : World} (hro : F.round = none) (hi : ops[i]? = some oi) (hd : oi.dst = some d)
    (hs : Region.noSelect ops = true) (hf : Region.free md ops listed i = true) (hr : (Region.ready md ops listed).contains i = true)
    (hQ : ∀ c a w, Q (.panic c) (a.put (some d) undef) w → Q (.panic c) a w) (hw : C w) (hwt : Region.wanted oi (yielded ops a.tmps) = false) (hab : ∀ w, oi.about P w a.eval = none)
    (h : anyC F n P md ops C Q fuel (listed.setIfInBounds i true) (a.put (some d) undef) w) : anyC F n P md ops C Q (fuel + 1) listed a w :=
  anyC_take undef hro hi hs hf hr (by rw [hd]; exact hQ) hw ⟨.inr ⟨hwt, rfl⟩, hab⟩ (by rw [hd]; exact h)
theorem anyC_skipW {n : Nat} {P : Program} {ops : Array Oper} {Q : Exit → Act → World → Prop} {md : Region.Mode} {C : World → Prop} {i : Nat} (d : Nat) {o : Oper} {fuel : Nat} {listed : Array Bool} {a : Act} {w : World} (hr : Region.ready md ops listed = [i]) (ho : ops[i]? = some o) (hd : o.dst = some d)
    (hw : Region.wanted o (yielded ops a.tmps) = false) (hC : C w) (h : anyC Fence.wide n P md ops C Q fuel (listed.setIfInBounds i true) (a.put (some d) undef) w) : anyC Fence.wide n P md ops C Q (fuel + 1) listed a w := by
  refine anyC_only hr ?_
  unfold wpOpIn
  simp only [ho, hw, hd]
  exact ⟨fun f hf => trivial, hC, h⟩
section
attribute [local go_sem] undef
set_option maxRecDepth 100000 in
set_option maxHeartbeats 80000000 in
theorem owners_any (p : Pic) (v : Value) (w : World) (hp : PicC w v p) (hn : PicOk p) : Calls Try.prog 40 #[v] w (OwnPost p w) := by
  have hmx : Try.prog.follows .mixedOrders = true := by kernel_rfl
  obtain ⟨Ax, cx, Fa, cf, rfl, hx, hf⟩ := hp
  have Hn := Lib.hid hn.2.2
  have hnx := hn.1
  have hnf := hn.2.1
  clear hn
  have hB0 := below_alloc (Below.refl _ w) (.cells #[.int .i64 p.size, .slice Ax p.fixed.length cx, .slice Fa p.files.length cf] 25)
  by_cases h1 : p.size < 4
  · have d1 : decide (p.size < 4) = true := by simpa using h1
    go_enter Try.func40, Try.ntmps40
    go_wp2_with fail
    go_ret2
    exact own_fail (ownL_bad (by unfold openB; omega)) hB0
  have d1 : decide (p.size < 4) = false := by simpa using h1
  by_cases h2 : 768 < p.size
  · have d2 : decide (768 < p.size) = true := by simpa using h2
    go_enter Try.func40, Try.ntmps40
    go_wp2_with fail
    go_ret2
    exact own_fail (ownL_bad (by unfold openB; omega)) hB0
  have d2 : decide (768 < p.size) = false := by simpa using h2
  by_cases h3 : 200 < p.fixed.length
  · have d3 : decide ((200 : Int) < (p.fixed.length : Int)) = true := by simp; omega
    go_enter Try.func40, Try.ntmps40
    go_wp2_with fail
    go_ret2
    exact own_fail (ownL_bad (by unfold openB; omega)) hB0
  have d3 : decide ((200 : Int) < (p.fixed.length : Int)) = false := by simp; omega
  by_cases h4 : 200 < p.files.length
  · have d4 : decide ((200 : Int) < (p.files.length : Int)) = true := by simp; omega
    go_enter Try.func40, Try.ntmps40
    go_wp2_with fail
    go_ret2
    exact own_fail (ownL_bad (by unfold openB; omega)) hB0
  have d4 : decide ((200 : Int) < (p.files.length : Int)) = false := by simp; omega
  have Hob := Lib.hid (show openB p from ⟨by omega, by omega, by omega, by omega⟩)
  have hmk : ∀ W : World, _ := fun W => make_ints p.size (by omega) (by omega) W
  have hO : OwS w (.slice Ax p.fixed.length cx) (.slice Fa p.files.length cf) p (List.replicate p.size.toNat 0) ((w.alloc (.cells #[.int .i64 p.size, .slice Ax p.fixed.length cx, .slice Fa p.files.length cf] 25)).alloc (.cells (Array.replicate p.size.toNat (.int .i64 0)) 3)) :=
    ⟨below_alloc hB0 _, heap_alloc_old' (World.alloc_heap_new w _) _, by rw [heap_new (w.alloc (.cells #[.int .i64 p.size, .slice Ax p.fixed.length cx, .slice Fa p.files.length cf] 25)) _ (n := w.heap.size + 1) (by simp)]; simp, by simp⟩
  have HO := Lib.hid hO
  clear hO
  go_enter Try.func40, Try.ntmps40
  go_wp2_with fail
  go_loopw [5, 6] (fun e i wr => ∃ (k : Nat) (e0 : Int) (o : List Int), k ≤ p.fixed.length ∧ i = .int .i64 k ∧ e = .int .i64 e0 ∧ 0 ≤ e0 ∧ e0 ≤ 768 ∧ Hid (ownX p.size p.fixed 0 (List.replicate p.size.toNat 0) = ownX p.size (p.fixed.drop k) e0 o) ∧ Hid (OwS w (.slice Ax p.fixed.length cx) (.slice Fa p.files.length cf) p o wr)) (fun _ i _ => p.fixed.length - (intOf i).toNat)
  case atStart => exact ⟨0, 0, _, by omega, by simp, rfl, by omega, by omega, Lib.hid (by simp), HO⟩
  case round =>
    clear HO hmk d1 d2 d3 d4
    obtain ⟨k, e0, o, hk, rfl, rfl, he0, he1, HX, HO⟩ := hrel
    have c0 := HO.out.c0; have c1 := HO.out.c1; have c2 := HO.out.c2
    by_cases hlt : k < p.fixed.length
    · obtain ⟨b, o', rfl, x0, x1⟩ := (hx.below HO.out.below) k hlt
      obtain ⟨pg, hpg⟩ : ∃ pg, p.fixed[k].page = pg := ⟨_, rfl⟩
      obtain ⟨mn, hmn⟩ : ∃ mn, p.fixed[k].many = mn := ⟨_, rfl⟩
      have hbad := fun h => HX.out.trans (ownX_bad (o := o) (size := p.size) (e := e0) hlt h)
      have hgo := fun h => HX.out.trans (ownX_go (o := o) (size := p.size) (e := e0) hlt h)
      rw [hpg, hmn] at hbad hgo
      rw [hpg] at x0
      rw [hmn] at x1
      have Hbad := Lib.hid hbad
      have Hgo := Lib.hid hgo
      clear hpg hmn hbad hgo
      have c0' := (HO.out.alloc (.cells #[.int .i64 pg, .int .i64 mn] 54)).c0
      by_cases g1 : pg < e0
      · have q1 : decide (pg < e0) = true := by simpa using g1
        have Hl := Lib.hid (ownL_fix Hob.out (Hbad.out (.inl g1)))
        go_wp2_with fail
        go_ret2
        exact own_fail Hl.out (HO.out.alloc _).below
      have q1 : decide (pg < e0) = false := by simpa using g1
      by_cases g2 : mn < 1
      · have q2 : decide (mn < 1) = true := by simpa using g2
        have Hl := Lib.hid (ownL_fix Hob.out (Hbad.out (.inr (.inl g2))))
        go_wp2_with fail
        go_ret2
        exact own_fail Hl.out (HO.out.alloc _).below
      have q2 : decide (mn < 1) = false := by simpa using g2
      by_cases g3 : p.size ≤ pg
      · have q3 : decide (p.size ≤ pg) = true := by simpa using g3
        have Hl := Lib.hid (ownL_fix Hob.out (Hbad.out (.inr (.inr (.inl g3)))))
        go_wp2_with fail
        go_ret2
        exact own_fail Hl.out (HO.out.alloc _).below
      have q3 : decide (p.size ≤ pg) = false := by simpa using g3
      by_cases g4 : p.size - pg < mn
      · have q4 : decide (p.size - pg < mn) = true := by simpa using g4
        have Hl := Lib.hid (ownL_fix Hob.out (Hbad.out (.inr (.inr (.inr g4)))))
        go_wp2_with fail
        go_ret2
        exact own_fail Hl.out (HO.out.alloc _).below
      have q4 : decide (p.size - pg < mn) = false := by simpa using g4
      obtain ⟨a, rfl⟩ := Int.eq_ofNat_of_zero_le (show 0 ≤ pg by omega)
      obtain ⟨m, rfl⟩ := Int.eq_ofNat_of_zero_le (show 0 ≤ mn by omega)
      have Hgo2 := Lib.hid (Hgo.out (by omega))
      clear Hgo Hbad HX
      have hO1 := HO.out.alloc (.cells #[.int .i64 a, .int .i64 m] 54)
      have hX1 := World.alloc_heap_new wr (.cells #[.int .i64 a, .int .i64 m] 54)
      have hXn := HO.out.lt
      have HO1 := Lib.hid (And.intro hO1 hX1)
      clear hO1 hX1
      go_wp2_with fail
      obtain ⟨X, hX⟩ : ∃ X, wr.heap.size = X := ⟨_, rfl⟩
      rw [hX] at HO1 hXn
      rw [hX]
      clear HO c0 c1 c2 x0 x1 c0'
      have hsz : a + m ≤ p.size.toNat := by omega
      go_loopw [8] (fun i wx => ∃ j : Nat, j ≤ m ∧ i = .int .i64 ((a : Int) + j) ∧ Hid (OwS w (.slice (some ⟨b, o', none⟩) p.fixed.length cx) (.slice Fa p.files.length cf) p (fillO o a 1 j) wx ∧ wx.heap[X]? = some (.cells #[.int .i64 a, .int .i64 m] 54 (0, 0)))) (fun i _ => (a + m - (intOf i)).toNat)
      case atStart => exact ⟨0, by omega, by simp, HO1⟩
      case round =>
        clear HO1
        obtain ⟨j, hj, rfl, HJ⟩ := hrel
        have b0 := cell_at HJ.out.2 0
        have b1 := cell_at HJ.out.2 1
        simp only [List.getElem?_toArray, List.getElem?_cons_zero, List.getElem?_cons_succ] at b0 b1
        have hlo : (fillO o a 1 j).length = p.size.toNat := HJ.out.1.len
        by_cases hlj : j < m
        · have hin : a + j < (fillO o a 1 j).length := by omega
          obtain ⟨co, cz⟩ := HJ.out.1.co hin
          have HN := Lib.hid (And.intro (HJ.out.1.set (a + j) 1) (other_set HJ.out.2 (n := w.heap.size + 1) (i := a + j) (v := .int .i64 1) (by omega)))
          go_wp2_with fail
          exact ⟨⟨j + 1, by omega, by go_num, HN⟩, by simp [intOf]; omega⟩
        · obtain rfl : j = m := by omega
          clear hlo
          have HE := HJ
          go_wp2_with fail
          refine ⟨?AA1, ?BB1⟩
          case BB1 => simp [intOf]; omega
          case AA1 => first | exact ⟨k + 1, a + j, fillO o a 1 j, by omega, by simp, by simp, by omega, by omega, Hgo2, Lib.hid HE.out.1⟩ | ((repeat apply Exists.intro); exact ⟨⟨k + 1, a + j, fillO o a 1 j, by omega, by simp, by simp, by omega, by omega, Hgo2, Lib.hid HE.out.1⟩, rfl⟩)
    · obtain rfl : k = p.fixed.length := by omega
      have hX := HX.out
      rw [List.drop_length] at hX
      simp only [ownX] at hX
      have HX' := Lib.hid hX
      clear hX HX
      have hol := HO.out.len
      obtain ⟨t0, ht0⟩ : ∃ t0, o[0]? = some t0 := ⟨o[0]'(by omega), List.getElem?_eq_getElem _⟩
      obtain ⟨t1, ht1⟩ : ∃ t1, o[1]? = some t1 := ⟨o[1]'(by omega), List.getElem?_eq_getElem _⟩
      obtain ⟨t2, ht2⟩ : ∃ t2, o[2]? = some t2 := ⟨o[2]'(by omega), List.getElem?_eq_getElem _⟩
      have o0 := HO.out.o? ht0; have o1 := HO.out.o? ht1; have o2 := HO.out.o? ht2
      have Ht := Lib.hid (And.intro ht0 (And.intro ht1 ht2))
      clear ht0 ht1 ht2
      by_cases g1 : t0 = 1
      rotate_left
      · have q1 : (t0 != 1) = true := by simpa using g1
        have Hl := Lib.hid (ownL_first Hob.out HX'.out (by rw [Ht.out.1]; simp [g1]))
        clear g1
        go_wp2_with fail
        go_ret2
        exact own_fail Hl.out HO.out.below
      have q1 : (t0 != 1) = false := by simpa using g1
      by_cases g2 : t1 = 1
      rotate_left
      · have q2 : (t1 != 1) = true := by simpa using g2
        have Hl := Lib.hid (ownL_first Hob.out HX'.out (by rw [Ht.out.2.1]; simp [g2]))
        clear g1 g2
        go_wp2_with fail
        go_ret2
        exact own_fail Hl.out HO.out.below
      have q2 : (t1 != 1) = false := by simpa using g2
      by_cases g3 : t2 = 1
      rotate_left
      · have q3 : (t2 != 1) = true := by simpa using g3
        have Hl := Lib.hid (ownL_first Hob.out HX'.out (by rw [Ht.out.2.2]; simp [g3]))
        clear g1 g2 g3
        go_wp2_with fail
        go_ret2
        exact own_fail Hl.out HO.out.below
      have q3 : (t2 != 1) = false := by simpa using g3
      have Hl := Lib.hid (ownL_fil Hob.out HX'.out (by rw [Ht.out.1, Ht.out.2.1, Ht.out.2.2, g1, g2, g3]; simp))
      clear g1 g2 g3 HX'
      go_wp2_with fail
      go_loopw [9] (fun i wr => ∃ (k : Nat) (o : List Int), k ≤ p.files.length ∧ i = .int .i64 k ∧ Hid (ownL p = ownF p.size k (p.files.drop k) (prevNo p.files k) o) ∧ Hid (-1 ≤ prevNo p.files k) ∧ Hid (OwS w (.slice Ax p.fixed.length cx) (.slice Fa p.files.length cf) p o wr)) (fun i _ => p.files.length - (intOf i).toNat)
      case atStart => exact ⟨0, o, by omega, by simp, Lib.hid (by rw [Hl.out]; rfl), Lib.hid (by rw [prevNo_zero]; omega), HO⟩
      case round =>
        clear HO Hl c0 c1 c2 o0 o1 o2 q1 q2 q3 Ht hol
        obtain ⟨k, o, hk, rfl, HL, Hpv, HO⟩ := hrel
        have c0 := HO.out.c0; have c1 := HO.out.c1; have c2 := HO.out.c2
        by_cases hlt : k < p.files.length
        rotate_left
        · obtain rfl : k = p.files.length := by omega
          have hL := HL.out
          rw [List.drop_length] at hL
          simp only [ownF] at hL
          have HL' := Lib.hid hL
          clear hL HL
          have hol : p.size.toNat = o.length := HO.out.len.symm
          have Hol := Lib.hid hol
          clear hol
          go_wp2_with fail
          go_ret2
          exact ⟨.inl ⟨o, _, p.size.toNat, HL'.out, by rw [← Hol.out]; rfl, HO.out.ints⟩, HO.out.below⟩
        have hf1 := hf.below HO.out.below
        obtain ⟨b, o', A', c', rfl, x0w, x1w, hrunw⟩ := hf k hlt
        have x0 := cell_below x0w HO.out.below
        have x1 := cell_below x1w HO.out.below
        have hrun := hrunw.below HO.out.below
        have Hrunw := Lib.hid hrunw
        clear x0w x1w hrunw
        obtain ⟨no, hno⟩ : ∃ no, p.files[k].no = no := ⟨_, rfl⟩
        rw [hno] at x0
        have Hrl := Lib.hid (Hn.out _ (List.getElem_mem hlt))
        have Hno := Lib.hid hno
        clear hno
        have hX1 := World.alloc_heap_new wr (.cells #[.int .i64 no, .slice A' p.files[k].runs.length c'] 46)
        have hBr := below_alloc (Below.refl wr.heap.size wr) (.cells #[.int .i64 no, .slice A' p.files[k].runs.length c'] 46)
        have hO1 := HO.out.alloc (.cells #[.int .i64 no, .slice A' p.files[k].runs.length c'] 46)
        have hXn := HO.out.lt
        have Hrun := Lib.hid (hrun.below hBr)
        have hf1' := hf1.below hBr
        have HO1 := Lib.hid hO1
        have HX1 := Lib.hid hX1
        have Hf1 := Lib.hid hf1'
        clear hO1 hX1 hrun hf1 hf1'
        go_wp2_with fail
        obtain ⟨X, hX⟩ : ∃ X, wr.heap.size = X := ⟨_, rfl⟩
        obtain ⟨w1, hw1⟩ : ∃ w1, wr.alloc (.cells #[.int .i64 no, .slice A' p.files[k].runs.length c'] 46) = w1 := ⟨_, rfl⟩
        rw [hX] at HX1 hXn
        rw [hX]
        rw [hw1] at Hrun HO1 HX1 Hf1 ⊢
        clear HO c0 c1 c2 x0 x1 hBr hw1 hX
        have f0 := cell_at HX1.out 0
        have f1 := cell_at HX1.out 1
        simp only [List.getElem?_toArray, List.getElem?_cons_zero, List.getElem?_cons_succ] at f0 f1
        have z2 := HO1.out.c2
        go_cut [160] from 122 to 160 (fun q wx => ∃ bb : Bool, q = .bool bb ∧ Hid (bb = false ↔ (prevNo p.files k < no ∧ no ≤ 1073741824 ∧ mustE p.files[k].runs = 0 ∧ normL p.files[k].runs = p.files[k].runs)) ∧ Below w1.heap.size w1 wx)
        case first =>
          have hf1 := Hf1.out
          clear HL
          refine wp_region_anyN (C := (fun W' : World => Below w1.heap.size w1 W')) 39 (by kernel_rfl) hmx ?_
          have hCw : (fun W' : World => Below w1.heap.size w1 W') w1.drew := (Below.refl _ _).drew
          refine anyC_take (i := 0) ?v0a rfl rfl (by kernel_rfl) (by kernel_rfl) (by kernel_rfl) (fun _ _ _ h => h) hCw ⟨.inl ⟨by kernel_rfl, fun W' hW' => ?y0a⟩, fun _ => rfl⟩ ?_
          case y0a => (have c2 := cell_below z2 hW'; have f0 := cell_below f0 hW'; have f1 := cell_below f1 hW'; go_simp; rfl)
          simp only [Act.put, List.setIfInBounds_toArray, List.set_cons_succ, List.set_cons_zero]
          refine anyC_take (i := 1) ?v1a rfl rfl (by kernel_rfl) (by kernel_rfl) (by kernel_rfl) (fun _ _ _ h => h) hCw ⟨.inl ⟨by kernel_rfl, fun W' hW' => ?y1a⟩, fun _ => rfl⟩ ?_
          case y1a => (have c2 := cell_below z2 hW'; have f0 := cell_below f0 hW'; have f1 := cell_below f1 hW'; go_simp; rfl)
          simp only [Act.put, List.setIfInBounds_toArray, List.set_cons_succ, List.set_cons_zero]
          by_cases g1 : no < 0
          · have d1 : decide (no < 0) = true := by simpa using g1
            have Hg := Lib.hid (show ¬ (prevNo p.files k < no ∧ no ≤ 1073741824 ∧ mustE p.files[k].runs = 0 ∧ normL p.files[k].runs = p.files[k].runs) from fun h => by have := Hpv.out; omega)
            clear g1
            refine anyC_take (i := 2) ?v2A rfl rfl (by kernel_rfl) (by kernel_rfl) (by kernel_rfl) (fun _ _ _ h => h) hCw ⟨.inl ⟨by kernel_rfl, fun W' hW' => ?y2A⟩, fun _ => rfl⟩ ?_
            case y2A => (have c2 := cell_below z2 hW'; have f0 := cell_below f0 hW'; have f1 := cell_below f1 hW'; go_simp; rfl)
            simp only [Act.put, List.setIfInBounds_toArray, List.set_cons_succ, List.set_cons_zero]
            refine anyC_take (i := 3) ?v3A rfl rfl (by kernel_rfl) (by kernel_rfl) (by kernel_rfl) (fun _ _ _ h => h) hCw ⟨.inl ⟨by kernel_rfl, fun W' hW' => ?y3A⟩, fun _ => rfl⟩ ?_
            case y3A => (have c2 := cell_below z2 hW'; have f0 := cell_below f0 hW'; have f1 := cell_below f1 hW'; go_simp; rfl)
            simp only [Act.put, List.setIfInBounds_toArray, List.set_cons_succ, List.set_cons_zero]
            refine anyC_undef (i := 4) 126 rfl rfl rfl (by kernel_rfl) (by kernel_rfl) (by kernel_rfl) (fun _ _ _ h => h) hCw (by kernel_rfl) (fun _ => rfl) ?_
            simp only [Act.put, List.setIfInBounds_toArray, List.set_cons_succ, List.set_cons_zero]
            refine anyC_undef (i := 5) 127 rfl rfl rfl (by kernel_rfl) (by kernel_rfl) (by kernel_rfl) (fun _ _ _ h => h) hCw (by kernel_rfl) (fun _ => rfl) ?_
            simp only [Act.put, List.setIfInBounds_toArray, List.set_cons_succ, List.set_cons_zero]
            refine anyC_undef (i := 6) 128 rfl rfl rfl (by kernel_rfl) (by kernel_rfl) (by kernel_rfl) (fun _ _ _ h => h) hCw (by kernel_rfl) (fun _ => rfl) ?_
            simp only [Act.put, List.setIfInBounds_toArray, List.set_cons_succ, List.set_cons_zero]
            refine anyC_take (i := 7) ?v7A rfl rfl (by kernel_rfl) (by kernel_rfl) (by kernel_rfl) (fun _ _ _ h => h) hCw ⟨.inl ⟨by kernel_rfl, fun W' hW' => ?y7A⟩, fun _ => rfl⟩ ?_
            case y7A => (have c2 := cell_below z2 hW'; have f0 := cell_below f0 hW'; have f1 := cell_below f1 hW'; go_simp; rfl)
            simp only [Act.put, List.setIfInBounds_toArray, List.set_cons_succ, List.set_cons_zero]
            refine anyC_take (i := 8) ?v8A rfl rfl (by kernel_rfl) (by kernel_rfl) (by kernel_rfl) (fun _ _ _ h => h) hCw ⟨.inl ⟨by kernel_rfl, fun W' hW' => ?y8A⟩, fun _ => rfl⟩ ?_
            case y8A => (have c2 := cell_below z2 hW'; have f0 := cell_below f0 hW'; have f1 := cell_below f1 hW'; go_simp; rfl)
            simp only [Act.put, List.setIfInBounds_toArray, List.set_cons_succ, List.set_cons_zero]
            refine anyC_undef (i := 9) 131 rfl rfl rfl (by kernel_rfl) (by kernel_rfl) (by kernel_rfl) (fun _ _ _ h => h) hCw (by kernel_rfl) (fun _ => rfl) ?_
            simp only [Act.put, List.setIfInBounds_toArray, List.set_cons_succ, List.set_cons_zero]
            refine anyC_undef (i := 10) 132 rfl rfl rfl (by kernel_rfl) (by kernel_rfl) (by kernel_rfl) (fun _ _ _ h => h) hCw (by kernel_rfl) (fun _ => rfl) ?_
            simp only [Act.put, List.setIfInBounds_toArray, List.set_cons_succ, List.set_cons_zero]
            refine anyC_undef (i := 11) 133 rfl rfl rfl (by kernel_rfl) (by kernel_rfl) (by kernel_rfl) (fun _ _ _ h => h) hCw (by kernel_rfl) (fun _ => rfl) ?_
            simp only [Act.put, List.setIfInBounds_toArray, List.set_cons_succ, List.set_cons_zero]
            refine anyC_undef (i := 12) 134 rfl rfl rfl (by kernel_rfl) (by kernel_rfl) (by kernel_rfl) (fun _ _ _ h => h) hCw (by kernel_rfl) (fun _ => rfl) ?_
            simp only [Act.put, List.setIfInBounds_toArray, List.set_cons_succ, List.set_cons_zero]
            refine anyC_undef (i := 13) 135 rfl rfl rfl (by kernel_rfl) (by kernel_rfl) (by kernel_rfl) (fun _ _ _ h => h) hCw (by kernel_rfl) (fun _ => rfl) ?_
            simp only [Act.put, List.setIfInBounds_toArray, List.set_cons_succ, List.set_cons_zero]
            refine anyC_undef (i := 14) 136 rfl rfl rfl (by kernel_rfl) (by kernel_rfl) (by kernel_rfl) (fun _ _ _ h => h) hCw (by kernel_rfl) (fun _ => rfl) ?_
            simp only [Act.put, List.setIfInBounds_toArray, List.set_cons_succ, List.set_cons_zero]
            refine anyC_undef (i := 15) 137 rfl rfl rfl (by kernel_rfl) (by kernel_rfl) (by kernel_rfl) (fun _ _ _ h => h) hCw (by kernel_rfl) (fun _ => rfl) ?_
            simp only [Act.put, List.setIfInBounds_toArray, List.set_cons_succ, List.set_cons_zero]
            refine anyC_undef (i := 16) 138 rfl rfl rfl (by kernel_rfl) (by kernel_rfl) (by kernel_rfl) (fun _ _ _ h => h) hCw (by kernel_rfl) (fun _ => rfl) ?_
            simp only [Act.put, List.setIfInBounds_toArray, List.set_cons_succ, List.set_cons_zero]
            refine anyC_undef (i := 17) 139 rfl rfl rfl (by kernel_rfl) (by kernel_rfl) (by kernel_rfl) (fun _ _ _ h => h) hCw (by kernel_rfl) (fun _ => rfl) ?_
            simp only [Act.put, List.setIfInBounds_toArray, List.set_cons_succ, List.set_cons_zero]
            refine anyC_undef (i := 18) 140 rfl rfl rfl (by kernel_rfl) (by kernel_rfl) (by kernel_rfl) (fun _ _ _ h => h) hCw (by kernel_rfl) (fun _ => rfl) ?_
            simp only [Act.put, List.setIfInBounds_toArray, List.set_cons_succ, List.set_cons_zero]
            refine anyC_undef (i := 19) 141 rfl rfl rfl (by kernel_rfl) (by kernel_rfl) (by kernel_rfl) (fun _ _ _ h => h) hCw (by kernel_rfl) (fun _ => rfl) ?_
            simp only [Act.put, List.setIfInBounds_toArray, List.set_cons_succ, List.set_cons_zero]
            refine anyC_undef (i := 20) 142 rfl rfl rfl (by kernel_rfl) (by kernel_rfl) (by kernel_rfl) (fun _ _ _ h => h) hCw (by kernel_rfl) (fun _ => rfl) ?_
            simp only [Act.put, List.setIfInBounds_toArray, List.set_cons_succ, List.set_cons_zero]
            refine anyC_undef (i := 21) 143 rfl rfl rfl (by kernel_rfl) (by kernel_rfl) (by kernel_rfl) (fun _ _ _ h => h) hCw (by kernel_rfl) (fun _ => rfl) ?_
            simp only [Act.put, List.setIfInBounds_toArray, List.set_cons_succ, List.set_cons_zero]
            refine anyC_undef (i := 22) 144 rfl rfl rfl (by kernel_rfl) (by kernel_rfl) (by kernel_rfl) (fun _ _ _ h => h) hCw (by kernel_rfl) (fun _ => rfl) ?_
            simp only [Act.put, List.setIfInBounds_toArray, List.set_cons_succ, List.set_cons_zero]
            refine anyC_take (i := 23) ?v23A rfl rfl (by kernel_rfl) (by kernel_rfl) (by kernel_rfl) (fun _ _ _ h => h) hCw ⟨.inl ⟨by kernel_rfl, fun W' hW' => ?y23A⟩, fun _ => rfl⟩ ?_
            case y23A => (have c2 := cell_below z2 hW'; have f0 := cell_below f0 hW'; have f1 := cell_below f1 hW'; go_simp; rfl)
            simp only [Act.put, List.setIfInBounds_toArray, List.set_cons_succ, List.set_cons_zero]
            refine anyC_take (i := 24) ?v24A rfl rfl (by kernel_rfl) (by kernel_rfl) (by kernel_rfl) (fun _ _ _ h => h) hCw ⟨.inl ⟨by kernel_rfl, fun W' hW' => ?y24A⟩, fun _ => rfl⟩ ?_
            case y24A => (have c2 := cell_below z2 hW'; have f0 := cell_below f0 hW'; have f1 := cell_below f1 hW'; go_simp; rfl)
            simp only [Act.put, List.setIfInBounds_toArray, List.set_cons_succ, List.set_cons_zero]
            refine anyC_undef (i := 25) 147 rfl rfl rfl (by kernel_rfl) (by kernel_rfl) (by kernel_rfl) (fun _ _ _ h => h) hCw (by kernel_rfl) (fun _ => rfl) ?_
            simp only [Act.put, List.setIfInBounds_toArray, List.set_cons_succ, List.set_cons_zero]
            refine anyC_undef (i := 26) 148 rfl rfl rfl (by kernel_rfl) (by kernel_rfl) (by kernel_rfl) (fun _ _ _ h => h) hCw (by kernel_rfl) (fun _ => rfl) ?_
            simp only [Act.put, List.setIfInBounds_toArray, List.set_cons_succ, List.set_cons_zero]
            refine anyC_skipW (i := 27) 149 (by kernel_rfl) rfl rfl (by kernel_rfl) hCw ?_
            simp only [Act.put, List.setIfInBounds_toArray, List.set_cons_succ, List.set_cons_zero]
            refine anyC_undef (i := 28) 150 rfl rfl rfl (by kernel_rfl) (by kernel_rfl) (by kernel_rfl) (fun _ _ _ h => h) hCw (by kernel_rfl) (fun _ => rfl) ?_
            simp only [Act.put, List.setIfInBounds_toArray, List.set_cons_succ, List.set_cons_zero]
            refine anyC_take (i := 29) ?v29A rfl rfl (by kernel_rfl) (by kernel_rfl) (by kernel_rfl) (fun _ _ _ h => h) hCw ⟨.inl ⟨by kernel_rfl, fun W' hW' => ?y29A⟩, fun _ => rfl⟩ ?_
            case y29A => (have c2 := cell_below z2 hW'; have f0 := cell_below f0 hW'; have f1 := cell_below f1 hW'; go_simp; rfl)
            simp only [Act.put, List.setIfInBounds_toArray, List.set_cons_succ, List.set_cons_zero]
            refine anyC_take (i := 30) ?v30A rfl rfl (by kernel_rfl) (by kernel_rfl) (by kernel_rfl) (fun _ _ _ h => h) hCw ⟨.inl ⟨by kernel_rfl, fun W' hW' => ?y30A⟩, fun _ => rfl⟩ ?_
            case y30A => (have c2 := cell_below z2 hW'; have f0 := cell_below f0 hW'; have f1 := cell_below f1 hW'; go_simp; rfl)
            simp only [Act.put, List.setIfInBounds_toArray, List.set_cons_succ, List.set_cons_zero]
            refine anyC_undef (i := 31) 153 rfl rfl rfl (by kernel_rfl) (by kernel_rfl) (by kernel_rfl) (fun _ _ _ h => h) hCw (by kernel_rfl) (fun _ => rfl) ?_
            simp only [Act.put, List.setIfInBounds_toArray, List.set_cons_succ, List.set_cons_zero]
            refine anyC_undef (i := 32) 154 rfl rfl rfl (by kernel_rfl) (by kernel_rfl) (by kernel_rfl) (fun _ _ _ h => h) hCw (by kernel_rfl) (fun _ => rfl) ?_
            simp only [Act.put, List.setIfInBounds_toArray, List.set_cons_succ, List.set_cons_zero]
            refine anyC_undef (i := 33) 155 rfl rfl rfl (by kernel_rfl) (by kernel_rfl) (by kernel_rfl) (fun _ _ _ h => h) hCw (by kernel_rfl) (fun _ => rfl) ?_
            simp only [Act.put, List.setIfInBounds_toArray, List.set_cons_succ, List.set_cons_zero]
            refine anyC_undef (i := 34) 156 rfl rfl rfl (by kernel_rfl) (by kernel_rfl) (by kernel_rfl) (fun _ _ _ h => h) hCw (by kernel_rfl) (fun _ => rfl) ?_
            simp only [Act.put, List.setIfInBounds_toArray, List.set_cons_succ, List.set_cons_zero]
            refine anyC_skipW (i := 35) 157 (by kernel_rfl) rfl rfl (by kernel_rfl) hCw ?_
            simp only [Act.put, List.setIfInBounds_toArray, List.set_cons_succ, List.set_cons_zero]
            refine anyC_skipW (i := 36) 158 (by kernel_rfl) rfl rfl (by kernel_rfl) hCw ?_
            simp only [Act.put, List.setIfInBounds_toArray, List.set_cons_succ, List.set_cons_zero]
            refine anyC_undef (i := 37) 159 rfl rfl rfl (by kernel_rfl) (by kernel_rfl) (by kernel_rfl) (fun _ _ _ h => h) hCw (by kernel_rfl) (fun _ => rfl) ?_
            simp only [Act.put, List.setIfInBounds_toArray, List.set_cons_succ, List.set_cons_zero]
            refine anyC_take (i := 38) ?v38A rfl rfl (by kernel_rfl) (by kernel_rfl) (by kernel_rfl) (fun _ _ _ h => h) hCw ⟨.inl ⟨by kernel_rfl, fun W' hW' => ?y38A⟩, fun _ => rfl⟩ ?_
            case y38A => (have c2 := cell_below z2 hW'; have f0 := cell_below f0 hW'; have f1 := cell_below f1 hW'; go_simp; rfl)
            simp only [Act.put, List.setIfInBounds_toArray, List.set_cons_succ, List.set_cons_zero]
            refine anyC_done (by kernel_rfl) ?_
            go_wp2_with fail
            go_meet
            exact ⟨true, rfl, Lib.hid ⟨(fun h => by cases h), fun h => absurd h Hg.out⟩, hCw⟩
          have d1 : decide (no < 0) = false := by simpa using g1
          refine anyC_take (i := 2) ?v2b rfl rfl (by kernel_rfl) (by kernel_rfl) (by kernel_rfl) (fun _ _ _ h => h) hCw ⟨.inl ⟨by kernel_rfl, fun W' hW' => ?y2b⟩, fun _ => rfl⟩ ?_
          case y2b => (have c2 := cell_below z2 hW'; have f0 := cell_below f0 hW'; have f1 := cell_below f1 hW'; go_simp; rfl)
          simp only [Act.put, List.setIfInBounds_toArray, List.set_cons_succ, List.set_cons_zero]
          refine anyC_take (i := 3) ?v3b rfl rfl (by kernel_rfl) (by kernel_rfl) (by kernel_rfl) (fun _ _ _ h => h) hCw ⟨.inl ⟨by kernel_rfl, fun W' hW' => ?y3b⟩, fun _ => rfl⟩ ?_
          case y3b => (have c2 := cell_below z2 hW'; have f0 := cell_below f0 hW'; have f1 := cell_below f1 hW'; go_simp; rfl)
          simp only [Act.put, List.setIfInBounds_toArray, List.set_cons_succ, List.set_cons_zero]
          refine anyC_take (i := 4) ?v4b rfl rfl (by kernel_rfl) (by kernel_rfl) (by kernel_rfl) (fun _ _ _ h => h) hCw ⟨.inl ⟨by kernel_rfl, fun W' hW' => ?y4b⟩, fun _ => rfl⟩ ?_
          case y4b => (have c2 := cell_below z2 hW'; have f0 := cell_below f0 hW'; have f1 := cell_below f1 hW'; go_simp; rfl)
          simp only [Act.put, List.setIfInBounds_toArray, List.set_cons_succ, List.set_cons_zero]
          refine anyC_take (i := 5) ?v5b rfl rfl (by kernel_rfl) (by kernel_rfl) (by kernel_rfl) (fun _ _ _ h => h) hCw ⟨.inl ⟨by kernel_rfl, fun W' hW' => ?y5b⟩, fun _ => rfl⟩ ?_
          case y5b => (have c2 := cell_below z2 hW'; have f0 := cell_below f0 hW'; have f1 := cell_below f1 hW'; go_simp; rfl)
          simp only [Act.put, List.setIfInBounds_toArray, List.set_cons_succ, List.set_cons_zero]
          by_cases g2 : 1073741824 < no
          · have d2 : decide (1073741824 < no) = true := by simpa using g2
            have Hg := Lib.hid (show ¬ (prevNo p.files k < no ∧ no ≤ 1073741824 ∧ mustE p.files[k].runs = 0 ∧ normL p.files[k].runs = p.files[k].runs) from fun h => by omega)
            clear g2
            refine anyC_take (i := 6) ?v6B rfl rfl (by kernel_rfl) (by kernel_rfl) (by kernel_rfl) (fun _ _ _ h => h) hCw ⟨.inl ⟨by kernel_rfl, fun W' hW' => ?y6B⟩, fun _ => rfl⟩ ?_
            case y6B => (have c2 := cell_below z2 hW'; have f0 := cell_below f0 hW'; have f1 := cell_below f1 hW'; go_simp; rfl)
            simp only [Act.put, List.setIfInBounds_toArray, List.set_cons_succ, List.set_cons_zero]
            refine anyC_take (i := 7) ?v7B rfl rfl (by kernel_rfl) (by kernel_rfl) (by kernel_rfl) (fun _ _ _ h => h) hCw ⟨.inl ⟨by kernel_rfl, fun W' hW' => ?y7B⟩, fun _ => rfl⟩ ?_
            case y7B => (have c2 := cell_below z2 hW'; have f0 := cell_below f0 hW'; have f1 := cell_below f1 hW'; go_simp; rfl)
            simp only [Act.put, List.setIfInBounds_toArray, List.set_cons_succ, List.set_cons_zero]
            refine anyC_take (i := 8) ?v8B rfl rfl (by kernel_rfl) (by kernel_rfl) (by kernel_rfl) (fun _ _ _ h => h) hCw ⟨.inl ⟨by kernel_rfl, fun W' hW' => ?y8B⟩, fun _ => rfl⟩ ?_
            case y8B => (have c2 := cell_below z2 hW'; have f0 := cell_below f0 hW'; have f1 := cell_below f1 hW'; go_simp; rfl)
            simp only [Act.put, List.setIfInBounds_toArray, List.set_cons_succ, List.set_cons_zero]
            refine anyC_undef (i := 9) 131 rfl rfl rfl (by kernel_rfl) (by kernel_rfl) (by kernel_rfl) (fun _ _ _ h => h) hCw (by kernel_rfl) (fun _ => rfl) ?_
            simp only [Act.put, List.setIfInBounds_toArray, List.set_cons_succ, List.set_cons_zero]
            refine anyC_undef (i := 10) 132 rfl rfl rfl (by kernel_rfl) (by kernel_rfl) (by kernel_rfl) (fun _ _ _ h => h) hCw (by kernel_rfl) (fun _ => rfl) ?_
            simp only [Act.put, List.setIfInBounds_toArray, List.set_cons_succ, List.set_cons_zero]
            refine anyC_undef (i := 11) 133 rfl rfl rfl (by kernel_rfl) (by kernel_rfl) (by kernel_rfl) (fun _ _ _ h => h) hCw (by kernel_rfl) (fun _ => rfl) ?_
            simp only [Act.put, List.setIfInBounds_toArray, List.set_cons_succ, List.set_cons_zero]
            refine anyC_undef (i := 12) 134 rfl rfl rfl (by kernel_rfl) (by kernel_rfl) (by kernel_rfl) (fun _ _ _ h => h) hCw (by kernel_rfl) (fun _ => rfl) ?_
            simp only [Act.put, List.setIfInBounds_toArray, List.set_cons_succ, List.set_cons_zero]
            refine anyC_undef (i := 13) 135 rfl rfl rfl (by kernel_rfl) (by kernel_rfl) (by kernel_rfl) (fun _ _ _ h => h) hCw (by kernel_rfl) (fun _ => rfl) ?_
            simp only [Act.put, List.setIfInBounds_toArray, List.set_cons_succ, List.set_cons_zero]
            refine anyC_undef (i := 14) 136 rfl rfl rfl (by kernel_rfl) (by kernel_rfl) (by kernel_rfl) (fun _ _ _ h => h) hCw (by kernel_rfl) (fun _ => rfl) ?_
            simp only [Act.put, List.setIfInBounds_toArray, List.set_cons_succ, List.set_cons_zero]
            refine anyC_undef (i := 15) 137 rfl rfl rfl (by kernel_rfl) (by kernel_rfl) (by kernel_rfl) (fun _ _ _ h => h) hCw (by kernel_rfl) (fun _ => rfl) ?_
            simp only [Act.put, List.setIfInBounds_toArray, List.set_cons_succ, List.set_cons_zero]
            refine anyC_undef (i := 16) 138 rfl rfl rfl (by kernel_rfl) (by kernel_rfl) (by kernel_rfl) (fun _ _ _ h => h) hCw (by kernel_rfl) (fun _ => rfl) ?_
            simp only [Act.put, List.setIfInBounds_toArray, List.set_cons_succ, List.set_cons_zero]
            refine anyC_undef (i := 17) 139 rfl rfl rfl (by kernel_rfl) (by kernel_rfl) (by kernel_rfl) (fun _ _ _ h => h) hCw (by kernel_rfl) (fun _ => rfl) ?_
            simp only [Act.put, List.setIfInBounds_toArray, List.set_cons_succ, List.set_cons_zero]
            refine anyC_undef (i := 18) 140 rfl rfl rfl (by kernel_rfl) (by kernel_rfl) (by kernel_rfl) (fun _ _ _ h => h) hCw (by kernel_rfl) (fun _ => rfl) ?_
            simp only [Act.put, List.setIfInBounds_toArray, List.set_cons_succ, List.set_cons_zero]
            refine anyC_undef (i := 19) 141 rfl rfl rfl (by kernel_rfl) (by kernel_rfl) (by kernel_rfl) (fun _ _ _ h => h) hCw (by kernel_rfl) (fun _ => rfl) ?_
            simp only [Act.put, List.setIfInBounds_toArray, List.set_cons_succ, List.set_cons_zero]
            refine anyC_undef (i := 20) 142 rfl rfl rfl (by kernel_rfl) (by kernel_rfl) (by kernel_rfl) (fun _ _ _ h => h) hCw (by kernel_rfl) (fun _ => rfl) ?_
            simp only [Act.put, List.setIfInBounds_toArray, List.set_cons_succ, List.set_cons_zero]
            refine anyC_undef (i := 21) 143 rfl rfl rfl (by kernel_rfl) (by kernel_rfl) (by kernel_rfl) (fun _ _ _ h => h) hCw (by kernel_rfl) (fun _ => rfl) ?_
            simp only [Act.put, List.setIfInBounds_toArray, List.set_cons_succ, List.set_cons_zero]
            refine anyC_undef (i := 22) 144 rfl rfl rfl (by kernel_rfl) (by kernel_rfl) (by kernel_rfl) (fun _ _ _ h => h) hCw (by kernel_rfl) (fun _ => rfl) ?_
            simp only [Act.put, List.setIfInBounds_toArray, List.set_cons_succ, List.set_cons_zero]
            refine anyC_take (i := 23) ?v23B rfl rfl (by kernel_rfl) (by kernel_rfl) (by kernel_rfl) (fun _ _ _ h => h) hCw ⟨.inl ⟨by kernel_rfl, fun W' hW' => ?y23B⟩, fun _ => rfl⟩ ?_
            case y23B => (have c2 := cell_below z2 hW'; have f0 := cell_below f0 hW'; have f1 := cell_below f1 hW'; go_simp; rfl)
            simp only [Act.put, List.setIfInBounds_toArray, List.set_cons_succ, List.set_cons_zero]
            refine anyC_take (i := 24) ?v24B rfl rfl (by kernel_rfl) (by kernel_rfl) (by kernel_rfl) (fun _ _ _ h => h) hCw ⟨.inl ⟨by kernel_rfl, fun W' hW' => ?y24B⟩, fun _ => rfl⟩ ?_
            case y24B => (have c2 := cell_below z2 hW'; have f0 := cell_below f0 hW'; have f1 := cell_below f1 hW'; go_simp; rfl)
            simp only [Act.put, List.setIfInBounds_toArray, List.set_cons_succ, List.set_cons_zero]
            refine anyC_undef (i := 25) 147 rfl rfl rfl (by kernel_rfl) (by kernel_rfl) (by kernel_rfl) (fun _ _ _ h => h) hCw (by kernel_rfl) (fun _ => rfl) ?_
            simp only [Act.put, List.setIfInBounds_toArray, List.set_cons_succ, List.set_cons_zero]
            refine anyC_undef (i := 26) 148 rfl rfl rfl (by kernel_rfl) (by kernel_rfl) (by kernel_rfl) (fun _ _ _ h => h) hCw (by kernel_rfl) (fun _ => rfl) ?_
            simp only [Act.put, List.setIfInBounds_toArray, List.set_cons_succ, List.set_cons_zero]
            refine anyC_skipW (i := 27) 149 (by kernel_rfl) rfl rfl (by kernel_rfl) hCw ?_
            simp only [Act.put, List.setIfInBounds_toArray, List.set_cons_succ, List.set_cons_zero]
            refine anyC_undef (i := 28) 150 rfl rfl rfl (by kernel_rfl) (by kernel_rfl) (by kernel_rfl) (fun _ _ _ h => h) hCw (by kernel_rfl) (fun _ => rfl) ?_
            simp only [Act.put, List.setIfInBounds_toArray, List.set_cons_succ, List.set_cons_zero]
            refine anyC_take (i := 29) ?v29B rfl rfl (by kernel_rfl) (by kernel_rfl) (by kernel_rfl) (fun _ _ _ h => h) hCw ⟨.inl ⟨by kernel_rfl, fun W' hW' => ?y29B⟩, fun _ => rfl⟩ ?_
            case y29B => (have c2 := cell_below z2 hW'; have f0 := cell_below f0 hW'; have f1 := cell_below f1 hW'; go_simp; rfl)
            simp only [Act.put, List.setIfInBounds_toArray, List.set_cons_succ, List.set_cons_zero]
            refine anyC_take (i := 30) ?v30B rfl rfl (by kernel_rfl) (by kernel_rfl) (by kernel_rfl) (fun _ _ _ h => h) hCw ⟨.inl ⟨by kernel_rfl, fun W' hW' => ?y30B⟩, fun _ => rfl⟩ ?_
            case y30B => (have c2 := cell_below z2 hW'; have f0 := cell_below f0 hW'; have f1 := cell_below f1 hW'; go_simp; rfl)
            simp only [Act.put, List.setIfInBounds_toArray, List.set_cons_succ, List.set_cons_zero]
            refine anyC_undef (i := 31) 153 rfl rfl rfl (by kernel_rfl) (by kernel_rfl) (by kernel_rfl) (fun _ _ _ h => h) hCw (by kernel_rfl) (fun _ => rfl) ?_
            simp only [Act.put, List.setIfInBounds_toArray, List.set_cons_succ, List.set_cons_zero]
            refine anyC_undef (i := 32) 154 rfl rfl rfl (by kernel_rfl) (by kernel_rfl) (by kernel_rfl) (fun _ _ _ h => h) hCw (by kernel_rfl) (fun _ => rfl) ?_
            simp only [Act.put, List.setIfInBounds_toArray, List.set_cons_succ, List.set_cons_zero]
            refine anyC_undef (i := 33) 155 rfl rfl rfl (by kernel_rfl) (by kernel_rfl) (by kernel_rfl) (fun _ _ _ h => h) hCw (by kernel_rfl) (fun _ => rfl) ?_
            simp only [Act.put, List.setIfInBounds_toArray, List.set_cons_succ, List.set_cons_zero]
            refine anyC_undef (i := 34) 156 rfl rfl rfl (by kernel_rfl) (by kernel_rfl) (by kernel_rfl) (fun _ _ _ h => h) hCw (by kernel_rfl) (fun _ => rfl) ?_
            simp only [Act.put, List.setIfInBounds_toArray, List.set_cons_succ, List.set_cons_zero]
            refine anyC_skipW (i := 35) 157 (by kernel_rfl) rfl rfl (by kernel_rfl) hCw ?_
            simp only [Act.put, List.setIfInBounds_toArray, List.set_cons_succ, List.set_cons_zero]
            refine anyC_skipW (i := 36) 158 (by kernel_rfl) rfl rfl (by kernel_rfl) hCw ?_
            simp only [Act.put, List.setIfInBounds_toArray, List.set_cons_succ, List.set_cons_zero]
            refine anyC_undef (i := 37) 159 rfl rfl rfl (by kernel_rfl) (by kernel_rfl) (by kernel_rfl) (fun _ _ _ h => h) hCw (by kernel_rfl) (fun _ => rfl) ?_
            simp only [Act.put, List.setIfInBounds_toArray, List.set_cons_succ, List.set_cons_zero]
            refine anyC_take (i := 38) ?v38B rfl rfl (by kernel_rfl) (by kernel_rfl) (by kernel_rfl) (fun _ _ _ h => h) hCw ⟨.inl ⟨by kernel_rfl, fun W' hW' => ?y38B⟩, fun _ => rfl⟩ ?_
            case y38B => (have c2 := cell_below z2 hW'; have f0 := cell_below f0 hW'; have f1 := cell_below f1 hW'; go_simp; rfl)
            simp only [Act.put, List.setIfInBounds_toArray, List.set_cons_succ, List.set_cons_zero]
            refine anyC_done (by kernel_rfl) ?_
            go_wp2_with fail
            go_meet
            exact ⟨true, rfl, Lib.hid ⟨(fun h => by cases h), fun h => absurd h Hg.out⟩, hCw⟩
          have d2 : decide (1073741824 < no) = false := by simpa using g2
          refine anyC_take (i := 6) ?v6c rfl rfl (by kernel_rfl) (by kernel_rfl) (by kernel_rfl) (fun _ _ _ h => h) hCw ⟨.inl ⟨by kernel_rfl, fun W' hW' => ?y6c⟩, fun _ => rfl⟩ ?_
          case y6c => (have c2 := cell_below z2 hW'; have f0 := cell_below f0 hW'; have f1 := cell_below f1 hW'; go_simp; rfl)
          simp only [Act.put, List.setIfInBounds_toArray, List.set_cons_succ, List.set_cons_zero]
          refine anyC_take (i := 7) ?v7c rfl rfl (by kernel_rfl) (by kernel_rfl) (by kernel_rfl) (fun _ _ _ h => h) hCw ⟨.inl ⟨by kernel_rfl, fun W' hW' => ?y7c⟩, fun _ => rfl⟩ ?_
          case y7c => (have c2 := cell_below z2 hW'; have f0 := cell_below f0 hW'; have f1 := cell_below f1 hW'; go_simp; rfl)
          simp only [Act.put, List.setIfInBounds_toArray, List.set_cons_succ, List.set_cons_zero]
          refine anyC_take (i := 8) ?v8c rfl rfl (by kernel_rfl) (by kernel_rfl) (by kernel_rfl) (fun _ _ _ h => h) hCw ⟨.inl ⟨by kernel_rfl, fun W' hW' => ?y8c⟩, fun _ => rfl⟩ ?_
          case y8c => (have c2 := cell_below z2 hW'; have f0 := cell_below f0 hW'; have f1 := cell_below f1 hW'; go_simp; rfl)
          simp only [Act.put, List.setIfInBounds_toArray, List.set_cons_succ, List.set_cons_zero]
          refine anyC_take (i := 9) ?v9c rfl rfl (by kernel_rfl) (by kernel_rfl) (by kernel_rfl) (fun _ _ _ h => h) hCw ⟨.inl ⟨by kernel_rfl, fun W' hW' => ?y9c⟩, fun _ => rfl⟩ ?_
          case y9c => (have c2 := cell_below z2 hW'; have f0 := cell_below f0 hW'; have f1 := cell_below f1 hW'; go_simp; rfl)
          simp only [Act.put, List.setIfInBounds_toArray, List.set_cons_succ, List.set_cons_zero]
          cases k with
          | zero =>
            have Hlt := Lib.hid (show prevNo p.files 0 < no from by rw [prevNo_zero]; omega)
            refine anyC_take (i := 10) ?v10Z rfl rfl (by kernel_rfl) (by kernel_rfl) (by kernel_rfl) (fun _ _ _ h => h) hCw ⟨.inl ⟨by kernel_rfl, fun W' hW' => ?y10Z⟩, fun _ => rfl⟩ ?_
            case y10Z => (have c2 := cell_below z2 hW'; have f0 := cell_below f0 hW'; have f1 := cell_below f1 hW'; go_simp; rfl)
            simp only [Act.put, List.setIfInBounds_toArray, List.set_cons_succ, List.set_cons_zero]
            refine anyC_take (i := 11) ?v11Z rfl rfl (by kernel_rfl) (by kernel_rfl) (by kernel_rfl) (fun _ _ _ h => h) hCw ⟨.inl ⟨by kernel_rfl, fun W' hW' => ?y11Z⟩, fun _ => rfl⟩ ?_
            case y11Z => (have c2 := cell_below z2 hW'; have f0 := cell_below f0 hW'; have f1 := cell_below f1 hW'; go_simp; rfl)
            simp only [Act.put, List.setIfInBounds_toArray, List.set_cons_succ, List.set_cons_zero]
            refine anyC_undef (i := 12) 134 rfl rfl rfl (by kernel_rfl) (by kernel_rfl) (by kernel_rfl) (fun _ _ _ h => h) hCw (by kernel_rfl) (fun _ => rfl) ?_
            simp only [Act.put, List.setIfInBounds_toArray, List.set_cons_succ, List.set_cons_zero]
            refine anyC_undef (i := 13) 135 rfl rfl rfl (by kernel_rfl) (by kernel_rfl) (by kernel_rfl) (fun _ _ _ h => h) hCw (by kernel_rfl) (fun _ => rfl) ?_
            simp only [Act.put, List.setIfInBounds_toArray, List.set_cons_succ, List.set_cons_zero]
            refine anyC_undef (i := 14) 136 rfl rfl rfl (by kernel_rfl) (by kernel_rfl) (by kernel_rfl) (fun _ _ _ h => h) hCw (by kernel_rfl) (fun _ => rfl) ?_
            simp only [Act.put, List.setIfInBounds_toArray, List.set_cons_succ, List.set_cons_zero]
            refine anyC_undef (i := 15) 137 rfl rfl rfl (by kernel_rfl) (by kernel_rfl) (by kernel_rfl) (fun _ _ _ h => h) hCw (by kernel_rfl) (fun _ => rfl) ?_
            simp only [Act.put, List.setIfInBounds_toArray, List.set_cons_succ, List.set_cons_zero]
            refine anyC_undef (i := 16) 138 rfl rfl rfl (by kernel_rfl) (by kernel_rfl) (by kernel_rfl) (fun _ _ _ h => h) hCw (by kernel_rfl) (fun _ => rfl) ?_
            simp only [Act.put, List.setIfInBounds_toArray, List.set_cons_succ, List.set_cons_zero]
            refine anyC_undef (i := 17) 139 rfl rfl rfl (by kernel_rfl) (by kernel_rfl) (by kernel_rfl) (fun _ _ _ h => h) hCw (by kernel_rfl) (fun _ => rfl) ?_
            simp only [Act.put, List.setIfInBounds_toArray, List.set_cons_succ, List.set_cons_zero]
            refine anyC_undef (i := 18) 140 rfl rfl rfl (by kernel_rfl) (by kernel_rfl) (by kernel_rfl) (fun _ _ _ h => h) hCw (by kernel_rfl) (fun _ => rfl) ?_
            simp only [Act.put, List.setIfInBounds_toArray, List.set_cons_succ, List.set_cons_zero]
            refine anyC_undef (i := 19) 141 rfl rfl rfl (by kernel_rfl) (by kernel_rfl) (by kernel_rfl) (fun _ _ _ h => h) hCw (by kernel_rfl) (fun _ => rfl) ?_
            simp only [Act.put, List.setIfInBounds_toArray, List.set_cons_succ, List.set_cons_zero]
            refine anyC_undef (i := 20) 142 rfl rfl rfl (by kernel_rfl) (by kernel_rfl) (by kernel_rfl) (fun _ _ _ h => h) hCw (by kernel_rfl) (fun _ => rfl) ?_
            simp only [Act.put, List.setIfInBounds_toArray, List.set_cons_succ, List.set_cons_zero]
            refine anyC_undef (i := 21) 143 rfl rfl rfl (by kernel_rfl) (by kernel_rfl) (by kernel_rfl) (fun _ _ _ h => h) hCw (by kernel_rfl) (fun _ => rfl) ?_
            simp only [Act.put, List.setIfInBounds_toArray, List.set_cons_succ, List.set_cons_zero]
            refine anyC_take (i := 22) ?v22Z rfl rfl (by kernel_rfl) (by kernel_rfl) (by kernel_rfl) (fun _ _ _ h => h) hCw ⟨.inl ⟨by kernel_rfl, fun W' hW' => ?y22Z⟩, fun _ => rfl⟩ ?_
            case y22Z => (have c2 := cell_below z2 hW'; have f0 := cell_below f0 hW'; have f1 := cell_below f1 hW'; go_simp; rfl)
            simp only [Act.put, List.setIfInBounds_toArray, List.set_cons_succ, List.set_cons_zero]
            refine anyC_take (i := 23) ?v23Z rfl rfl (by kernel_rfl) (by kernel_rfl) (by kernel_rfl) (fun _ _ _ h => h) hCw ⟨.inl ⟨by kernel_rfl, fun W' hW' => ?y23Z⟩, fun _ => rfl⟩ ?_
            case y23Z => (have c2 := cell_below z2 hW'; have f0 := cell_below f0 hW'; have f1 := cell_below f1 hW'; go_simp; rfl)
            simp only [Act.put, List.setIfInBounds_toArray, List.set_cons_succ, List.set_cons_zero]
            refine anyC_take (i := 24) ?v24Z rfl rfl (by kernel_rfl) (by kernel_rfl) (by kernel_rfl) (fun _ _ _ h => h) hCw ⟨.inl ⟨by kernel_rfl, fun W' hW' => ?y24Z⟩, fun _ => rfl⟩ ?_
            case y24Z => (have c2 := cell_below z2 hW'; have f0 := cell_below f0 hW'; have f1 := cell_below f1 hW'; go_simp; rfl)
            simp only [Act.put, List.setIfInBounds_toArray, List.set_cons_succ, List.set_cons_zero]
            refine anyC_take (i := 25) ?v25Z rfl rfl (by kernel_rfl) (by kernel_rfl) (by kernel_rfl) (fun _ _ _ h => h) hCw ⟨.inl ⟨by kernel_rfl, fun W' hW' => ?y25Z⟩, fun _ => rfl⟩ ?_
            case y25Z => (have c2 := cell_below z2 hW'; have f0 := cell_below f0 hW'; have f1 := cell_below f1 hW'; go_simp; rfl)
            simp only [Act.put, List.setIfInBounds_toArray, List.set_cons_succ, List.set_cons_zero]
            refine anyC_take (i := 26) ?v26Z rfl rfl (by kernel_rfl) (by kernel_rfl) (by kernel_rfl) (fun _ _ _ h => h) hCw ⟨.inl ⟨by kernel_rfl, fun W' hW' => ?y26Z⟩, fun _ => rfl⟩ ?_
            case y26Z => (have c2 := cell_below z2 hW'; have f0 := cell_below f0 hW'; have f1 := cell_below f1 hW'; go_simp; rfl)
            simp only [Act.put, List.setIfInBounds_toArray, List.set_cons_succ, List.set_cons_zero]
            refine anyC_onlyW (i := 27) (by kernel_rfl) rfl (by kernel_rfl) (fun K' hK' => ?_)
            go_simp
            refine ⟨trivial, rfl, (callsIn_wide.2 (refValid_any p.files[0].runs A' c' _ Hrl.out (Hrun.out.below (Below.refl _ _).drew))).mono ?_⟩
            rintro e x1 ⟨rfl, hx1⟩
            have hCx1 : (fun W' : World => Below w1.heap.size w1 W') x1 := ((Below.refl w1.heap.size w1).drew).trans hx1
            refine hK' _ _ ⟨hCx1, ?_⟩
            clear hK' K'
            by_cases g3 : mustE p.files[0].runs = 0
            rotate_left
            · have d3 : (mustE p.files[0].runs != 0) = true := by simpa using g3
              have Hg := Lib.hid g3
              clear g3
              refine anyC_take (i := 28) ?v28ZD rfl rfl (by kernel_rfl) (by kernel_rfl) (by kernel_rfl) (fun _ _ _ h => h) hCx1 ⟨.inl ⟨by kernel_rfl, fun W' hW' => ?y28ZD⟩, fun _ => rfl⟩ ?_
              case y28ZD => (have c2 := cell_below z2 hW'; have f0 := cell_below f0 hW'; have f1 := cell_below f1 hW'; go_simp; rfl)
              simp only [Act.put, List.setIfInBounds_toArray, List.set_cons_succ, List.set_cons_zero]
              refine anyC_take (i := 29) ?v29ZD rfl rfl (by kernel_rfl) (by kernel_rfl) (by kernel_rfl) (fun _ _ _ h => h) hCx1 ⟨.inl ⟨by kernel_rfl, fun W' hW' => ?y29ZD⟩, fun _ => rfl⟩ ?_
              case y29ZD => (have c2 := cell_below z2 hW'; have f0 := cell_below f0 hW'; have f1 := cell_below f1 hW'; go_simp; rfl)
              simp only [Act.put, List.setIfInBounds_toArray, List.set_cons_succ, List.set_cons_zero]
              refine anyC_take (i := 30) ?v30ZD rfl rfl (by kernel_rfl) (by kernel_rfl) (by kernel_rfl) (fun _ _ _ h => h) hCx1 ⟨.inl ⟨by kernel_rfl, fun W' hW' => ?y30ZD⟩, fun _ => rfl⟩ ?_
              case y30ZD => (have c2 := cell_below z2 hW'; have f0 := cell_below f0 hW'; have f1 := cell_below f1 hW'; go_simp; rfl)
              simp only [Act.put, List.setIfInBounds_toArray, List.set_cons_succ, List.set_cons_zero]
              refine anyC_undef (i := 31) 153 rfl rfl rfl (by kernel_rfl) (by kernel_rfl) (by kernel_rfl) (fun _ _ _ h => h) hCx1 (by kernel_rfl) (fun _ => rfl) ?_
              simp only [Act.put, List.setIfInBounds_toArray, List.set_cons_succ, List.set_cons_zero]
              refine anyC_undef (i := 32) 154 rfl rfl rfl (by kernel_rfl) (by kernel_rfl) (by kernel_rfl) (fun _ _ _ h => h) hCx1 (by kernel_rfl) (fun _ => rfl) ?_
              simp only [Act.put, List.setIfInBounds_toArray, List.set_cons_succ, List.set_cons_zero]
              refine anyC_undef (i := 33) 155 rfl rfl rfl (by kernel_rfl) (by kernel_rfl) (by kernel_rfl) (fun _ _ _ h => h) hCx1 (by kernel_rfl) (fun _ => rfl) ?_
              simp only [Act.put, List.setIfInBounds_toArray, List.set_cons_succ, List.set_cons_zero]
              refine anyC_undef (i := 34) 156 rfl rfl rfl (by kernel_rfl) (by kernel_rfl) (by kernel_rfl) (fun _ _ _ h => h) hCx1 (by kernel_rfl) (fun _ => rfl) ?_
              simp only [Act.put, List.setIfInBounds_toArray, List.set_cons_succ, List.set_cons_zero]
              refine anyC_skipW (i := 35) 157 (by kernel_rfl) rfl rfl (by kernel_rfl) hCx1 ?_
              simp only [Act.put, List.setIfInBounds_toArray, List.set_cons_succ, List.set_cons_zero]
              refine anyC_skipW (i := 36) 158 (by kernel_rfl) rfl rfl (by kernel_rfl) hCx1 ?_
              simp only [Act.put, List.setIfInBounds_toArray, List.set_cons_succ, List.set_cons_zero]
              refine anyC_undef (i := 37) 159 rfl rfl rfl (by kernel_rfl) (by kernel_rfl) (by kernel_rfl) (fun _ _ _ h => h) hCx1 (by kernel_rfl) (fun _ => rfl) ?_
              simp only [Act.put, List.setIfInBounds_toArray, List.set_cons_succ, List.set_cons_zero]
              refine anyC_take (i := 38) ?v38ZD rfl rfl (by kernel_rfl) (by kernel_rfl) (by kernel_rfl) (fun _ _ _ h => h) hCx1 ⟨.inl ⟨by kernel_rfl, fun W' hW' => ?y38ZD⟩, fun _ => rfl⟩ ?_
              case y38ZD => (have c2 := cell_below z2 hW'; have f0 := cell_below f0 hW'; have f1 := cell_below f1 hW'; go_simp; rfl)
              simp only [Act.put, List.setIfInBounds_toArray, List.set_cons_succ, List.set_cons_zero]
              refine anyC_done (by kernel_rfl) ?_
              go_wp2_with fail
              go_meet
              exact ⟨true, rfl, Lib.hid ⟨(fun h => by cases h), fun h => absurd h.2.2.1 Hg.out⟩, hCx1⟩
            have d3 : (mustE p.files[0].runs != 0) = false := by simpa using g3
            have Hm := Lib.hid g3
            clear g3
            refine anyC_take (i := 28) ?v28Z rfl rfl (by kernel_rfl) (by kernel_rfl) (by kernel_rfl) (fun _ _ _ h => h) hCx1 ⟨.inl ⟨by kernel_rfl, fun W' hW' => ?y28Z⟩, fun _ => rfl⟩ ?_
            case y28Z => (have c2 := cell_below z2 hW'; have f0 := cell_below f0 hW'; have f1 := cell_below f1 hW'; go_simp; rfl)
            simp only [Act.put, List.setIfInBounds_toArray, List.set_cons_succ, List.set_cons_zero]
            refine anyC_take (i := 29) ?v29Z rfl rfl (by kernel_rfl) (by kernel_rfl) (by kernel_rfl) (fun _ _ _ h => h) hCx1 ⟨.inl ⟨by kernel_rfl, fun W' hW' => ?y29Z⟩, fun _ => rfl⟩ ?_
            case y29Z => (have c2 := cell_below z2 hW'; have f0 := cell_below f0 hW'; have f1 := cell_below f1 hW'; go_simp; rfl)
            simp only [Act.put, List.setIfInBounds_toArray, List.set_cons_succ, List.set_cons_zero]
            refine anyC_take (i := 30) ?v30Z rfl rfl (by kernel_rfl) (by kernel_rfl) (by kernel_rfl) (fun _ _ _ h => h) hCx1 ⟨.inl ⟨by kernel_rfl, fun W' hW' => ?y30Z⟩, fun _ => rfl⟩ ?_
            case y30Z => (have c2 := cell_below z2 hW'; have f0 := cell_below f0 hW'; have f1 := cell_below f1 hW'; go_simp; rfl)
            simp only [Act.put, List.setIfInBounds_toArray, List.set_cons_succ, List.set_cons_zero]
            refine anyC_take (i := 31) ?v31Z rfl rfl (by kernel_rfl) (by kernel_rfl) (by kernel_rfl) (fun _ _ _ h => h) hCx1 ⟨.inl ⟨by kernel_rfl, fun W' hW' => ?y31Z⟩, fun _ => rfl⟩ ?_
            case y31Z => (have c2 := cell_below z2 hW'; have f0 := cell_below f0 hW'; have f1 := cell_below f1 hW'; go_simp; rfl)
            simp only [Act.put, List.setIfInBounds_toArray, List.set_cons_succ, List.set_cons_zero]
            refine anyC_take (i := 32) ?v32Z rfl rfl (by kernel_rfl) (by kernel_rfl) (by kernel_rfl) (fun _ _ _ h => h) hCx1 ⟨.inl ⟨by kernel_rfl, fun W' hW' => ?y32Z⟩, fun _ => rfl⟩ ?_
            case y32Z => (have c2 := cell_below z2 hW'; have f0 := cell_below f0 hW'; have f1 := cell_below f1 hW'; go_simp; rfl)
            simp only [Act.put, List.setIfInBounds_toArray, List.set_cons_succ, List.set_cons_zero]
            refine anyC_take (i := 33) ?v33Z rfl rfl (by kernel_rfl) (by kernel_rfl) (by kernel_rfl) (fun _ _ _ h => h) hCx1 ⟨.inl ⟨by kernel_rfl, fun W' hW' => ?y33Z⟩, fun _ => rfl⟩ ?_
            case y33Z => (have c2 := cell_below z2 hW'; have f0 := cell_below f0 hW'; have f1 := cell_below f1 hW'; go_simp; rfl)
            simp only [Act.put, List.setIfInBounds_toArray, List.set_cons_succ, List.set_cons_zero]
            refine anyC_take (i := 34) ?v34Z rfl rfl (by kernel_rfl) (by kernel_rfl) (by kernel_rfl) (fun _ _ _ h => h) hCx1 ⟨.inl ⟨by kernel_rfl, fun W' hW' => ?y34Z⟩, fun _ => rfl⟩ ?_
            case y34Z => (have c2 := cell_below z2 hW'; have f0 := cell_below f0 hW'; have f1 := cell_below f1 hW'; go_simp; rfl)
            simp only [Act.put, List.setIfInBounds_toArray, List.set_cons_succ, List.set_cons_zero]
            refine anyC_onlyW (i := 35) (by kernel_rfl) rfl (by kernel_rfl) (fun K' hK' => ?_)
            go_simp
            refine ⟨trivial, rfl, (callsIn_wide.2 (refNorm_any p.files[0].runs A' c' _ (Hrun.out.below hCx1) (fair_of_must Hm.out) (fun r hr => by have := (mustE_zero Hm.out).2.1 r hr; omega))).mono ?_⟩
            rintro e x2 ⟨⟨A2, c2', rfl, hr2⟩, hx2⟩
            have hCx2 : (fun W' : World => Below w1.heap.size w1 W') x2 := hCx1.trans (hx2.mono hCx1.size)
            refine hK' _ _ ⟨hCx2, ?_⟩
            clear hK' K'
            refine anyC_onlyW (i := 36) (by kernel_rfl) rfl (by kernel_rfl) (fun K' hK' => ?_)
            go_simp
            refine ⟨trivial, rfl, (callsIn_wide.2 (refSameR_q p.files[0].runs (normL p.files[0].runs) A' A2 c' c2' _ Hrl.out (Hrun.out.below hCx2) hr2)).mono ?_⟩
            rintro e x3 ⟨rfl, nx, rfl⟩
            obtain ⟨bs, hbs⟩ : ∃ bs, decide (p.files[0].runs = normL p.files[0].runs) = bs := ⟨_, rfl⟩
            have Hbs := Lib.hid (show bs = true ↔ p.files[0].runs = normL p.files[0].runs by rw [← hbs]; simp)
            rw [hbs]
            clear hbs
            have hCx3 : (fun W' : World => Below w1.heap.size w1 W') (x2.drewN nx) := hCx2.trans (Below.drewN' _ _ _)
            refine hK' _ _ ⟨hCx3, ?_⟩
            clear hK' K'
            refine anyC_take (i := 37) ?v37Z rfl rfl (by kernel_rfl) (by kernel_rfl) (by kernel_rfl) (fun _ _ _ h => h) hCx3 ⟨.inl ⟨by kernel_rfl, fun W' hW' => ?y37Z⟩, fun _ => rfl⟩ ?_
            case y37Z => (have c2 := cell_below z2 hW'; have f0 := cell_below f0 hW'; have f1 := cell_below f1 hW'; go_simp; rfl)
            simp only [Act.put, List.setIfInBounds_toArray, List.set_cons_succ, List.set_cons_zero]
            refine anyC_take (i := 38) ?v38Z rfl rfl (by kernel_rfl) (by kernel_rfl) (by kernel_rfl) (fun _ _ _ h => h) hCx3 ⟨.inl ⟨by kernel_rfl, fun W' hW' => ?y38Z⟩, fun _ => rfl⟩ ?_
            case y38Z => (have c2 := cell_below z2 hW'; have f0 := cell_below f0 hW'; have f1 := cell_below f1 hW'; go_simp; rfl)
            simp only [Act.put, List.setIfInBounds_toArray, List.set_cons_succ, List.set_cons_zero]
            refine anyC_done (by kernel_rfl) ?_
            go_wp2_with fail
            go_meet
            exact ⟨!bs, rfl, Lib.hid ⟨fun h => ⟨Hlt.out, by omega, Hm.out, (Hbs.out.1 (by simpa using h)).symm⟩, fun h => by simpa using Hbs.out.2 h.2.2.2.symm⟩, hCx3⟩
          | succ k =>
            have hk1 : k < p.files.length := by omega
            obtain ⟨b2, o2, A2', c2'', he2, pv, -, -⟩ := hf1 k hk1
            cases he2
            have hpq := prevNo_succ hk1
            obtain ⟨pn, hpn⟩ : ∃ pn, p.files[k].no = pn := ⟨_, rfl⟩
            rw [hpn] at pv hpq
            have Hpq := Lib.hid hpq
            clear hpq hpn
            have hwr : IntKind.i64.wrap (((k + 1 : Nat) : Int) - 1) = (k : Int) := (IntWalk.i64_in _ (by omega)).trans (by omega)
            have hwk : IntKind.i64.wrap (k : Int) = (k : Int) := IntWalk.i64_in _ (by omega)
            have hd0 : decide ((0 : Int) < ((k + 1 : Nat) : Int)) = true := decide_eq_true (by omega)
            refine anyC_take (i := 10) ?v10Y rfl rfl (by kernel_rfl) (by kernel_rfl) (by kernel_rfl) (fun _ _ _ h => h) hCw ⟨.inl ⟨by kernel_rfl, fun W' hW' => ?y10Y⟩, fun _ => rfl⟩ ?_
            case y10Y => (have c2 := cell_below z2 hW'; have f0 := cell_below f0 hW'; have f1 := cell_below f1 hW'; have pv := cell_below pv hW'; go_simp; rfl)
            simp only [Act.put, List.setIfInBounds_toArray, List.set_cons_succ, List.set_cons_zero]
            refine anyC_take (i := 11) ?v11Y rfl rfl (by kernel_rfl) (by kernel_rfl) (by kernel_rfl) (fun _ _ _ h => h) hCw ⟨.inl ⟨by kernel_rfl, fun W' hW' => ?y11Y⟩, fun _ => rfl⟩ ?_
            case y11Y => (have c2 := cell_below z2 hW'; have f0 := cell_below f0 hW'; have f1 := cell_below f1 hW'; have pv := cell_below pv hW'; go_simp; rfl)
            simp only [Act.put, List.setIfInBounds_toArray, List.set_cons_succ, List.set_cons_zero]
            refine anyC_take (i := 12) ?v12Y rfl rfl (by kernel_rfl) (by kernel_rfl) (by kernel_rfl) (fun _ _ _ h => h) hCw ⟨.inl ⟨by kernel_rfl, fun W' hW' => ?y12Y⟩, fun _ => rfl⟩ ?_
            case y12Y => (have c2 := cell_below z2 hW'; have f0 := cell_below f0 hW'; have f1 := cell_below f1 hW'; have pv := cell_below pv hW'; go_simp; rfl)
            simp only [Act.put, List.setIfInBounds_toArray, List.set_cons_succ, List.set_cons_zero]
            refine anyC_take (i := 13) ?v13Y rfl rfl (by kernel_rfl) (by kernel_rfl) (by kernel_rfl) (fun _ _ _ h => h) hCw ⟨.inl ⟨by kernel_rfl, fun W' hW' => ?y13Y⟩, fun _ => rfl⟩ ?_
            case y13Y => (have c2 := cell_below z2 hW'; have f0 := cell_below f0 hW'; have f1 := cell_below f1 hW'; have pv := cell_below pv hW'; go_simp; rfl)
            simp only [Act.put, List.setIfInBounds_toArray, List.set_cons_succ, List.set_cons_zero]
            refine anyC_take (i := 14) ?v14Y rfl rfl (by kernel_rfl) (by kernel_rfl) (by kernel_rfl) (fun _ _ _ h => h) hCw ⟨.inl ⟨by kernel_rfl, fun W' hW' => ?y14Y⟩, fun _ => rfl⟩ ?_
            case y14Y => (have c2 := cell_below z2 hW'; have f0 := cell_below f0 hW'; have f1 := cell_below f1 hW'; have pv := cell_below pv hW'; go_simp; rfl)
            simp only [Act.put, List.setIfInBounds_toArray, List.set_cons_succ, List.set_cons_zero]
            refine anyC_take (i := 15) ?v15Y rfl rfl (by kernel_rfl) (by kernel_rfl) (by kernel_rfl) (fun _ _ _ h => h) hCw ⟨.inl ⟨by kernel_rfl, fun W' hW' => ?y15Y⟩, fun _ => rfl⟩ ?_
            case y15Y => (have c2 := cell_below z2 hW'; have f0 := cell_below f0 hW'; have f1 := cell_below f1 hW'; have pv := cell_below pv hW'; go_simp; rfl)
            simp only [Act.put, List.setIfInBounds_toArray, List.set_cons_succ, List.set_cons_zero]
            refine anyC_take (i := 16) ?v16Y rfl rfl (by kernel_rfl) (by kernel_rfl) (by kernel_rfl) (fun _ _ _ h => h) hCw ⟨.inl ⟨by kernel_rfl, fun W' hW' => ?y16Y⟩, fun _ => rfl⟩ ?_
            case y16Y => (have c2 := cell_below z2 hW'; have f0 := cell_below f0 hW'; have f1 := cell_below f1 hW'; have pv := cell_below pv hW'; go_simp; rfl)
            simp only [Act.put, List.setIfInBounds_toArray, List.set_cons_succ, List.set_cons_zero]
            refine anyC_take (i := 17) ?v17Y rfl rfl (by kernel_rfl) (by kernel_rfl) (by kernel_rfl) (fun _ _ _ h => h) hCw ⟨.inl ⟨by kernel_rfl, fun W' hW' => ?y17Y⟩, fun _ => rfl⟩ ?_
            case y17Y => (have c2 := cell_below z2 hW'; have f0 := cell_below f0 hW'; have f1 := cell_below f1 hW'; have pv := cell_below pv hW'; go_simp; rfl)
            simp only [Act.put, List.setIfInBounds_toArray, List.set_cons_succ, List.set_cons_zero]
            refine anyC_take (i := 18) ?v18Y rfl rfl (by kernel_rfl) (by kernel_rfl) (by kernel_rfl) (fun _ _ _ h => h) hCw ⟨.inl ⟨by kernel_rfl, fun W' hW' => ?y18Y⟩, fun _ => rfl⟩ ?_
            case y18Y => (have c2 := cell_below z2 hW'; have f0 := cell_below f0 hW'; have f1 := cell_below f1 hW'; have pv := cell_below pv hW'; go_simp; rfl)
            simp only [Act.put, List.setIfInBounds_toArray, List.set_cons_succ, List.set_cons_zero]
            refine anyC_take (i := 19) ?v19Y rfl rfl (by kernel_rfl) (by kernel_rfl) (by kernel_rfl) (fun _ _ _ h => h) hCw ⟨.inl ⟨by kernel_rfl, fun W' hW' => ?y19Y⟩, fun _ => rfl⟩ ?_
            case y19Y => (have c2 := cell_below z2 hW'; have f0 := cell_below f0 hW'; have f1 := cell_below f1 hW'; have pv := cell_below pv hW'; go_simp; rfl)
            simp only [Act.put, List.setIfInBounds_toArray, List.set_cons_succ, List.set_cons_zero]
            refine anyC_take (i := 20) ?v20Y rfl rfl (by kernel_rfl) (by kernel_rfl) (by kernel_rfl) (fun _ _ _ h => h) hCw ⟨.inl ⟨by kernel_rfl, fun W' hW' => ?y20Y⟩, fun _ => rfl⟩ ?_
            case y20Y => (have c2 := cell_below z2 hW'; have f0 := cell_below f0 hW'; have f1 := cell_below f1 hW'; have pv := cell_below pv hW'; go_simp; rfl)
            simp only [Act.put, List.setIfInBounds_toArray, List.set_cons_succ, List.set_cons_zero]
            by_cases g5 : no ≤ pn
            · have d5 : decide (no ≤ pn) = true := by simpa using g5
              have Hg := Lib.hid (show ¬ (prevNo p.files (k + 1) < no ∧ no ≤ 1073741824 ∧ mustE p.files[k + 1].runs = 0 ∧ normL p.files[k + 1].runs = p.files[k + 1].runs) from fun h => by have := Hpq.out; omega)
              clear g5
              refine anyC_take (i := 21) ?v21C rfl rfl (by kernel_rfl) (by kernel_rfl) (by kernel_rfl) (fun _ _ _ h => h) hCw ⟨.inl ⟨by kernel_rfl, fun W' hW' => ?y21C⟩, fun _ => rfl⟩ ?_
              case y21C => (have c2 := cell_below z2 hW'; have f0 := cell_below f0 hW'; have f1 := cell_below f1 hW'; have pv := cell_below pv hW'; go_simp; rfl)
              simp only [Act.put, List.setIfInBounds_toArray, List.set_cons_succ, List.set_cons_zero]
              refine anyC_take (i := 22) ?v22C rfl rfl (by kernel_rfl) (by kernel_rfl) (by kernel_rfl) (fun _ _ _ h => h) hCw ⟨.inl ⟨by kernel_rfl, fun W' hW' => ?y22C⟩, fun _ => rfl⟩ ?_
              case y22C => (have c2 := cell_below z2 hW'; have f0 := cell_below f0 hW'; have f1 := cell_below f1 hW'; have pv := cell_below pv hW'; go_simp; rfl)
              simp only [Act.put, List.setIfInBounds_toArray, List.set_cons_succ, List.set_cons_zero]
              refine anyC_take (i := 23) ?v23C rfl rfl (by kernel_rfl) (by kernel_rfl) (by kernel_rfl) (fun _ _ _ h => h) hCw ⟨.inl ⟨by kernel_rfl, fun W' hW' => ?y23C⟩, fun _ => rfl⟩ ?_
              case y23C => (have c2 := cell_below z2 hW'; have f0 := cell_below f0 hW'; have f1 := cell_below f1 hW'; have pv := cell_below pv hW'; go_simp; rfl)
              simp only [Act.put, List.setIfInBounds_toArray, List.set_cons_succ, List.set_cons_zero]
              refine anyC_take (i := 24) ?v24C rfl rfl (by kernel_rfl) (by kernel_rfl) (by kernel_rfl) (fun _ _ _ h => h) hCw ⟨.inl ⟨by kernel_rfl, fun W' hW' => ?y24C⟩, fun _ => rfl⟩ ?_
              case y24C => (have c2 := cell_below z2 hW'; have f0 := cell_below f0 hW'; have f1 := cell_below f1 hW'; have pv := cell_below pv hW'; go_simp; rfl)
              simp only [Act.put, List.setIfInBounds_toArray, List.set_cons_succ, List.set_cons_zero]
              refine anyC_undef (i := 25) 147 rfl rfl rfl (by kernel_rfl) (by kernel_rfl) (by kernel_rfl) (fun _ _ _ h => h) hCw (by kernel_rfl) (fun _ => rfl) ?_
              simp only [Act.put, List.setIfInBounds_toArray, List.set_cons_succ, List.set_cons_zero]
              refine anyC_undef (i := 26) 148 rfl rfl rfl (by kernel_rfl) (by kernel_rfl) (by kernel_rfl) (fun _ _ _ h => h) hCw (by kernel_rfl) (fun _ => rfl) ?_
              simp only [Act.put, List.setIfInBounds_toArray, List.set_cons_succ, List.set_cons_zero]
              refine anyC_skipW (i := 27) 149 (by kernel_rfl) rfl rfl (by kernel_rfl) hCw ?_
              simp only [Act.put, List.setIfInBounds_toArray, List.set_cons_succ, List.set_cons_zero]
              refine anyC_undef (i := 28) 150 rfl rfl rfl (by kernel_rfl) (by kernel_rfl) (by kernel_rfl) (fun _ _ _ h => h) hCw (by kernel_rfl) (fun _ => rfl) ?_
              simp only [Act.put, List.setIfInBounds_toArray, List.set_cons_succ, List.set_cons_zero]
              refine anyC_take (i := 29) ?v29C rfl rfl (by kernel_rfl) (by kernel_rfl) (by kernel_rfl) (fun _ _ _ h => h) hCw ⟨.inl ⟨by kernel_rfl, fun W' hW' => ?y29C⟩, fun _ => rfl⟩ ?_
              case y29C => (have c2 := cell_below z2 hW'; have f0 := cell_below f0 hW'; have f1 := cell_below f1 hW'; have pv := cell_below pv hW'; go_simp; rfl)
              simp only [Act.put, List.setIfInBounds_toArray, List.set_cons_succ, List.set_cons_zero]
              refine anyC_take (i := 30) ?v30C rfl rfl (by kernel_rfl) (by kernel_rfl) (by kernel_rfl) (fun _ _ _ h => h) hCw ⟨.inl ⟨by kernel_rfl, fun W' hW' => ?y30C⟩, fun _ => rfl⟩ ?_
              case y30C => (have c2 := cell_below z2 hW'; have f0 := cell_below f0 hW'; have f1 := cell_below f1 hW'; have pv := cell_below pv hW'; go_simp; rfl)
              simp only [Act.put, List.setIfInBounds_toArray, List.set_cons_succ, List.set_cons_zero]
              refine anyC_undef (i := 31) 153 rfl rfl rfl (by kernel_rfl) (by kernel_rfl) (by kernel_rfl) (fun _ _ _ h => h) hCw (by kernel_rfl) (fun _ => rfl) ?_
              simp only [Act.put, List.setIfInBounds_toArray, List.set_cons_succ, List.set_cons_zero]
              refine anyC_undef (i := 32) 154 rfl rfl rfl (by kernel_rfl) (by kernel_rfl) (by kernel_rfl) (fun _ _ _ h => h) hCw (by kernel_rfl) (fun _ => rfl) ?_
              simp only [Act.put, List.setIfInBounds_toArray, List.set_cons_succ, List.set_cons_zero]
              refine anyC_undef (i := 33) 155 rfl rfl rfl (by kernel_rfl) (by kernel_rfl) (by kernel_rfl) (fun _ _ _ h => h) hCw (by kernel_rfl) (fun _ => rfl) ?_
              simp only [Act.put, List.setIfInBounds_toArray, List.set_cons_succ, List.set_cons_zero]
              refine anyC_undef (i := 34) 156 rfl rfl rfl (by kernel_rfl) (by kernel_rfl) (by kernel_rfl) (fun _ _ _ h => h) hCw (by kernel_rfl) (fun _ => rfl) ?_
              simp only [Act.put, List.setIfInBounds_toArray, List.set_cons_succ, List.set_cons_zero]
              refine anyC_skipW (i := 35) 157 (by kernel_rfl) rfl rfl (by kernel_rfl) hCw ?_
              simp only [Act.put, List.setIfInBounds_toArray, List.set_cons_succ, List.set_cons_zero]
              refine anyC_skipW (i := 36) 158 (by kernel_rfl) rfl rfl (by kernel_rfl) hCw ?_
              simp only [Act.put, List.setIfInBounds_toArray, List.set_cons_succ, List.set_cons_zero]
              refine anyC_undef (i := 37) 159 rfl rfl rfl (by kernel_rfl) (by kernel_rfl) (by kernel_rfl) (fun _ _ _ h => h) hCw (by kernel_rfl) (fun _ => rfl) ?_
              simp only [Act.put, List.setIfInBounds_toArray, List.set_cons_succ, List.set_cons_zero]
              refine anyC_take (i := 38) ?v38C rfl rfl (by kernel_rfl) (by kernel_rfl) (by kernel_rfl) (fun _ _ _ h => h) hCw ⟨.inl ⟨by kernel_rfl, fun W' hW' => ?y38C⟩, fun _ => rfl⟩ ?_
              case y38C => (have c2 := cell_below z2 hW'; have f0 := cell_below f0 hW'; have f1 := cell_below f1 hW'; have pv := cell_below pv hW'; go_simp; rfl)
              simp only [Act.put, List.setIfInBounds_toArray, List.set_cons_succ, List.set_cons_zero]
              refine anyC_done (by kernel_rfl) ?_
              go_wp2_with fail
              go_meet
              exact ⟨true, rfl, Lib.hid ⟨(fun h => by cases h), fun h => absurd h Hg.out⟩, hCw⟩
            have d5 : decide (no ≤ pn) = false := by simpa using g5
            have Hlt := Lib.hid (show prevNo p.files (k + 1) < no from by rw [Hpq.out]; omega)
            refine anyC_take (i := 21) ?v21Y rfl rfl (by kernel_rfl) (by kernel_rfl) (by kernel_rfl) (fun _ _ _ h => h) hCw ⟨.inl ⟨by kernel_rfl, fun W' hW' => ?y21Y⟩, fun _ => rfl⟩ ?_
            case y21Y => (have c2 := cell_below z2 hW'; have f0 := cell_below f0 hW'; have f1 := cell_below f1 hW'; have pv := cell_below pv hW'; go_simp; rfl)
            simp only [Act.put, List.setIfInBounds_toArray, List.set_cons_succ, List.set_cons_zero]
            refine anyC_take (i := 22) ?v22Y rfl rfl (by kernel_rfl) (by kernel_rfl) (by kernel_rfl) (fun _ _ _ h => h) hCw ⟨.inl ⟨by kernel_rfl, fun W' hW' => ?y22Y⟩, fun _ => rfl⟩ ?_
            case y22Y => (have c2 := cell_below z2 hW'; have f0 := cell_below f0 hW'; have f1 := cell_below f1 hW'; have pv := cell_below pv hW'; go_simp; rfl)
            simp only [Act.put, List.setIfInBounds_toArray, List.set_cons_succ, List.set_cons_zero]
            refine anyC_take (i := 23) ?v23Y rfl rfl (by kernel_rfl) (by kernel_rfl) (by kernel_rfl) (fun _ _ _ h => h) hCw ⟨.inl ⟨by kernel_rfl, fun W' hW' => ?y23Y⟩, fun _ => rfl⟩ ?_
            case y23Y => (have c2 := cell_below z2 hW'; have f0 := cell_below f0 hW'; have f1 := cell_below f1 hW'; have pv := cell_below pv hW'; go_simp; rfl)
            simp only [Act.put, List.setIfInBounds_toArray, List.set_cons_succ, List.set_cons_zero]
            refine anyC_take (i := 24) ?v24Y rfl rfl (by kernel_rfl) (by kernel_rfl) (by kernel_rfl) (fun _ _ _ h => h) hCw ⟨.inl ⟨by kernel_rfl, fun W' hW' => ?y24Y⟩, fun _ => rfl⟩ ?_
            case y24Y => (have c2 := cell_below z2 hW'; have f0 := cell_below f0 hW'; have f1 := cell_below f1 hW'; have pv := cell_below pv hW'; go_simp; rfl)
            simp only [Act.put, List.setIfInBounds_toArray, List.set_cons_succ, List.set_cons_zero]
            refine anyC_take (i := 25) ?v25Y rfl rfl (by kernel_rfl) (by kernel_rfl) (by kernel_rfl) (fun _ _ _ h => h) hCw ⟨.inl ⟨by kernel_rfl, fun W' hW' => ?y25Y⟩, fun _ => rfl⟩ ?_
            case y25Y => (have c2 := cell_below z2 hW'; have f0 := cell_below f0 hW'; have f1 := cell_below f1 hW'; have pv := cell_below pv hW'; go_simp; rfl)
            simp only [Act.put, List.setIfInBounds_toArray, List.set_cons_succ, List.set_cons_zero]
            refine anyC_take (i := 26) ?v26Y rfl rfl (by kernel_rfl) (by kernel_rfl) (by kernel_rfl) (fun _ _ _ h => h) hCw ⟨.inl ⟨by kernel_rfl, fun W' hW' => ?y26Y⟩, fun _ => rfl⟩ ?_
            case y26Y => (have c2 := cell_below z2 hW'; have f0 := cell_below f0 hW'; have f1 := cell_below f1 hW'; have pv := cell_below pv hW'; go_simp; rfl)
            simp only [Act.put, List.setIfInBounds_toArray, List.set_cons_succ, List.set_cons_zero]
            refine anyC_onlyW (i := 27) (by kernel_rfl) rfl (by kernel_rfl) (fun K' hK' => ?_)
            go_simp
            refine ⟨trivial, rfl, (callsIn_wide.2 (refValid_any p.files[k + 1].runs A' c' _ Hrl.out (Hrun.out.below (Below.refl _ _).drew))).mono ?_⟩
            rintro e x1 ⟨rfl, hx1⟩
            have hCx1 : (fun W' : World => Below w1.heap.size w1 W') x1 := ((Below.refl w1.heap.size w1).drew).trans hx1
            refine hK' _ _ ⟨hCx1, ?_⟩
            clear hK' K'
            by_cases g3 : mustE p.files[k + 1].runs = 0
            rotate_left
            · have d3 : (mustE p.files[k + 1].runs != 0) = true := by simpa using g3
              have Hg := Lib.hid g3
              clear g3
              refine anyC_take (i := 28) ?v28YD rfl rfl (by kernel_rfl) (by kernel_rfl) (by kernel_rfl) (fun _ _ _ h => h) hCx1 ⟨.inl ⟨by kernel_rfl, fun W' hW' => ?y28YD⟩, fun _ => rfl⟩ ?_
              case y28YD => (have c2 := cell_below z2 hW'; have f0 := cell_below f0 hW'; have f1 := cell_below f1 hW'; have pv := cell_below pv hW'; go_simp; rfl)
              simp only [Act.put, List.setIfInBounds_toArray, List.set_cons_succ, List.set_cons_zero]
              refine anyC_take (i := 29) ?v29YD rfl rfl (by kernel_rfl) (by kernel_rfl) (by kernel_rfl) (fun _ _ _ h => h) hCx1 ⟨.inl ⟨by kernel_rfl, fun W' hW' => ?y29YD⟩, fun _ => rfl⟩ ?_
              case y29YD => (have c2 := cell_below z2 hW'; have f0 := cell_below f0 hW'; have f1 := cell_below f1 hW'; have pv := cell_below pv hW'; go_simp; rfl)
              simp only [Act.put, List.setIfInBounds_toArray, List.set_cons_succ, List.set_cons_zero]
              refine anyC_take (i := 30) ?v30YD rfl rfl (by kernel_rfl) (by kernel_rfl) (by kernel_rfl) (fun _ _ _ h => h) hCx1 ⟨.inl ⟨by kernel_rfl, fun W' hW' => ?y30YD⟩, fun _ => rfl⟩ ?_
              case y30YD => (have c2 := cell_below z2 hW'; have f0 := cell_below f0 hW'; have f1 := cell_below f1 hW'; have pv := cell_below pv hW'; go_simp; rfl)
              simp only [Act.put, List.setIfInBounds_toArray, List.set_cons_succ, List.set_cons_zero]
              refine anyC_undef (i := 31) 153 rfl rfl rfl (by kernel_rfl) (by kernel_rfl) (by kernel_rfl) (fun _ _ _ h => h) hCx1 (by kernel_rfl) (fun _ => rfl) ?_
              simp only [Act.put, List.setIfInBounds_toArray, List.set_cons_succ, List.set_cons_zero]
              refine anyC_undef (i := 32) 154 rfl rfl rfl (by kernel_rfl) (by kernel_rfl) (by kernel_rfl) (fun _ _ _ h => h) hCx1 (by kernel_rfl) (fun _ => rfl) ?_
              simp only [Act.put, List.setIfInBounds_toArray, List.set_cons_succ, List.set_cons_zero]
              refine anyC_undef (i := 33) 155 rfl rfl rfl (by kernel_rfl) (by kernel_rfl) (by kernel_rfl) (fun _ _ _ h => h) hCx1 (by kernel_rfl) (fun _ => rfl) ?_
              simp only [Act.put, List.setIfInBounds_toArray, List.set_cons_succ, List.set_cons_zero]
              refine anyC_undef (i := 34) 156 rfl rfl rfl (by kernel_rfl) (by kernel_rfl) (by kernel_rfl) (fun _ _ _ h => h) hCx1 (by kernel_rfl) (fun _ => rfl) ?_
              simp only [Act.put, List.setIfInBounds_toArray, List.set_cons_succ, List.set_cons_zero]
              refine anyC_skipW (i := 35) 157 (by kernel_rfl) rfl rfl (by kernel_rfl) hCx1 ?_
              simp only [Act.put, List.setIfInBounds_toArray, List.set_cons_succ, List.set_cons_zero]
              refine anyC_skipW (i := 36) 158 (by kernel_rfl) rfl rfl (by kernel_rfl) hCx1 ?_
              simp only [Act.put, List.setIfInBounds_toArray, List.set_cons_succ, List.set_cons_zero]
              refine anyC_undef (i := 37) 159 rfl rfl rfl (by kernel_rfl) (by kernel_rfl) (by kernel_rfl) (fun _ _ _ h => h) hCx1 (by kernel_rfl) (fun _ => rfl) ?_
              simp only [Act.put, List.setIfInBounds_toArray, List.set_cons_succ, List.set_cons_zero]
              refine anyC_take (i := 38) ?v38YD rfl rfl (by kernel_rfl) (by kernel_rfl) (by kernel_rfl) (fun _ _ _ h => h) hCx1 ⟨.inl ⟨by kernel_rfl, fun W' hW' => ?y38YD⟩, fun _ => rfl⟩ ?_
              case y38YD => (have c2 := cell_below z2 hW'; have f0 := cell_below f0 hW'; have f1 := cell_below f1 hW'; have pv := cell_below pv hW'; go_simp; rfl)
              simp only [Act.put, List.setIfInBounds_toArray, List.set_cons_succ, List.set_cons_zero]
              refine anyC_done (by kernel_rfl) ?_
              go_wp2_with fail
              go_meet
              exact ⟨true, rfl, Lib.hid ⟨(fun h => by cases h), fun h => absurd h.2.2.1 Hg.out⟩, hCx1⟩
            have d3 : (mustE p.files[k + 1].runs != 0) = false := by simpa using g3
            have Hm := Lib.hid g3
            clear g3
            refine anyC_take (i := 28) ?v28Y rfl rfl (by kernel_rfl) (by kernel_rfl) (by kernel_rfl) (fun _ _ _ h => h) hCx1 ⟨.inl ⟨by kernel_rfl, fun W' hW' => ?y28Y⟩, fun _ => rfl⟩ ?_
            case y28Y => (have c2 := cell_below z2 hW'; have f0 := cell_below f0 hW'; have f1 := cell_below f1 hW'; have pv := cell_below pv hW'; go_simp; rfl)
            simp only [Act.put, List.setIfInBounds_toArray, List.set_cons_succ, List.set_cons_zero]
            refine anyC_take (i := 29) ?v29Y rfl rfl (by kernel_rfl) (by kernel_rfl) (by kernel_rfl) (fun _ _ _ h => h) hCx1 ⟨.inl ⟨by kernel_rfl, fun W' hW' => ?y29Y⟩, fun _ => rfl⟩ ?_
            case y29Y => (have c2 := cell_below z2 hW'; have f0 := cell_below f0 hW'; have f1 := cell_below f1 hW'; have pv := cell_below pv hW'; go_simp; rfl)
            simp only [Act.put, List.setIfInBounds_toArray, List.set_cons_succ, List.set_cons_zero]
            refine anyC_take (i := 30) ?v30Y rfl rfl (by kernel_rfl) (by kernel_rfl) (by kernel_rfl) (fun _ _ _ h => h) hCx1 ⟨.inl ⟨by kernel_rfl, fun W' hW' => ?y30Y⟩, fun _ => rfl⟩ ?_
            case y30Y => (have c2 := cell_below z2 hW'; have f0 := cell_below f0 hW'; have f1 := cell_below f1 hW'; have pv := cell_below pv hW'; go_simp; rfl)
            simp only [Act.put, List.setIfInBounds_toArray, List.set_cons_succ, List.set_cons_zero]
            refine anyC_take (i := 31) ?v31Y rfl rfl (by kernel_rfl) (by kernel_rfl) (by kernel_rfl) (fun _ _ _ h => h) hCx1 ⟨.inl ⟨by kernel_rfl, fun W' hW' => ?y31Y⟩, fun _ => rfl⟩ ?_
            case y31Y => (have c2 := cell_below z2 hW'; have f0 := cell_below f0 hW'; have f1 := cell_below f1 hW'; have pv := cell_below pv hW'; go_simp; rfl)
            simp only [Act.put, List.setIfInBounds_toArray, List.set_cons_succ, List.set_cons_zero]
            refine anyC_take (i := 32) ?v32Y rfl rfl (by kernel_rfl) (by kernel_rfl) (by kernel_rfl) (fun _ _ _ h => h) hCx1 ⟨.inl ⟨by kernel_rfl, fun W' hW' => ?y32Y⟩, fun _ => rfl⟩ ?_
            case y32Y => (have c2 := cell_below z2 hW'; have f0 := cell_below f0 hW'; have f1 := cell_below f1 hW'; have pv := cell_below pv hW'; go_simp; rfl)
            simp only [Act.put, List.setIfInBounds_toArray, List.set_cons_succ, List.set_cons_zero]
            refine anyC_take (i := 33) ?v33Y rfl rfl (by kernel_rfl) (by kernel_rfl) (by kernel_rfl) (fun _ _ _ h => h) hCx1 ⟨.inl ⟨by kernel_rfl, fun W' hW' => ?y33Y⟩, fun _ => rfl⟩ ?_
            case y33Y => (have c2 := cell_below z2 hW'; have f0 := cell_below f0 hW'; have f1 := cell_below f1 hW'; have pv := cell_below pv hW'; go_simp; rfl)
            simp only [Act.put, List.setIfInBounds_toArray, List.set_cons_succ, List.set_cons_zero]
            refine anyC_take (i := 34) ?v34Y rfl rfl (by kernel_rfl) (by kernel_rfl) (by kernel_rfl) (fun _ _ _ h => h) hCx1 ⟨.inl ⟨by kernel_rfl, fun W' hW' => ?y34Y⟩, fun _ => rfl⟩ ?_
            case y34Y => (have c2 := cell_below z2 hW'; have f0 := cell_below f0 hW'; have f1 := cell_below f1 hW'; have pv := cell_below pv hW'; go_simp; rfl)
            simp only [Act.put, List.setIfInBounds_toArray, List.set_cons_succ, List.set_cons_zero]
            refine anyC_onlyW (i := 35) (by kernel_rfl) rfl (by kernel_rfl) (fun K' hK' => ?_)
            go_simp
            refine ⟨trivial, rfl, (callsIn_wide.2 (refNorm_any p.files[k + 1].runs A' c' _ (Hrun.out.below hCx1) (fair_of_must Hm.out) (fun r hr => by have := (mustE_zero Hm.out).2.1 r hr; omega))).mono ?_⟩
            rintro e x2 ⟨⟨A2, c2', rfl, hr2⟩, hx2⟩
            have hCx2 : (fun W' : World => Below w1.heap.size w1 W') x2 := hCx1.trans (hx2.mono hCx1.size)
            refine hK' _ _ ⟨hCx2, ?_⟩
            clear hK' K'
            refine anyC_onlyW (i := 36) (by kernel_rfl) rfl (by kernel_rfl) (fun K' hK' => ?_)
            go_simp
            refine ⟨trivial, rfl, (callsIn_wide.2 (refSameR_q p.files[k + 1].runs (normL p.files[k + 1].runs) A' A2 c' c2' _ Hrl.out (Hrun.out.below hCx2) hr2)).mono ?_⟩
            rintro e x3 ⟨rfl, nx, rfl⟩
            obtain ⟨bs, hbs⟩ : ∃ bs, decide (p.files[k + 1].runs = normL p.files[k + 1].runs) = bs := ⟨_, rfl⟩
            have Hbs := Lib.hid (show bs = true ↔ p.files[k + 1].runs = normL p.files[k + 1].runs by rw [← hbs]; simp)
            rw [hbs]
            clear hbs
            have hCx3 : (fun W' : World => Below w1.heap.size w1 W') (x2.drewN nx) := hCx2.trans (Below.drewN' _ _ _)
            refine hK' _ _ ⟨hCx3, ?_⟩
            clear hK' K'
            refine anyC_take (i := 37) ?v37Y rfl rfl (by kernel_rfl) (by kernel_rfl) (by kernel_rfl) (fun _ _ _ h => h) hCx3 ⟨.inl ⟨by kernel_rfl, fun W' hW' => ?y37Y⟩, fun _ => rfl⟩ ?_
            case y37Y => (have c2 := cell_below z2 hW'; have f0 := cell_below f0 hW'; have f1 := cell_below f1 hW'; have pv := cell_below pv hW'; go_simp; rfl)
            simp only [Act.put, List.setIfInBounds_toArray, List.set_cons_succ, List.set_cons_zero]
            refine anyC_take (i := 38) ?v38Y rfl rfl (by kernel_rfl) (by kernel_rfl) (by kernel_rfl) (fun _ _ _ h => h) hCx3 ⟨.inl ⟨by kernel_rfl, fun W' hW' => ?y38Y⟩, fun _ => rfl⟩ ?_
            case y38Y => (have c2 := cell_below z2 hW'; have f0 := cell_below f0 hW'; have f1 := cell_below f1 hW'; have pv := cell_below pv hW'; go_simp; rfl)
            simp only [Act.put, List.setIfInBounds_toArray, List.set_cons_succ, List.set_cons_zero]
            refine anyC_done (by kernel_rfl) ?_
            go_wp2_with fail
            go_meet
            exact ⟨!bs, rfl, Lib.hid ⟨fun h => ⟨Hlt.out, by omega, Hm.out, (Hbs.out.1 (by simpa using h)).symm⟩, fun h => by simpa using Hbs.out.2 h.2.2.2.symm⟩, hCx3⟩
        case rest => as_aux_lemma =>
          obtain ⟨bb, rfl, Hbb, hB2⟩ := hcut
          obtain ⟨w2, rfl⟩ : ∃ w2 : World, w2 = wc := ⟨_, rfl⟩
          have HO2 := Lib.hid (HO1.out.next hB2)
          have HX2 := Lib.hid (block_below HX1.out hB2)
          clear Hrun HO1 HX1 Hf1 f0 f1 z2 hB2
          cases bb with
          | true =>
            have Hl := Lib.hid (HL.out.trans (ownF_bad hlt (by rw [Hno.out]; exact fun h => by have := Hbb.out.2 h; cases this)))
            go_wp2_with fail
            go_ret2
            exact own_fail Hl.out HO2.out.below
          | false =>
          have hcond := Hbb.out.1 rfl
          rw [← Hno.out] at hcond
          have Hcond := Lib.hid hcond
          have hlenr : p.files[k].runs.length ≤ 2000 := (mustE_zero hcond.2.2.1).1
          clear hcond Hbb
          go_wp2_with fail
          go_loopw [11] (fun i wx => ∃ (j : Nat) (o2 : List Int), j ≤ p.files[k].runs.length ∧ i = .int .i64 j ∧ Hid (ownR p.size ((k : Int) + 2) p.files[k].runs o = ownR p.size ((k : Int) + 2) (p.files[k].runs.drop j) o2) ∧ Hid (OwS w (.slice Ax p.fixed.length cx) (.slice (some ⟨b, o', none⟩) p.files.length cf) p o2 wx) ∧ Hid (wx.heap[X]? = some (.cells #[.int .i64 no, .slice A' p.files[k].runs.length c'] 46 (0, 0)))) (fun i _ => p.files[k].runs.length - (intOf i).toNat)
          case atStart => exact ⟨0, o, by omega, by simp, Lib.hid (by simp), HO2, HX2⟩
          case round => as_aux_lemma =>
            clear HO2 HX2
            obtain ⟨j, o2, hj, rfl, HR, HO, HX⟩ := hrel
            have c0 := HO.out.c0
            have f0 := cell_at HX.out 0
            have f1 := cell_at HX.out 1
            simp only [List.getElem?_toArray, List.getElem?_cons_zero, List.getElem?_cons_succ] at f0 f1
            by_cases hltj : j < p.files[k].runs.length
            rotate_left
            · obtain rfl : j = p.files[k].runs.length := by omega
              have hR := HR.out
              rw [List.drop_length] at hR
              simp only [ownR] at hR
              have hnx := HL.out.trans (ownF_some hlt Hcond.out hR)
              rw [← prevNo_succ hlt] at hnx
              have Hnx := Lib.hid hnx
              have Hpv2 := Lib.hid (show -1 ≤ prevNo p.files (k + 1) by rw [prevNo_succ hlt]; have := Hpv.out; have := Hcond.out.1; omega)
              clear hR hnx HR
              go_wp2_with fail
              refine ⟨?AA2, ?BB2⟩
              case BB2 => simp [intOf]; omega
              case AA2 => first | exact ⟨k + 1, o2, by omega, by simp, Hnx, Hpv2, HO⟩ | ((repeat apply Exists.intro); exact ⟨⟨k + 1, o2, by omega, by simp, Hnx, Hpv2, HO⟩, rfl⟩)
            obtain ⟨b3, o3, he3, r0, r1⟩ := (Hrunw.out.below HO.out.below) j hltj
            cases he3
            obtain ⟨tq, hto⟩ : ∃ tq, p.files[k].runs[j].to = tq := ⟨_, rfl⟩
            obtain ⟨mn, hmn⟩ : ∃ mn, p.files[k].runs[j].many = mn := ⟨_, rfl⟩
            have hbd := (mustE_zero Hcond.out.2.2.1).2.1 _ (List.getElem_mem hltj)
            have hhole := fun h => HR.out.trans (ownR_hole (size := p.size) (v := (k : Int) + 2) (o := o2) hltj h)
            have hbad := fun h h2 => HR.out.trans (ownR_bad (size := p.size) (v := (k : Int) + 2) (o := o2) hltj h h2)
            have hnone := fun h h2 h3 => HR.out.trans (ownR_none (size := p.size) (v := (k : Int) + 2) (o := o2) hltj h h2 h3)
            have hsome := fun t h h2 h3 => HR.out.trans (ownR_some (size := p.size) (v := (k : Int) + 2) (o := o2) (t := t) hltj h h2 h3)
            rw [hto] at r0 hhole
            rw [hmn] at r1
            simp only [hto, hmn] at hbd hbad hnone hsome
            have Hhole := Lib.hid hhole; have Hbad := Lib.hid hbad; have Hnone := Lib.hid hnone; have Hsome := Lib.hid hsome
            have Hfn := Lib.hid (fun h => HL.out.trans (ownF_none hlt Hcond.out h))
            clear hto hmn hhole hbad hnone hsome HR
            have hO1 := HO.out.alloc (.cells #[.int .i64 tq, .int .i64 mn] 52)
            have hY1 := World.alloc_heap_new wr (.cells #[.int .i64 tq, .int .i64 mn] 52)
            have hX1 := heap_alloc_old' HX.out (.cells #[.int .i64 tq, .int .i64 mn] 52)
            have hYn := lt_of_block HX.out
            have hXl := HO.out.lt
            have c0' := hO1.c0
            have HO1 := Lib.hid hO1; have HY1 := Lib.hid hY1; have HX1 := Lib.hid hX1
            clear hO1 hY1 hX1
            by_cases g1 : tq = -1
            · have q1 : (tq == -1) = true := by simpa using g1
              have HN := Lib.hid (Hhole.out g1)
              clear g1 Hhole Hbad Hnone Hsome Hfn
              go_wp2_with fail
              exact ⟨⟨j + 1, o2, by omega, by simp, HN, HO1, HX1⟩, by simp [intOf]; omega⟩
            have q1 : (tq == -1) = false := by simpa using g1
            by_cases g2 : p.size ≤ tq
            · have q2 : decide (p.size ≤ tq) = true := by simpa using g2
              have Hl := Lib.hid (Hfn.out (Hbad.out g1 (.inl g2)))
              clear Hhole Hbad Hnone Hsome Hfn
              have G1 := Lib.hid g1; clear g1
              go_wp2_with fail
              go_ret2
              exact own_fail Hl.out HO1.out.below
            have q2 : decide (p.size ≤ tq) = false := by simpa using g2
            by_cases g3 : p.size - tq < mn
            · have q3 : decide (p.size - tq < mn) = true := by simpa using g3
              have Hl := Lib.hid (Hfn.out (Hbad.out g1 (.inr g3)))
              clear Hhole Hbad Hnone Hsome Hfn
              have G1 := Lib.hid g1; clear g1
              go_wp2_with fail
              go_ret2
              exact own_fail Hl.out HO1.out.below
            have q3 : decide (p.size - tq < mn) = false := by simpa using g3
            obtain ⟨a, rfl⟩ := Int.eq_ofNat_of_zero_le (show 0 ≤ tq by omega)
            obtain ⟨m, rfl⟩ := Int.eq_ofNat_of_zero_le (show 0 ≤ mn by omega)
            have HsN := Lib.hid (fun h => Hfn.out (Hnone.out g1 (by omega) h))
            have HsS := Lib.hid (fun t h => Hsome.out t g1 (by omega) h)
            clear Hhole Hbad Hnone Hsome Hfn g1
            have hsz : a + m ≤ p.size.toNat := by omega
            go_wp2_with fail
            obtain ⟨Y, hY⟩ : ∃ Y, wr.heap.size = Y := ⟨_, rfl⟩
            rw [hY] at HY1 hYn
            rw [hY]
            clear HO HX c0 c0' r0 r1 f0 f1 q2 q3 g2 g3
            go_loopw [13] (fun i wx => ∃ (l : Nat) (t : List Int), l ≤ m ∧ i = .int .i64 ((a : Int) + l) ∧ Hid (putO o2 a ((k : Int) + 2) l = some t) ∧ Hid (OwS w (.slice Ax p.fixed.length cx) (.slice (some ⟨b, o', none⟩) p.files.length cf) p t wx) ∧ Hid (wx.heap[X]? = some (.cells #[.int .i64 no, .slice (some ⟨b3, o3, none⟩) p.files[k].runs.length c'] 46 (0, 0))) ∧ Hid (wx.heap[Y]? = some (.cells #[.int .i64 a, .int .i64 m] 52 (0, 0)))) (fun i _ => (a + m - (intOf i)).toNat)
            case atStart => exact ⟨0, o2, by omega, by simp, Lib.hid rfl, HO1, HX1, HY1⟩
            case round => as_aux_lemma =>
              clear HO1 HX1 HY1
              obtain ⟨l, t, hl, rfl, HP, HO, HX, HY⟩ := hrel
              have b0 := cell_at HY.out 0
              have b1 := cell_at HY.out 1
              simp only [List.getElem?_toArray, List.getElem?_cons_zero, List.getElem?_cons_succ] at b0 b1
              have hlo : t.length = p.size.toNat := HO.out.len
              by_cases hll : l < m
              · have hin : a + l < t.length := by omega
                obtain ⟨co, cz⟩ := HO.out.co hin
                obtain ⟨tv, htv⟩ : ∃ tv, t[a + l] = tv := ⟨_, rfl⟩
                rw [htv] at co
                by_cases g5 : tv = 0
                · have q5 : (tv != 0) = false := by simpa using g5
                  have HN := Lib.hid (putO_step HP.out hin (htv.trans g5))
                  have HNO := Lib.hid (HO.out.set (a + l) ((k : Int) + 2))
                  have HNX := Lib.hid (other_set HX.out (n := w.heap.size + 1) (i := a + l) (v := .int .i64 ((k : Int) + 2)) (by omega))
                  have HNY := Lib.hid (other_set HY.out (n := w.heap.size + 1) (i := a + l) (v := .int .i64 ((k : Int) + 2)) (by omega))
                  clear g5 htv hlo
                  go_wp2_with fail
                  exact ⟨⟨l + 1, _, by omega, by go_num, HN, HNO, HNX, HNY⟩, by simp [intOf]; omega⟩
                · have q5 : (tv != 0) = true := by simpa using g5
                  have Hl := Lib.hid (HsN.out (by simpa using putO_none (putO_stop HP.out hin (by rw [htv]; exact g5)) (show l + 1 ≤ m by omega)))
                  clear g5 htv hlo
                  go_wp2_with fail
                  go_ret2
                  exact own_fail Hl.out HO.out.below
              · obtain rfl : l = m := by omega
                have HN := Lib.hid (HsS.out t (by simpa using HP.out))
                clear hlo
                go_wp2_with fail
                refine ⟨?AA3, ?BB3⟩
                case BB3 => simp [intOf]; omega
                case AA3 => first | exact ⟨j + 1, t, by omega, by simp, HN, HO, HX⟩ | ((repeat apply Exists.intro); exact ⟨⟨j + 1, t, by omega, by simp, HN, HO, HX⟩, rfl⟩)
end
theorem own_walk : OwnWalk := owners_any
end Go.Proofs.Yteipclnlfanfeaa
