/- MoveR, MoveT, MoveU, MoveV, MoveW in one text. -/
import Derived.Test.YteipclnlfanfeaaBaseE
set_option linter.unusedVariables false
set_option linter.unusedSimpArgs false
/- move: the small functions that best is given. -/
namespace Go.Proofs.Yteipclnlfanfeaa
open Go.RowKit

def vExt (x : Ext) : Value := .agg #[.int .i64 x.page, .int .i64 x.many]

theorem fewer_any (a b : Ext) (w : World) : Calls Try.prog 51 #[.agg #[.int .i64 a.page, .int .i64 a.many], .agg #[.int .i64 b.page, .int .i64 b.many]] w fun e w' => e = .returned (.bool (decide (a.many < b.many))) ∧ Below w.heap.size w w' := by
  have hB := below_alloc (below_alloc (Below.refl _ w) (.cells #[.int .i64 a.page, .int .i64 a.many] 54)) (.cells #[.int .i64 b.page, .int .i64 b.many] 54)
  go_enter Try.func51, Try.ntmps51
  go_wp2_with fail
  go_ret
  exact ⟨rfl, hB⟩

theorem fits1_any (f : Nat) (x : Ext) (m : Int) (b : Nat) (w : World) (hf : f = 50 ∨ f = 81) (hc : w.heap[b]? = some (.cells #[.int .i64 m] 3 (0, 0))) :
    Calls Try.prog f #[.agg #[.int .i64 x.page, .int .i64 x.many], .pointer (some ⟨b, 0, none⟩)] w fun e w' => e = .returned (.bool (decide (m ≤ x.many))) ∧ Below w.heap.size w w' := by
  have hB := below_alloc (Below.refl _ w) (.cells #[.int .i64 x.page, .int .i64 x.many] 54)
  have hc1 := cell_of_one (heap_alloc_old' hc (.cells #[.int .i64 x.page, .int .i64 x.many] 54))
  rcases hf with rfl | rfl
  · go_enter Try.func50, Try.ntmps50
    go_wp2_with fail
    go_ret
    exact ⟨rfl, hB⟩
  · go_enter Try.func81, Try.ntmps81
    go_wp2_with fail
    go_ret
    exact ⟨rfl, hB⟩

theorem may_any (x : Ext) (w : World) : Calls Try.prog 82 #[.agg #[.int .i64 x.page, .int .i64 x.many]] w fun e w' => e = .returned (.bool true) ∧ Below w.heap.size w w' := by
  have hB := below_alloc (Below.refl _ w) (.cells #[.int .i64 x.page, .int .i64 x.many] 54)
  go_enter Try.func82, Try.ntmps82
  go_wp2_with fail
  go_ret
  exact ⟨rfl, hB⟩

theorem more_any (a b : Ext) (w : World) : Calls Try.prog 83 #[.agg #[.int .i64 a.page, .int .i64 a.many], .agg #[.int .i64 b.page, .int .i64 b.many]] w fun e w' => e = .returned (.bool (decide (b.many < a.many))) ∧ Below w.heap.size w w' := by
  have hB := below_alloc (below_alloc (Below.refl _ w) (.cells #[.int .i64 a.page, .int .i64 a.many] 54)) (.cells #[.int .i64 b.page, .int .i64 b.many] 54)
  go_enter Try.func83, Try.ntmps83
  go_wp2_with (go_at_call 51; refine (fewer_any b a _).mono ?_; rintro e w' ⟨rfl, hB2⟩)
  go_ret
  exact ⟨rfl, below_then hB hB2⟩

end Go.Proofs.Yteipclnlfanfeaa

/- move: free. -/
namespace Go.Proofs.Yteipclnlfanfeaa
open Go.RowKit
attribute [local go_sem] Oper.semAt_some

/-- the extents of free pages; of the last n pages it is known that they are free -/
def freeGo : Nat → List Bool → Nat → List Ext
  | a, [], 0 => []
  | a, [], n + 1 => [⟨(a : Int) - (n + 1 : Nat), (n + 1 : Nat)⟩]
  | a, true :: l, 0 => freeGo (a + 1) l 0
  | a, true :: l, n + 1 => ⟨(a : Int) - (n + 1 : Nat), (n + 1 : Nat)⟩ :: freeGo (a + 1) l 0
  | a, false :: l, n => freeGo (a + 1) l (n + 1)
/-- the extents of free pages ahead of a page -/
def freeL (tk : List Bool) (size : Nat) : List Ext := freeGo 0 (tk.take size) 0

theorem freeGo_true0 {L : List Bool} {i : Nat} (h : i < L.length) (hb : L[i] = true) : freeGo i (L.drop i) 0 = freeGo (i + 1) (L.drop (i + 1)) 0 := by
  rw [List.drop_eq_getElem_cons h, hb]; rfl
theorem freeGo_false {L : List Bool} {i n : Nat} (h : i < L.length) (hb : L[i] = false) : freeGo i (L.drop i) n = freeGo (i + 1) (L.drop (i + 1)) (n + 1) := by
  rw [List.drop_eq_getElem_cons h, hb]; cases n <;> rfl
theorem freeGo_true {L : List Bool} {i n : Nat} (h : i < L.length) (hb : L[i] = true) : freeGo i (L.drop i) (n + 1) = ⟨(i : Int) - (n + 1 : Nat), (n + 1 : Nat)⟩ :: freeGo (i + 1) (L.drop (i + 1)) 0 := by
  rw [List.drop_eq_getElem_cons h, hb]; rfl
theorem freeGo_end {L : List Bool} {i n : Nat} (h : L.length ≤ i) : freeGo i (L.drop i) (n + 1) = ⟨(i : Int) - (n + 1 : Nat), (n + 1 : Nat)⟩ :: freeGo (i + 1) (L.drop (i + 1)) 0 := by
  rw [List.drop_eq_nil_of_le h, List.drop_eq_nil_of_le (by omega)]; rfl
theorem freeGo_end0 {L : List Bool} {i : Nat} (h : L.length ≤ i) : freeGo i (L.drop i) 0 = [] := by
  rw [List.drop_eq_nil_of_le h]; rfl

theorem free_any (P : Nat) (size : Int) (w : World) : Calls Try.prog 49 #[.pointer (some ⟨P, 0, none⟩), .int .i64 size] w fun e w' =>
    e = .returned (.func (.func 80) #[] #[.pointer (some ⟨w.heap.size + 1, 0, none⟩), .pointer (some ⟨w.heap.size, 0, none⟩)]) ∧ w' = (w.alloc (.cells #[.pointer (some ⟨P, 0, none⟩)] 66)).alloc (.cells #[.int .i64 size] 3) := by
  have hmf : ∀ (fn : Fn) (first cap : Array Value) (w : World), (Instr.makeFunc fn first cap).run Try.prog w = .ok (.func fn first cap) w := fun _ _ _ _ => rfl
  go_enter Try.func49, Try.ntmps49
  go_wp2_with fail
  go_ret
  exact ⟨rfl, rfl⟩

/-- what free's iterator reads -/
structure FreeC (Bz Bs P T cT : Nat) (tk : List Bool) (size : Nat) (W : World) : Prop where
  bz : W.heap[Bz]? = some (.cells #[.int .i64 size] 3 (0, 0))
  bs : W.heap[Bs]? = some (.cells #[.pointer (some ⟨P, 0, none⟩)] 66 (0, 0))
  p3 : W.cell? ⟨P, 3, none⟩ = some (.slice (some ⟨T, 0, none⟩) tk.length cT)
  t : W.heap[T]? = some (.cells (tk.map .bool).toArray 4 (0, 0))
theorem FreeC.below {Bz Bs P T cT : Nat} {tk : List Bool} {size : Nat} {W W' : World} (h : FreeC Bz Bs P T cT tk size W) (hB : Below W.heap.size W W') : FreeC Bz Bs P T cT tk size W' :=
  ⟨block_below h.bz hB, block_below h.bs hB, cell_below h.p3 hB, block_below h.t hB⟩

abbrev exEnc (x : Ext) : Array Value := #[.agg #[.int .i64 x.page, .int .i64 x.many]]
end Go.Proofs.Yteipclnlfanfeaa

/- move: free's iterator. -/
namespace Go.Proofs.Yteipclnlfanfeaa
open Go.RowKit
attribute [local go_sem] Oper.semAt_some

/-- what a loop over free may know of what it is handed -/
def ExOk (x : Ext) : Prop := 0 ≤ x.page ∧ 0 ≤ x.many ∧ x.page + x.many ≤ 1000000
abbrev Ex := { x : Ext // ExOk x }
abbrev exEnc' (x : Ex) : Array Value := #[.agg #[.int .i64 x.1.page, .int .i64 x.1.many]]

/-- an extent is over -/
theorem freeGo_over {tk : List Bool} {size k m : Nat} {pre : List Ext} (hsz : size ≤ tk.length) (hk : k < size) (hm : k + m ≤ size) (h0 : ∀ h : k < tk.length, m = 0 → tk[k] = false)
    (hg : freeL tk size = pre ++ freeGo (k + m) ((tk.take size).drop (k + m)) m) (hend : ∀ h : k + m < tk.length, k + m < size → tk[k + m] = true) :
    freeL tk size = (pre ++ [⟨k, m⟩]) ++ freeGo (k + m + 1) ((tk.take size).drop (k + m + 1)) 0 ∧ pre.length < (freeL tk size).length := by
  have hLl : (tk.take size).length = size := by simp; omega
  obtain ⟨q, rfl⟩ : ∃ q, m = q + 1 := by
    cases m with
    | zero =>
      have h1 := h0 (by omega) rfl
      have h2 := hend (by omega) (by omega)
      simp only [Nat.add_zero] at h2
      rw [h1] at h2; cases h2
    | succ q => exact ⟨q, rfl⟩
  have key : freeGo (k + (q + 1)) ((tk.take size).drop (k + (q + 1))) (q + 1) = ⟨k, (q + 1 : Nat)⟩ :: freeGo (k + (q + 1) + 1) ((tk.take size).drop (k + (q + 1) + 1)) 0 := by
    have e1 : (((k + (q + 1) : Nat) : Int) - ((q + 1 : Nat) : Int)) = (k : Int) := by omega
    by_cases hlt : k + (q + 1) < size
    · rw [freeGo_true (L := tk.take size) (by omega) (by simpa using hend (by omega) hlt), e1]
    · rw [freeGo_end (L := tk.take size) (by omega), e1]
  rw [key] at hg
  constructor
  · rw [hg]; simp
  · rw [hg]; simp

set_option maxRecDepth 100000 in
set_option maxHeartbeats 2000000 in
theorem free1_in (n : Nat) (l0 Bz Bs P T cT : Nat) (tk : List Bool) (size : Nat) (hsz : size ≤ tk.length) (hlen : tk.length ≤ 1000000)
    (Kp : World → World → Prop) (Vd : World → Prop) (hVa : ∀ W o, Vd W → Vd (W.alloc o)) (hVk : ∀ W W', Vd W → Kp W W' → Vd W')
    (hKeep : ∀ W W', Vd W → Kp W W' → FreeC Bz Bs P T cT tk size W → FreeC Bz Bs P T cT tk size W')
    (J Jx : List Ext → World → Prop) (hJ : ∀ s W o, J s W → J s (W.alloc o))
    (hY : ∀ pre x W, ExOk x → J pre W → pre.length < (freeL tk size).length → YieldAt Fence.wide (n - 1) Try.prog l0 (exEnc x) W fun e W' =>
      (e = .returned (.bool true) ∧ J (pre ++ [x]) W' ∧ Kp W W') ∨ (e = .returned (.bool false) ∧ Jx (pre ++ [x]) W'))
    (W : World) (hV : Vd W) (hc : FreeC Bz Bs P T cT tk size W) (h0 : J [] W) :
    CallsIn Fence.wide n Try.prog 80 #[.func (.yield l0) #[] #[], .pointer (some ⟨Bz, 0, none⟩), .pointer (some ⟨Bs, 0, none⟩)] W fun e W' => (∃ v, e = .returned v) ∧
      (J (freeL tk size) W' ∨ (∃ pre : List Ext, pre <+: freeL tk size ∧ Jx pre W')) := by
  refine callsIn_of_wp Try.func80 rfl trivial ?_ rfl
  simp only [Try.ntmps80, List.size_toArray, List.length_cons, List.length_nil, Nat.reduceAdd, Nat.reduceSub, Array.replicate_succ, Array.replicate_zero, List.push_toArray, List.append_toArray, List.nil_append, List.cons_append]
  gi_wp2
  gi_loopw [4] (fun i wr => ∃ (k : Nat) (pre : List Ext), k ≤ size + 1 ∧ i = .int .i64 k ∧ freeL tk size = pre ++ freeGo k ((tk.take size).drop k) 0 ∧ J pre wr ∧ Vd wr ∧ FreeC Bz Bs P T cT tk size wr)
    (fun i _ => size + 1 - (intOf i).toNat)
  case atStart => exact ⟨0, [], by omega, by simp, by simp [freeL], h0, hV, hc⟩
  case round =>
    obtain ⟨k, pre, hk, rfl, hgo, hJs, hVs, hcs⟩ := hrel
    have hz := cell_of_one hcs.bz
    have hs := cell_of_one hcs.bs
    have hp := hcs.p3
    have hLl : (tk.take size).length = size := by simp; omega
    by_cases hlt : k < size
    · have hkt : k < tk.length := by omega
      have hcT : wr.cell? ⟨T, k, none⟩ = some (.bool tk[k]) := by simp [World.cell?, hcs.t, hkt]
      have hLk : (tk.take size)[k]'(by omega) = tk[k] := by simp
      cases hb : tk[k] with
      | true =>
        rw [hb] at hcT
        have hg := hgo.trans (congrArg (pre ++ ·) (freeGo_true0 (L := tk.take size) (i := k) (by omega) (hLk.trans hb)))
        have Hg := Lib.hid hg; clear hg hgo
        have Hcs := Lib.hid hcs; clear hcs
        gi_wp2
        exact ⟨⟨k + 1, pre, by omega, by simp, Hg.out, hJs, hVs, Hcs.out⟩, by simp [intOf]; omega⟩
      | false =>
        rw [hb] at hcT
        have Hcs := Lib.hid hcs; clear hcs
        have Hgo := Lib.hid hgo; clear hgo
        gi_wp2
        obtain ⟨wo, hwo⟩ : ∃ wo, wo = wr := ⟨_, rfl⟩
        subst hwo
        gi_loopw [4] (fun i w2 => ∃ m : Nat, k + m ≤ size ∧ i = .int .i64 ((k + m : Nat) : Int) ∧ w2 = wo.alloc (.cells #[.int .i64 k, .int .i64 m] 54) ∧ (m = 0 → tk[k] = false) ∧ Hid (freeL tk size = pre ++ freeGo (k + m) ((tk.take size).drop (k + m)) m)) (fun i _ => size + 1 - (intOf i).toNat)
        case atStart => exact ⟨0, by omega, by simp, rfl, fun _ => hb, Hgo⟩
        case round =>
          obtain ⟨m, hm, rfl, rfl, hm0, Hm⟩ := hrel
          have hB54 := below_alloc (Below.refl wo.heap.size wo) (.cells #[.int .i64 k, .int .i64 m] 54)
          have hz' := cell_below hz hB54
          have hs' := cell_below hs hB54
          have hp' := cell_below hp hB54
          by_cases hlt2 : k + m < size
          · have hkt2 : k + m < tk.length := by omega
            have hcT2 : (wo.alloc (.cells #[.int .i64 k, .int .i64 m] 54)).cell? ⟨T, k + m, none⟩ = some (.bool tk[k + m]) := cell_below (by simp [World.cell?, Hcs.out.t, hkt2]) hB54
            cases hb2 : tk[k + m] with
            | false =>
              rw [hb2] at hcT2
              have hg := Hm.out.trans (congrArg (pre ++ ·) (freeGo_false (L := tk.take size) (i := k + m) (n := m) (by omega) (by simpa using hb2)))
              have Hg := Lib.hid hg; clear hg
              gi_wp2
              exact ⟨⟨m + 1, by omega, by simp; omega, by simp, fun h => by omega, Hg⟩, by simp [intOf]; omega⟩
            | true =>
              rw [hb2] at hcT2
              have hov := freeGo_over hsz hlt hm (fun _ => hm0) Hm.out (fun _ _ => hb2)
              have Hov := Lib.hid hov; clear hov Hm
              have hJa := hJ _ _ (.cells #[.int .i64 k, .int .i64 m] 54) hJs
              obtain ⟨fn, tmps, assign, body, hy, hR⟩ := hY pre ⟨k, m⟩ _ ⟨by dsimp only; omega, by dsimp only; omega, by dsimp only; omega⟩ hJa Hov.out.2
              simp only [exEnc] at hy
              gi_wp2
              refine ⟨fun h => by simp [Fence.wide] at h, hR.mono ?_⟩
              rintro e W3 (⟨rfl, hJ3, hk3⟩ | ⟨rfl, hJx3⟩)
              · have hV3 := hVk _ _ (hVa _ _ hVs) hk3
                have hc3 := hKeep _ _ (hVa _ _ hVs) hk3 (Hcs.out.below hB54)
                have Hc3 := Lib.hid hc3; clear hc3
                gi_wp2
                refine ⟨?AA, ?BB⟩
                case BB => simp [intOf]; omega
                case AA => first | exact ⟨k + m + 1, pre ++ [⟨k, m⟩], by omega, by go_num, Hov.out.1, hJ3, hV3, Hc3.out⟩ | ((repeat apply Exists.intro); exact ⟨⟨k + m + 1, pre ++ [⟨k, m⟩], by omega, by go_num, Hov.out.1, hJ3, hV3, Hc3.out⟩, rfl⟩)
              · gi_wp2
                refine bodyPost_ret (results_none rfl _ _ _) rfl ?_
                refine ⟨⟨_, rfl⟩, .inr ⟨_, ?_, hJx3⟩⟩
                rw [Hov.out.1]; exact List.prefix_append _ _
          · obtain rfl : size = k + m := by omega
            have hov := freeGo_over hsz hlt hm (fun _ => hm0) Hm.out (fun _ h => by omega)
            have Hov := Lib.hid hov; clear hov Hm
            have hJa := hJ _ _ (.cells #[.int .i64 k, .int .i64 m] 54) hJs
            obtain ⟨fn, tmps, assign, body, hy, hR⟩ := hY pre ⟨k, m⟩ _ ⟨by dsimp only; omega, by dsimp only; omega, by dsimp only; omega⟩ hJa Hov.out.2
            simp only [exEnc] at hy
            gi_wp2
            refine ⟨fun h => by simp [Fence.wide] at h, hR.mono ?_⟩
            rintro e W3 (⟨rfl, hJ3, hk3⟩ | ⟨rfl, hJx3⟩)
            · have hV3 := hVk _ _ (hVa _ _ hVs) hk3
              have hc3 := hKeep _ _ (hVa _ _ hVs) hk3 (Hcs.out.below hB54)
              have Hc3 := Lib.hid hc3; clear hc3
              gi_wp2
              refine ⟨?AA, ?BB⟩
              case BB => simp [intOf]; omega
              case AA => first | exact ⟨k + m + 1, pre ++ [⟨k, m⟩], by omega, by go_num, Hov.out.1, hJ3, hV3, Hc3.out⟩ | ((repeat apply Exists.intro); exact ⟨⟨k + m + 1, pre ++ [⟨k, m⟩], by omega, by go_num, Hov.out.1, hJ3, hV3, Hc3.out⟩, rfl⟩)
            · gi_wp2
              refine bodyPost_ret (results_none rfl _ _ _) rfl ?_
              refine ⟨⟨_, rfl⟩, .inr ⟨_, ?_, hJx3⟩⟩
              rw [Hov.out.1]; exact List.prefix_append _ _
    · have he : freeGo k ((tk.take size).drop k) 0 = [] := freeGo_end0 (by omega)
      rw [he, List.append_nil] at hgo
      have Hgo := Lib.hid hgo; clear hgo he
      gi_wp2
      go_end0
      exact ⟨⟨_, rfl⟩, .inl (by rw [Hgo.out]; exact hJs)⟩

theorem FreeC.belowN {Bz Bs P T cT size n : Nat} {tk : List Bool} {W W' : World} (h : FreeC Bz Bs P T cT tk size W) (hn : Bz < n ∧ Bs < n ∧ P < n ∧ T < n) (hB : Below n W W') : FreeC Bz Bs P T cT tk size W' :=
  ⟨(hB.block _ hn.1).trans h.bz, (hB.block _ hn.2.1).trans h.bs, (hB.cell (p := ⟨P, 3, none⟩) hn.2.2.1).trans h.p3, (hB.block _ hn.2.2.2).trans h.t⟩

/-- free's iterator, as the loops take it -/
theorem free_stops (n : Nat) (Bz Bs P T cT n0 : Nat) (tk : List Bool) (size : Nat) (hsz : size ≤ tk.length) (hlen : tk.length ≤ 1000000) (hn : Bz < n0 ∧ Bs < n0 ∧ P < n0 ∧ T < n0)
    (w : World) (hw : n0 ≤ w.heap.size) (hc : FreeC Bz Bs P T cT tk size w) :
    SeqStopsK Fence.wide n Try.prog 80 #[.pointer (some ⟨Bz, 0, none⟩), .pointer (some ⟨Bs, 0, none⟩)] exEnc' (Below n0) (fun ys => ys.map Subtype.val = freeL tk size) (fun pre => pre.map Subtype.val <+: freeL tk size) (freeL tk size).length w := by
  intro l0 J Jx W hW hJ _ hY h0
  refine (free1_in n l0 Bz Bs P T cT tk size hsz hlen (Below n0) (fun W => n0 ≤ W.heap.size) (fun W o h => by simp; omega) (fun W W' h k => by have := k.size; omega)
    (fun W W' _ k h => h.belowN hn k) (fun l W => ∃ ys : List Ex, ys.map Subtype.val = l ∧ J ys W) (fun l W => ∃ ys : List Ex, ys.map Subtype.val = l ∧ Jx ys W)
    (fun s W o ⟨ys, h1, h2⟩ => ⟨ys, h1, hJ ys W _ none h2 (World.grownBy_alloc _ _ none) (fun r e => by cases e)⟩) ?_ W (by have := hW.size; omega) (hc.below hW) ⟨[], rfl, h0⟩).mono ?_
  · rintro pre x W hx ⟨ys, rfl, h⟩ hl
    refine YieldAt.mono (hY ys ⟨x, hx⟩ W h (by simpa using hl)) ?_
    rintro e W' (⟨he, h1, h2⟩ | ⟨he, h1⟩)
    · exact .inl ⟨he, ⟨ys ++ [⟨x, hx⟩], by simp, h1⟩, h2⟩
    · exact .inr ⟨he, ⟨ys ++ [⟨x, hx⟩], by simp, h1⟩⟩
  · rintro e W' ⟨hv, ⟨ys, h1, h2⟩ | ⟨pre, hp, ys, h1, h2⟩⟩
    · exact ⟨hv, .inl ⟨ys, h1, h2⟩⟩
    · exact ⟨hv, .inr ⟨ys, by subst h1; exact hp, h2⟩⟩
end Go.Proofs.Yteipclnlfanfeaa

/- move: Index, last, beyond. -/
namespace Go.Proofs.Yteipclnlfanfeaa
open Go.RowKit

/-- the first free page; -1 if there is none -/
def idxF (l : List Bool) : Int := match l.findIdx? (fun b => b == false) with
  | some i => i
  | none => -1

theorem idxF_at {l : List Bool} {k : Nat} (hk : k < l.length) (h : ∀ j (hj : j < k), l[j] = true) (he : l[k] = false) : idxF l = k := by
  have : l.findIdx? (fun b => b == false) = some k := by
    rw [List.findIdx?_eq_some_iff_getElem]
    exact ⟨hk, by simp [he], fun j hj => by simp [h j hj]⟩
  rw [idxF, this]
theorem idxF_none {l : List Bool} (h : ∀ j (hj : j < l.length), l[j] = true) : idxF l = -1 := by
  have : l.findIdx? (fun b => b == false) = none := by
    rw [List.findIdx?_eq_none_iff]
    intro x hx
    obtain ⟨j, hj, rfl⟩ := List.getElem_of_mem hx
    simp [h j hj]
  rw [idxF, this]

set_option maxRecDepth 100000 in
set_option maxHeartbeats 1000000 in
theorem index_any (l : List Bool) (T c : Nat) (w : World) (hlen : l.length ≤ 1000000) (hT : w.heap[T]? = some (.cells (l.map .bool).toArray 4 (0, 0))) :
    Calls Try.prog 53 #[.slice (some ⟨T, 0, none⟩) l.length c, .bool false] w fun e w' => e = .returned (.int .i64 (idxF l)) ∧ w = w' := by
  have hq : ∀ (a b : Bool) (w : World), (binOp .eql 4 (.bool a) (.bool b)).run Try.prog w = .ok (.bool (a == b)) w := fun a b w => by cases a <;> cases b <;> kernel_rfl
  go_enter Try.func53, Try.ntmps53
  go_wp2_with fail
  go_loop [8] (fun i => ∃ k : Nat, k ≤ l.length ∧ i = .int .i64 k ∧ Hid (∀ j (hj : j < l.length), j < k → l[j] = true)) (fun i => l.length - (intOf i).toNat)
  case atStart => exact ⟨0, by omega, by simp, Lib.hid fun j _ hj => by omega⟩
  case round =>
    obtain ⟨k, hk, rfl, hno⟩ := hrel
    by_cases hlt : k < l.length
    · have hc : w.cell? ⟨T, k, none⟩ = some (.bool l[k]) := by simp [World.cell?, hT, hlt]
      cases hb : l[k] with
      | false =>
        rw [hb] at hc
        have Hb := Lib.hid hb; clear hb
        go_wp2_with fail
        go_ret
        exact ⟨by rw [idxF_at hlt (fun j hj => hno.out j (by omega) hj) Hb.out]; rfl, rfl⟩
      | true =>
        rw [hb] at hc
        have Hb := Lib.hid hb; clear hb
        go_wp2_with fail
        refine ⟨⟨k + 1, by omega, by simp, Lib.hid fun j hj hjk => ?_⟩, by simp [intOf]; omega⟩
        by_cases ej : j = k
        · subst ej; exact Hb.out
        · exact hno.out j hj (by omega)
    · obtain rfl : k = l.length := by omega
      go_wp2_with fail
      go_ret
      exact ⟨by rw [idxF_none (fun j hj => hno.out j hj hj)]; rfl, rfl⟩

/-- the last page of a file, and whose it is, and where in its stream: page, file, place -/
def lastR (no : Int) : Int → List Run → Int × Int × Int → Int × Int × Int
  | _, [], acc => acc
  | at_, r :: l, acc => lastR no (at_ + r.many) l (if r.to ≠ -1 ∧ acc.1 < r.to + r.many - 1 then (r.to + r.many - 1, no, at_ + r.many - 1) else acc)
def lastF : List Fil → Int × Int × Int → Int × Int × Int
  | [], acc => acc
  | f :: l, acc => lastF l (lastR f.no 0 f.runs acc)
def lastL (l : List Fil) : Int × Int × Int := lastF l (-1, 0, 0)

theorem lastF_step {l : List Fil} {k : Nat} (h : k < l.length) (acc : Int × Int × Int) : lastF (l.drop k) acc = lastF (l.drop (k + 1)) (lastR l[k].no 0 l[k].runs acc) := by
  rw [List.drop_eq_getElem_cons h]; rfl
theorem lastR_yes {no at_ : Int} {l : List Run} {k : Nat} (h : k < l.length) {acc : Int × Int × Int} (hy : l[k].to ≠ -1 ∧ acc.1 < l[k].to + l[k].many - 1) :
    lastR no at_ (l.drop k) acc = lastR no (at_ + l[k].many) (l.drop (k + 1)) (l[k].to + l[k].many - 1, no, at_ + l[k].many - 1) := by
  rw [List.drop_eq_getElem_cons h]; rw [lastR, if_pos hy]
theorem lastR_no {no at_ : Int} {l : List Run} {k : Nat} (h : k < l.length) {acc : Int × Int × Int} (hy : ¬ (l[k].to ≠ -1 ∧ acc.1 < l[k].to + l[k].many - 1)) :
    lastR no at_ (l.drop k) acc = lastR no (at_ + l[k].many) (l.drop (k + 1)) acc := by
  rw [List.drop_eq_getElem_cons h]; rw [lastR, if_neg hy]

/-- runs whose numbers are small -/
def RB (l : List Run) : Prop := (∀ r ∈ l, -1 ≤ r.to ∧ r.to ≤ 1125899906842624 ∧ 0 ≤ r.many ∧ r.many ≤ 1073741824) ∧ l.length ≤ 2000
theorem RB.of_must {l : List Run} (h : mustE l = 0) : RB l := by
  have hz := mustE_zero h
  refine ⟨fun r hr => ?_, hz.1⟩
  have := hz.2.1 r hr
  omega
theorem RB.pages {l : List Run} (h : RB l) (k : Nat) : 0 ≤ pagesL (l.take k) ∧ pagesL (l.take k) ≤ 2147483648000 := by
  have h1 : ∀ r ∈ l.take k, 0 ≤ r.many ∧ r.many ≤ 1073741824 := fun r hr => (h.1 r (List.mem_of_mem_take hr)).2.2
  have : ∀ m : List Run, (∀ r ∈ m, 0 ≤ r.many ∧ r.many ≤ 1073741824) → 0 ≤ pagesL m ∧ pagesL m ≤ m.length * 1073741824 := by
    intro m
    induction m with
    | nil => intro _; simp [pagesL]
    | cons r m ih =>
      intro hm
      have a := hm r (by simp)
      have b := ih (fun r hr => hm r (by simp [hr]))
      simp only [pagesL, List.length_cons]; omega
  have h2 := this _ h1
  have h3 : (l.take k).length ≤ 2000 := by have := h.2; simp; omega
  omega

set_option maxRecDepth 100000 in
set_option maxHeartbeats 2000000 in
theorem last_any (n0 P F T : Nat) (s : Spc) (w : World) (hs : SpC n0 P F T s w) (hlen : s.pic.files.length ≤ 1048576) (hrb : ∀ f ∈ s.pic.files, RB f.runs) :
    Calls Try.prog 52 #[.pointer (some ⟨P, 0, none⟩)] w fun e w' => e = .returned (.tuple #[.int .i64 (lastL s.pic.files).1, .int .i64 (lastL s.pic.files).2.1, .int .i64 (lastL s.pic.files).2.2]) ∧ Below w.heap.size w w' := by
  obtain ⟨Ax, cx, Fa, cf, cT, st, -, -, p2, -, -, -, hfil, -⟩ := hs.cellP
  have hfc := hfil.c
  have Hrb := Lib.hid hrb
  clear hfil hs hrb
  obtain ⟨l, hl⟩ : ∃ l, s.pic.files = l := ⟨_, rfl⟩
  rw [hl] at hfc p2 hlen Hrb ⊢
  clear hl
  go_enter Try.func52, Try.ntmps52
  go_wp2_with fail
  go_loopw [2, 3, 4, 17] (fun p n f i wr => ∃ (k : Nat) (acc : Int × Int × Int), k ≤ l.length ∧ i = .int .i64 k ∧ p = .int .i64 acc.1 ∧ n = .int .i64 acc.2.1 ∧ f = .int .i64 acc.2.2 ∧ Hid (lastL l = lastF (l.drop k) acc) ∧ Below w.heap.size w wr) (fun _ _ _ i _ => l.length - (intOf i).toNat)
  case atStart => exact ⟨0, (-1, 0, 0), by omega, by simp, rfl, rfl, rfl, Lib.hid (by simp [lastL]), Below.refl _ _⟩
  case round =>
    obtain ⟨k, ⟨pg, no, fr⟩, hk, rfl, rfl, rfl, rfl, HL, hB⟩ := hrel
    dsimp only at *
    by_cases hlt : k < l.length
    · obtain ⟨b, o, A', c', rfl, e0, e1, hrun⟩ := (hfc.below hB) k hlt
      have hrb := Hrb.out _ (List.getElem_mem hlt)
      have HL2 := Lib.hid (HL.out.trans (lastF_step hlt _))
      clear HL
      have hrl := hrb.2
      have hB46 := below_alloc (Below.refl wr.heap.size wr) (.cells #[.int .i64 l[k].no, .slice A' l[k].runs.length c'] 46)
      have hrun1 := hrun.below hB46
      have hb46 := World.alloc_heap_new wr (.cells #[.int .i64 l[k].no, .slice A' l[k].runs.length c'] 46)
      go_wp2_with fail
      obtain ⟨w1, hw1⟩ : ∃ w1, wr.alloc (.cells #[.int .i64 l[k].no, .slice A' l[k].runs.length c'] 46) = w1 := ⟨_, rfl⟩
      obtain ⟨nb, hnb⟩ : ∃ nb, wr.heap.size = nb := ⟨_, rfl⟩
      have hB1 : Below w.heap.size w w1 := by rw [← hw1]; exact below_alloc hB _
      rw [hnb] at hb46
      rw [hw1] at hrun1 hb46 ⊢
      rw [hnb]
      have Hw1 := Lib.hid hw1; clear hw1
      have Hnb := Lib.hid hnb; clear hnb
      clear e0 e1 hrun hB46
      go_loopw [2, 3, 4, 7, 24] (fun p n f a i wx => ∃ (j : Nat) (acc : Int × Int × Int), j ≤ l[k].runs.length ∧ i = .int .i64 j ∧ a = .int .i64 (pagesL (l[k].runs.take j)) ∧ p = .int .i64 acc.1 ∧ n = .int .i64 acc.2.1 ∧ f = .int .i64 acc.2.2 ∧ Hid (lastR l[k].no 0 l[k].runs (pg, no, fr) = lastR l[k].no (pagesL (l[k].runs.take j)) (l[k].runs.drop j) acc) ∧ Below w1.heap.size w1 wx) (fun _ _ _ _ i _ => l[k].runs.length - (intOf i).toNat)
      case atStart => exact ⟨0, (pg, no, fr), by omega, by simp, by simp [pagesL], rfl, rfl, rfl, Lib.hid (by simp [pagesL]), Below.refl _ _⟩
      case round =>
        obtain ⟨j, ⟨pg2, no2, fr2⟩, hj, rfl, rfl, rfl, rfl, rfl, HR, hBj⟩ := hrel
        dsimp only at *
        by_cases hltj : j < l[k].runs.length
        · obtain ⟨b2, o2, rfl, r0, r1⟩ := (hrun1.below hBj) j hltj
          obtain ⟨m1, m2, m3, m4⟩ := hrb.1 _ (List.getElem_mem hltj)
          have hpg := hrb.pages j
          have hsu := Lib.hid (pagesL_take_succ l[k].runs j hltj)
          have hb2 := block_below hb46 hBj
          have x0 : wr.cell? ⟨nb, 0, none⟩ = some (.int .i64 l[k].no) := by simp [World.cell?, hb2]
          have x0' := cell_below x0 (below_alloc (Below.refl wr.heap.size wr) (.cells #[.int .i64 l[k].runs[j].to, .int .i64 l[k].runs[j].many] 52))
          by_cases ht : l[k].runs[j].to = -1
          · have d1 : (l[k].runs[j].to != -1) = false := by simpa using ht
            have hnx := HR.out.trans (lastR_no (at_ := pagesL (l[k].runs.take j)) (acc := (pg2, no2, fr2)) hltj (fun h => h.1 ht))
            rw [← hsu.out] at hnx
            have Hnx := Lib.hid hnx; clear hnx
            have Ht := Lib.hid ht; clear ht
            go_wp2_with fail
            refine ⟨⟨j + 1, (pg2, no2, fr2), by omega, by simp, by rw [hsu.out], rfl, rfl, rfl, Hnx, below_alloc hBj _⟩, by simp [intOf]; omega⟩
          · have d1 : (l[k].runs[j].to != -1) = true := by simpa using ht
            by_cases hg : pg2 < l[k].runs[j].to + l[k].runs[j].many - 1
            · have d2 : decide (pg2 < l[k].runs[j].to + l[k].runs[j].many - 1) = true := by simpa using hg
              have hnx := HR.out.trans (lastR_yes (no := l[k].no) (at_ := pagesL (l[k].runs.take j)) (acc := (pg2, no2, fr2)) hltj ⟨ht, hg⟩)
              rw [← hsu.out] at hnx
              have Hnx := Lib.hid hnx; clear hnx
              have Ht := Lib.hid ht; clear ht
              go_wp2_with fail
              have hwr : IntKind.i64.wrap (pagesL (l[k].runs.take j) + l[k].runs[j].many - 1) = pagesL (l[k].runs.take j) + l[k].runs[j].many - 1 := IntWalk.i64_in _ (by omega)
              go_quiet (fail)
              go_wp2_with fail
              refine ⟨⟨j + 1, (_, _, _), by omega, by simp, by rw [hsu.out], rfl, rfl, rfl, ?_, below_dr (below_alloc hBj _) _⟩, by simp [intOf]; omega⟩
              have h := Hnx.out
              rw [hsu.out] at h ⊢
              exact Lib.hid h
            · have d2 : decide (pg2 < l[k].runs[j].to + l[k].runs[j].many - 1) = false := by simpa using hg
              have hnx := HR.out.trans (lastR_no (at_ := pagesL (l[k].runs.take j)) (acc := (pg2, no2, fr2)) hltj (fun h => hg h.2))
              rw [← hsu.out] at hnx
              have Hnx := Lib.hid hnx; clear hnx
              have Ht := Lib.hid ht; clear ht
              go_wp2_with fail
              refine ⟨⟨j + 1, (pg2, no2, fr2), by omega, by simp, by rw [hsu.out], rfl, rfl, rfl, Hnx, below_alloc hBj _⟩, by simp [intOf]; omega⟩
        · obtain rfl : j = l[k].runs.length := by omega
          have hR := HR.out
          rw [List.drop_length] at hR
          have hnx : lastL l = lastF (l.drop (k + 1)) (pg2, no2, fr2) := by rw [HL2.out, hR]; rfl
          have Hnx := Lib.hid hnx; clear hnx hR
          have hBe : Below w.heap.size w wr := below_then hB1 hBj
          go_wp2_with fail
          refine ⟨?AA, ?BB⟩
          case BB => simp [intOf]; omega
          case AA => first | exact ⟨k + 1, (pg2, no2, fr2), by omega, by simp, rfl, rfl, rfl, Hnx, hBe⟩ | ((repeat apply Exists.intro); exact ⟨⟨k + 1, (pg2, no2, fr2), by omega, by simp, rfl, rfl, rfl, Hnx, hBe⟩, rfl⟩)
    · obtain rfl : k = l.length := by omega
      have hL := HL.out
      rw [List.drop_length] at hL
      simp only [lastF] at hL
      have HL' := Lib.hid hL; clear hL HL
      go_wp2_with fail
      go_ret3
      exact ⟨by rw [HL'.out]; rfl, hB⟩
end Go.Proofs.Yteipclnlfanfeaa

/- move: beyond. -/
namespace Go.Proofs.Yteipclnlfanfeaa
open Go.RowKit

/-- something fixed lies from a page on -/
def bynd (size : Int) (l : List Ext) : Bool := l.any fun x => decide (size < x.page + x.many)
/-- how many pages of a run lie from a page on -/
def overN (size : Int) (r : Run) : Int := if r.to = -1 then 0 else max 0 (r.to + r.many - max size r.to)
def overR (size : Int) : List Run → Int
  | [] => 0
  | r :: l => overN size r + overR size l
def overF (size : Int) : List Fil → Int
  | [] => 0
  | f :: l => overR size f.runs + overF size l

theorem overR_step {size : Int} {l : List Run} {k : Nat} (h : k < l.length) : overR size (l.drop k) = overN size l[k] + overR size (l.drop (k + 1)) := by
  rw [List.drop_eq_getElem_cons h]; rfl
theorem overF_step {size : Int} {l : List Fil} {k : Nat} (h : k < l.length) : overF size (l.drop k) = overR size l[k].runs + overF size (l.drop (k + 1)) := by
  rw [List.drop_eq_getElem_cons h]; rfl
theorem bynd_step {size : Int} {l : List Ext} {k : Nat} (h : k < l.length) : bynd size (l.drop k) = (decide (size < l[k].page + l[k].many) || bynd size (l.drop (k + 1))) := by
  rw [List.drop_eq_getElem_cons h]; rfl
theorem overN_bd {size : Int} {r : Run} (h0 : 0 ≤ size) (h : 0 ≤ r.many ∧ r.many ≤ 1073741824) : 0 ≤ overN size r ∧ overN size r ≤ 1073741824 := by
  unfold overN
  split
  · omega
  · omega

/-- extents whose numbers are small -/
def EB (l : List Ext) : Prop := ∀ x ∈ l, 0 ≤ x.page ∧ x.page ≤ 1125899906842624 ∧ 0 ≤ x.many ∧ x.many ≤ 1125899906842624

set_option maxRecDepth 100000 in
set_option maxHeartbeats 2000000 in
theorem beyond_any (n0 P F T : Nat) (s : Spc) (size : Int) (w : World) (hs : SpC n0 P F T s w) (hlx : s.pic.fixed.length ≤ 1048576) (hlen : s.pic.files.length ≤ 1048576) (hrb : ∀ f ∈ s.pic.files, RB f.runs) (heb : EB s.pic.fixed)
    (hz : 0 ≤ size ∧ size ≤ 1125899906842624) :
    Calls Try.prog 54 #[.pointer (some ⟨P, 0, none⟩), .int .i64 size] w fun e w' => e = .returned (.tuple #[.bool (bynd size s.pic.fixed), .int .i64 (overF size s.pic.files)]) ∧ Below w.heap.size w w' := by
  obtain ⟨Ax, cx, Fa, cf, cT, st, -, p1, p2, -, -, hext, hfil, -⟩ := hs.cellP
  have hfc := hfil.c
  have hxc := hext.c
  have Hrb := Lib.hid hrb
  have Heb := Lib.hid heb
  clear hfil hext hs hrb heb
  obtain ⟨l, hl⟩ : ∃ l, s.pic.files = l := ⟨_, rfl⟩
  obtain ⟨lx, hx⟩ : ∃ lx, s.pic.fixed = lx := ⟨_, rfl⟩
  rw [hl] at hfc p2 hlen Hrb ⊢
  rw [hx] at hxc p1 hlx Heb ⊢
  clear hl hx
  obtain ⟨z0, z1⟩ := hz
  go_enter Try.func54, Try.ntmps54
  go_wp2_with fail
  go_loopw [4, 18] (fun b i wr => ∃ (k : Nat) (b0 : Bool), k ≤ lx.length ∧ i = .int .i64 k ∧ b = .bool b0 ∧ Hid (bynd size lx = (b0 || bynd size (lx.drop k))) ∧ Below w.heap.size w wr) (fun _ i _ => lx.length - (intOf i).toNat)
  case atStart => exact ⟨0, false, by omega, by simp, rfl, Lib.hid (by simp), Below.refl _ _⟩
  case round =>
    obtain ⟨k, b0, hk, rfl, rfl, HL, hB⟩ := hrel
    by_cases hlt : k < lx.length
    · obtain ⟨b, o, rfl, e0, e1⟩ := (hxc.below hB) k hlt
      have heb := Heb.out _ (List.getElem_mem hlt)
      have hst := HL.out
      rw [bynd_step hlt] at hst
      have Hst := Lib.hid hst; clear hst HL
      obtain ⟨q1, q2, q3, q4⟩ := heb
      cases b0 with
      | true =>
        go_wp2_with fail
        exact ⟨⟨k + 1, true, by omega, by simp, rfl, Lib.hid (by rw [Hst.out]; simp), below_alloc hB _⟩, by simp [intOf]; omega⟩
      | false =>
        cases hd : decide (size < lx[k].page + lx[k].many) with
        | true =>
          go_wp2_with fail
          exact ⟨⟨k + 1, true, by omega, by simp, rfl, Lib.hid (by rw [Hst.out, hd]; simp), below_alloc hB _⟩, by simp [intOf]; omega⟩
        | false =>
          go_wp2_with fail
          exact ⟨⟨k + 1, false, by omega, by simp, rfl, Lib.hid (by rw [Hst.out, hd]; simp), below_alloc hB _⟩, by simp [intOf]; omega⟩
    · obtain rfl : k = lx.length := by omega
      have hL := HL.out
      rw [List.drop_length] at hL
      have HL' := Lib.hid (show bynd size lx = b0 by rw [hL]; simp [bynd]); clear hL HL
      have q2 := cell_below p2 hB
      go_wp2_with fail
      go_loopw [5, 39] (fun m i wx => ∃ (k : Nat) (acc : Int), k ≤ l.length ∧ i = .int .i64 k ∧ m = .int .i64 acc ∧ Hid (overF size l = acc + overF size (l.drop k)) ∧ Hid (0 ≤ acc ∧ acc ≤ k * 4294967296000) ∧ Below w.heap.size w wx) (fun _ i _ => l.length - (intOf i).toNat)
      case atStart => exact ⟨0, 0, by omega, by simp, rfl, Lib.hid (by simp), Lib.hid (by simp), hB⟩
      case round =>
        clear hB q2
        obtain ⟨k, acc, hk, rfl, rfl, HL, Hacc, hB⟩ := hrel
        by_cases hlt : k < l.length
        · obtain ⟨b, o, A', c', rfl, e0, e1, hrun⟩ := (hfc.below hB) k hlt
          have hrb := Hrb.out _ (List.getElem_mem hlt)
          have HL2 := Lib.hid (HL.out.trans (congrArg (acc + ·) (overF_step hlt)))
          clear HL
          have hrl := hrb.2
          have hB46 := below_alloc (Below.refl wr.heap.size wr) (.cells #[.int .i64 l[k].no, .slice A' l[k].runs.length c'] 46)
          have hrun1 := hrun.below hB46
          have hB1 : Below w.heap.size w _ := below_alloc hB (.cells #[.int .i64 l[k].no, .slice A' l[k].runs.length c'] 46)
          go_wp2_with fail
          obtain ⟨w1, hw1⟩ : ∃ w1, wr.alloc (.cells #[.int .i64 l[k].no, .slice A' l[k].runs.length c'] 46) = w1 := ⟨_, rfl⟩
          rw [hw1] at hrun1 hB1 ⊢
          clear hw1 e0 e1 hrun hB46
          go_loopw [5, 46] (fun m i wx => ∃ (j : Nat) (a2 : Int), j ≤ l[k].runs.length ∧ i = .int .i64 j ∧ m = .int .i64 a2 ∧ Hid (acc + overR size l[k].runs = a2 + overR size (l[k].runs.drop j)) ∧ Hid (acc ≤ a2 ∧ a2 ≤ acc + j * 1073741824) ∧ Below w1.heap.size w1 wx) (fun _ i _ => l[k].runs.length - (intOf i).toNat)
          case atStart => exact ⟨0, acc, by omega, by simp, rfl, Lib.hid (by simp), Lib.hid (by simp), Below.refl _ _⟩
          case round =>
            obtain ⟨j, a2, hj, rfl, rfl, HR, Ha2, hBj⟩ := hrel
            by_cases hltj : j < l[k].runs.length
            · obtain ⟨b2, o2, rfl, r0, r1⟩ := (hrun1.below hBj) j hltj
              obtain ⟨m1, m2, m3, m4⟩ := hrb.1 _ (List.getElem_mem hltj)
              have hnx := HR.out
              rw [overR_step hltj] at hnx
              have Hnx := Lib.hid hnx; clear hnx
              have Hbd := Lib.hid (overN_bd (size := size) (r := l[k].runs[j]) z0 ⟨m3, m4⟩)
              by_cases ht : l[k].runs[j].to = -1
              · have d1 : (l[k].runs[j].to != -1) = false := by simpa using ht
                have Hz := Lib.hid (show overN size l[k].runs[j] = 0 by rw [overN, if_pos ht])
                have Ht := Lib.hid ht; clear ht
                go_wp2_with fail
                exact ⟨⟨j + 1, a2, by omega, by simp, rfl, Lib.hid (by rw [Hnx.out, Hz.out]; omega), Lib.hid (by have := Ha2.out; omega), below_alloc hBj _⟩, by simp [intOf]; omega⟩
              · have d1 : (l[k].runs[j].to != -1) = true := by simpa using ht
                obtain ⟨A1, hA⟩ : ∃ A1, (if size < l[k].runs[j].to then l[k].runs[j].to else size) = A1 := ⟨_, rfl⟩
                have bA : 0 ≤ A1 ∧ A1 ≤ 1125899906842624 := by rw [← hA]; split <;> omega
                obtain ⟨B1, hB1⟩ : ∃ B1, (if 0 < l[k].runs[j].to + l[k].runs[j].many - A1 then l[k].runs[j].to + l[k].runs[j].many - A1 else 0) = B1 := ⟨_, rfl⟩
                have HB1 := Lib.hid (show overN size l[k].runs[j] = B1 by rw [overN, if_neg ht, ← hB1, ← hA]; split <;> split <;> omega)
                have bB : 0 ≤ B1 ∧ B1 ≤ 1073741824 := by have := Hbd.out; rw [HB1.out] at this; exact this
                have bacc : 0 ≤ a2 ∧ a2 ≤ 4611686018427387904 := by have := Hacc.out; have := Ha2.out; omega
                have Ht := Lib.hid ht; clear ht
                go_wp2_with fail
                exact ⟨⟨j + 1, a2 + B1, by omega, by simp, by go_num, Lib.hid (by rw [Hnx.out, HB1.out]; omega), Lib.hid (by have := Ha2.out; omega), below_alloc hBj _⟩, by simp [intOf]; omega⟩
            · obtain rfl : j = l[k].runs.length := by omega
              have hR := HR.out
              rw [List.drop_length] at hR
              simp only [overR, Int.add_zero] at hR
              have hnx : overF size l = a2 + overF size (l.drop (k + 1)) := by rw [HL2.out, ← hR]; omega
              have Hnx := Lib.hid hnx; clear hnx hR
              have hBe : Below w.heap.size w wr := below_then hB1 hBj
              have Hb3 := Lib.hid (show 0 ≤ a2 ∧ a2 ≤ ((k + 1 : Nat) : Int) * 4294967296000 by have := Hacc.out; have := Ha2.out; omega)
              go_wp2_with fail
              refine ⟨?AA, ?BB⟩
              case BB => simp [intOf]; omega
              case AA => first | exact ⟨k + 1, a2, by omega, by simp, rfl, Hnx, Hb3, hBe⟩ | ((repeat apply Exists.intro); exact ⟨⟨k + 1, a2, by omega, by simp, rfl, Hnx, Hb3, hBe⟩, rfl⟩)
        · obtain rfl : k = l.length := by omega
          have hL := HL.out
          rw [List.drop_length] at hL
          simp only [overF, Int.add_zero] at hL
          have HL2 := Lib.hid hL; clear hL HL
          go_wp2_with fail
          go_ret2
          exact ⟨by rw [HL2.out, HL'.out]; rfl, hB⟩
end Go.Proofs.Yteipclnlfanfeaa
