/- RunsE, RunsF, RunsG, Orders, RunsH, AnyC in one text. -/
import Derived.Test.YteipclnlfanfeaaBaseA
import Derived.Laws.EntriesVeiled
import Derived.WideLaws
import Derived.LaidEql
import Derived.RegionIn
import Derived.OrdersIn
import Derived.TacticsIn
import Derived.Tactics
import Derived.RecoverIn
import Derived.Sort.BigQuietIn
set_option linter.unusedVariables false
set_option linter.unusedSimpArgs false
/- runs: part. -/
namespace Go.Proofs.Yteipclnlfanfeaa
open Go.RowKit
attribute [local go_sem] Oper.semAt_some

def piece (f t : Int) (x : Int × Run) : Option Run :=
  if min t (x.1 + x.2.many) ≤ max f x.1 then none
  else some ⟨if x.2.to = -1 then -1 else x.2.to + (max f x.1 - x.1), min t (x.1 + x.2.many) - max f x.1⟩
def partL (l : List Run) (f t : Int) : List Run := normL ((startsL 0 l).filterMap (piece f t))


theorem JB.own {β : Type} (b : Nat) (f : β → List Run) : Own (fun s W => JB W b (f s)) := by
  rintro s X Y row ⟨v, hv, hr⟩ hg hrow
  refine ⟨v, (grownBy_keeps_cells hg hrow hv rfl).trans hv, hr.kept hg ?_⟩
  rcases hr.2 with ⟨rfl, _⟩ | ⟨g, cap, cur, rfl, _, hgb, _⟩
  · exact .inl rfl
  · refine .inr fun e' => ?_
    obtain ⟨o, ho, hc⟩ := hrow g (by simpa [Value.ownBlock] using e'.symm)
    rw [hgb] at ho; cases ho; cases hc

theorem block_own {β : Type} (k : Nat) (c : Array Value) (t : TypeId) : Own (fun (_ : β) W => W.heap[k]? = some (.cells c t (0, 0))) :=
  fun s X Y row hs hg hrow => (grownBy_keeps_cells hg hrow hs rfl).trans hs

theorem own_and {β : Type} {I I' : β → World → Prop} (h : Own I) (h' : Own I') : Own (fun s W => I s W ∧ I' s W) :=
  fun s X Y row hs hg hrow => ⟨h s X Y row hs.1 hg hrow, h' s X Y row hs.2 hg hrow⟩

theorem JB.lt {W : World} {b : Nat} {l : List Run} (h : JB W b l) : b < W.heap.size := lt_of_block h.choose_spec.1

theorem JB.excl {W : World} {b k : Nat} {l : List Run} {c : Array Value} {t : TypeId} {f : Nat × Nat} (h : JB W b l) (hk : W.heap[k]? = some (.cells c t f)) (ht : t ≠ 52) (hkb : k ≠ b) : Excl W b k := by
  obtain ⟨v, hv, hr⟩ := h
  refine ⟨hkb, fun u hu e => ?_⟩
  rw [hv] at hu; cases hu
  rcases hr.2 with ⟨rfl, _⟩ | ⟨g, cap, cur, rfl, _, hgb, _⟩
  · simp [Value.ownBlock] at e
  · simp [Value.ownBlock] at e; subst e
    rw [hgb] at hk; cases hk; exact ht rfl

/-- a block laid anew is neither the box nor its array -/
theorem JB.excl_new {W : World} {b : Nat} {l : List Run} (h : JB W b l) (o : Obj) : Excl (W.alloc o) b W.heap.size := by
  have hb := h.lt
  obtain ⟨v, hv, hr⟩ := h
  refine ⟨by omega, fun u hu e => ?_⟩
  rw [heap_alloc_old' hv] at hu; cases hu
  have := (hr.lt _ e).2
  omega

theorem JB.alloc {W : World} {b : Nat} {l : List Run} (h : JB W b l) (o : Obj) : JB (W.alloc o) b l := by
  obtain ⟨v, hv, hr⟩ := h
  exact ⟨v, heap_alloc_old' hv _, hr.alloc _⟩

def VdJ (b : Nat) (W : World) : Prop := ∃ l, JB W b l
/-- KeepB of the blocks of cells -/
def KeepC (b : Nat) (W W' : World) : Prop := W.heap.size ≤ W'.heap.size ∧
  ∀ (k : Nat) c t f, W.heap[k]? = some (.cells c t f) → Excl W b k → W'.heap[k]? = some (.cells c t f) ∧ Excl W' b k
theorem KeepB.c {b : Nat} {W W' : World} (h : KeepB b W W') : KeepC b W W' := ⟨h.1, fun k c t f hk hx => h.2 k _ hk hx⟩
theorem KeepC.trans {b : Nat} {w1 w2 w3 : World} (h : KeepC b w1 w2) (k : KeepC b w2 w3) : KeepC b w1 w3 :=
  ⟨Nat.le_trans h.1 k.1, fun i c t f hi hx => by
    obtain ⟨h1, h2⟩ := h.2 i c t f hi hx
    exact k.2 i c t f h1 h2⟩
def KpJ (b : Nat) (W W' : World) : Prop := VdJ b W → VdJ b W' ∧ Below b W W' ∧ KeepC b W W'

theorem JB.others {W W' : World} {b : Nat} {l : List Run} (h : JB W b l) (k : KeepB b W W') : KeepsOthers W W' :=
  ⟨k.1, fun i o hi ho => (k.2 i o hi (by
    obtain ⟨v, hv, hr⟩ := h
    refine ⟨fun e => ?_, fun u hu e => ?_⟩
    · subst e; rw [hv] at hi; cases hi; cases ho
    · rw [hv] at hu; cases hu
      rcases hr.2 with ⟨rfl, _⟩ | ⟨g, cap, cur, rfl, _, hgb, _⟩
      · simp [Value.ownBlock] at e
      · simp [Value.ownBlock] at e; subst e; rw [hgb] at hi; cases hi; cases ho)).1⟩

theorem Below.drewN' (b : Nat) (W : World) (n : Nat) : Below b W (W.drewN n) := ⟨rfl, rfl, rfl, Nat.le_refl _, fun _ _ => rfl⟩
theorem KeepsOthers.drewN (W : World) (n : Nat) : KeepsOthers W (W.drewN n) := ⟨Nat.le_refl _, fun _ _ h _ => h⟩

/-- a store into the run that is under way -/
theorem RBox.set {W : World} {b Bx i : Nat} {l : List Run} (h : JB W b l) (hx : Excl W b Bx) (hb : b < Bx) (u : Value) :
    JB (W.setCell ⟨Bx, i, none⟩ u) b l ∧ Excl (W.setCell ⟨Bx, i, none⟩ u) b Bx ∧ Below b W (W.setCell ⟨Bx, i, none⟩ u) ∧ KeepsOthers W (W.setCell ⟨Bx, i, none⟩ u) := by
  obtain ⟨v, hv, hr⟩ := h
  have hv' : (W.setCell ⟨Bx, i, none⟩ u).heap[b]? = some (.cells #[v] 44 (0, 0)) := (Below.heap_setCell _ _ _ _ (by dsimp only; omega)).trans hv
  refine ⟨⟨v, hv', hr.kept (row := some Bx) ⟨rfl, rfl, rfl, by simp, fun k _ hn => Below.heap_setCell _ _ _ _ (fun e => hn (by rw [e]))⟩ (.inr (hx.2 v hv))⟩,
    ⟨hx.1, fun u' hu => ?_⟩, (Below.refl b W).setCell (p := ⟨Bx, i, none⟩) (Nat.le_of_lt hb) u, KeepsOthers.setCell _ _ _⟩
  rw [hv'] at hu; cases hu; exact hx.2 _ hv

theorem KpJ.b {b n : Nat} (hn : b < n) (W1 W : World) (l : Nat) (r r' : Loop) (hl : n ≤ l) (h : W.heap[l]? = some (.loop r)) (hk : KpJ b W1 W) : KpJ b W1 (W.putObj l (.loop r')) := fun v => by
  obtain ⟨⟨l1, v1⟩, b1, k1⟩ := hk v
  have hlt := (Array.getElem?_eq_some_iff.1 h).1
  refine ⟨⟨l1, (JB.own b (fun (_ : Unit) => l1)) () W _ (some l) v1 (grownBy_putObj' W l _) (fun r e => by cases e; exact ⟨_, h, rfl⟩)⟩,
    b1.grown (grownBy_putObj' W l _) (by omega) (fun k e => by cases e; omega), by simpa using k1.1, fun k c t f hk hx => ?_⟩
  obtain ⟨q1, q2⟩ := k1.2 k c t f hk hx
  have hkl : k ≠ l := by rintro rfl; rw [q1] at h; cases h
  refine ⟨(World.putObj_heap_other hkl).trans q1, q2.1, fun u hu => q2.2 u ?_⟩
  rwa [World.putObj_heap_other (by omega)] at hu

/-- what a round has kept of the world in which yield was called -/
def Since (b : Nat) (W1 W : World) : Prop := VdJ b W ∧ Below b W1 W ∧ KeepC b W1 W
theorem Since.own {b D : Nat} (hb : b < D) (W1 : World) : OwnFrom D (fun (_ : Unit) W => Since b W1 W) := by
  rintro s X Y row ⟨⟨l, v⟩, b1, k1⟩ hg hr
  have hn : ∀ r, row = some r → ∃ o : Obj, X.heap[r]? = some o ∧ o.isCells = false := fun r e => (hr r e).2
  have hlt := v.lt
  have hbb : Y.heap[b]? = X.heap[b]? := hg.block b hlt (fun e => by have := (hr b e.symm).1; omega)
  refine ⟨⟨l, (JB.own b (fun (_ : Unit) => l)) () X Y row v hg hn⟩, b1.grown hg (by omega) (fun k e => by have := (hr k e).1; omega), Nat.le_trans k1.1 hg.size, fun k c t f hk hx => ?_⟩
  obtain ⟨q1, q2⟩ := k1.2 k c t f hk hx
  exact ⟨(grownBy_keeps_cells hg hn q1 rfl).trans q1, q2.1, fun u hu => q2.2 u (by rw [← hbb]; exact hu)⟩

/-- the box of a run that is under way -/
def RBox (b : Nat) (W : World) (Bx : Nat) (r : Run) : Prop := W.heap[Bx]? = some (.cells #[.int .i64 r.to, .int .i64 r.many] 52 (0, 0)) ∧ b < Bx ∧ ∃ v, W.heap[b]? = some (.cells #[v] 44 (0, 0)) ∧ v.ownBlock ≠ some Bx
theorem RBox.own {β : Type} (b Bx : Nat) (r : Run) : Own (fun (_ : β) W => RBox b W Bx r) := by
  rintro s X Y row ⟨h1, h2, v, hv, hne⟩ hg hrow
  exact ⟨(grownBy_keeps_cells hg hrow h1 rfl).trans h1, h2, v, (grownBy_keeps_cells hg hrow hv rfl).trans hv, hne⟩

def PartBoxes (n0 : Nat) (f t : Int) (W : World) : Prop :=
  W.heap[n0]? = some (.cells #[.int .i64 f] 3 (0, 0)) ∧ W.heap[n0 + 1]? = some (.cells #[.int .i64 t] 3 (0, 0)) ∧
  W.heap[n0 + 3]? = some (.cells #[.func (.func 94) #[] #[.pointer (some ⟨n0 + 2, 0, none⟩)]] 131 (0, 0))
theorem PartBoxes.own {β : Type} (n0 : Nat) (f t : Int) : Own (fun (_ : β) W => PartBoxes n0 f t W) :=
  own_and (block_own _ _ _) (own_and (block_own _ _ _) (block_own _ _ _))

theorem heap_new (w : World) (o : Obj) {n : Nat} (h : w.heap.size = n) : (w.alloc o).heap[n]? = some o := by subst h; exact World.alloc_heap_new w o

def accP (f t : Int) (pre : List St) : List Run := normL ((pre.map Subtype.val).filterMap (piece f t))
theorem accP_none {f t : Int} {pre : List St} {x : St} (h : piece f t x.1 = none) : accP f t (pre ++ [x]) = accP f t pre := by
  simp [accP, List.filterMap_cons, h]
theorem accP_some {f t : Int} {pre : List St} {x : St} {p : Run} (h : piece f t x.1 = some p) : accP f t (pre ++ [x]) = addN (accP f t pre) p := by
  simp [accP, List.filterMap_cons, h, normL]
theorem piece_bd {f t : Int} {x : Int × Run} {p : Run} (hx : StOk x) (h : piece f t x = some p) : -1 ≤ p.to ∧ p.to ≤ 1125899906842624 ∧ 0 ≤ p.many ∧ p.many ≤ 1099511627776 := by
  unfold piece at h
  split at h
  · cases h
  · rename_i hn
    cases h
    obtain ⟨k1, k2, k3, k4, k5, k6⟩ := hx
    dsimp only
    refine ⟨?_, ?_, by omega, by omega⟩ <;> split <;> omega

theorem accP_fair (f t : Int) (pre : List St) (hn : pre.length ≤ 1048000) : Fair (accP f t pre) := by
  have hmem : ∀ p ∈ (pre.map Subtype.val).filterMap (piece f t), -1 ≤ p.to ∧ p.to ≤ 1125899906842624 ∧ 0 ≤ p.many ∧ p.many ≤ 1099511627776 := by
    intro p hp
    obtain ⟨x, hx, hpx⟩ := List.mem_filterMap.1 hp
    obtain ⟨y, hy, rfl⟩ := List.mem_map.1 hx
    exact piece_bd y.2 hpx
  have hl : ((pre.map Subtype.val).filterMap (piece f t)).length ≤ 1048000 := by
    have := List.length_filterMap_le (piece f t) (pre.map Subtype.val); rw [List.length_map] at this; omega
  have hp := pagesL_bound _ (fun r hr => (hmem r hr).2.2)
  unfold accP
  refine ⟨fun x hx => ⟨mem_normL (fun t => -1 ≤ t) (fun y hy => (hmem y hy).1) x hx, mem_normL (fun t => t ≤ 1125899906842624) (fun y hy => (hmem y hy).2.1) x hx, many_normL (fun y hy => (hmem y hy).2.2.1) x hx⟩, ?_, ?_⟩
  · rw [pages_normL]; omega
  · have := length_normL ((pre.map Subtype.val).filterMap (piece f t)); omega

/-- one round of part is over -/
theorem part_round {n0 D Bx : Nat} {f t : Int} {pre : List St} {x : St} {p : Run} {w W1 W W2 W3 : World} {cs : Array Value} (hpc : piece f t x.1 = some p)
    (hP : PartBoxes n0 f t W) (hJ : JB W (n0 + 2) (accP f t pre)) (hB : Below n0 w W) (hS : Since (n0 + 2) W1 W) (hBx : W1.heap.size ≤ Bx) (hRt : W.heap[Bx]? = some (.cells cs 52 (0, 0)))
    (h2 : Below (n0 + 2) W W2) (h2c : KeepsOthers W W2) (h2s : ∀ k, k ≠ Bx → W2.heap[k]? = W.heap[k]?) (hx2 : Excl W2 (n0 + 2) Bx) (hJ2 : JB W2 (n0 + 2) (accP f t pre))
    (hJ3 : JB W3 (n0 + 2) (addN (accP f t pre) p)) (hB3 : Below (n0 + 2) W2 W3) (hK3 : KeepB (n0 + 2) W2 W3) :
    KeepsFrom D W W3 ∧ KpJ (n0 + 2) W1 W3 ∧ (JB W3 (n0 + 2) (accP f t (pre ++ [x])) ∧ PartBoxes n0 f t W3) ∧ Below n0 w W3 := by
  have hne : n0 + 2 ≠ Bx := by
    rintro rfl
    obtain ⟨v, hv, _⟩ := hJ
    rw [hv] at hRt; cases hRt
  have key : ∀ (k : Nat) c t' f', W.heap[k]? = some (.cells c t' f') → k ≠ Bx → Excl W (n0 + 2) k → W3.heap[k]? = some (.cells c t' f') ∧ Excl W3 (n0 + 2) k := by
    intro k c t' f' hk hkx he
    refine hK3.2 k _ ((h2s k hkx).trans hk) ⟨he.1, fun v hv => he.2 v ?_⟩
    rwa [h2s _ hne] at hv
  have hbx : ∀ k, k ≠ n0 + 2 → ∀ c t', t' ≠ 52 → W.heap[k]? = some (.cells c t' (0, 0)) → W3.heap[k]? = some (.cells c t' (0, 0)) := by
    intro k hkb c t' ht' hc
    have e : k ≠ Bx := by rintro rfl; rw [hc] at hRt; cases hRt; exact ht' rfl
    exact (key k c t' _ hc e (hJ.excl hc ht' hkb)).1
  have h3 : Below (n0 + 2) W W3 := h2.trans hB3
  refine ⟨(h2c.trans (hJ2.others hK3)).from _, fun _ => ⟨⟨_, hJ3⟩, hS.2.1.trans h3, Nat.le_trans hS.2.2.1 h3.size, fun k c t' f' hk he => ?_⟩, ⟨by rw [accP_some hpc]; exact hJ3,
    hbx _ (by omega) _ _ (by decide) hP.1, hbx _ (by omega) _ _ (by decide) hP.2.1, hbx _ (by omega) _ _ (by decide) hP.2.2⟩, hB.trans (h3.mono (by omega))⟩
  obtain ⟨q1, q2⟩ := hS.2.2.2 k c t' f' hk he
  exact key k c t' f' q1 (by have := (Array.getElem?_eq_some_iff.1 hk).1; omega) q2

set_option maxRecDepth 100000 in
set_option maxHeartbeats 400000 in
theorem part_in (l : List Run) (A : Option Addr) (c : Nat) (f t : Int) (w : World) (hF : FairIn l) (hf : 0 ≤ f ∧ f ≤ 1125899906842624) (ht : 0 ≤ t ∧ t ≤ 1125899906842624) (hl : RunsC w A l) :
    CallsIn Fence.wide 5 Try.prog 92 #[.slice A l.length c, .int .i64 f, .int .i64 t] w (RetRuns w (partL l f t)) := by
  have hmf : ∀ (fn : Fn) (first cap : Array Value) (w : World), (Instr.makeFunc fn first cap).run Try.prog w = .ok (.func fn first cap) w := fun _ _ _ _ => rfl
  refine callsIn_of_wp_marks Try.func92 rfl trivial ?_ rfl
  simp only [Try.ntmps92, List.size_toArray, List.length_cons, List.length_nil, Nat.reduceAdd, Nat.reduceSub, Array.replicate_succ, Array.replicate_zero, List.push_toArray, List.append_toArray, List.nil_append, List.cons_append]
  gi_wp2_with (first | (refine ⟨trivial, ?_⟩; gi_at_call 88; refine (callsIn_wide.2 (joiner_any _)).mono ?_; rintro e w' ⟨rfl, rfl⟩) | (refine ⟨trivial, ?_⟩; gi_at_call 65; refine (callsIn_wide.2 (starts_any _ _ _ _)).mono ?_; rintro e w' ⟨rfl, rfl⟩))
  obtain ⟨n0, hn0⟩ : ∃ n0, w.heap.size = n0 := ⟨_, rfl⟩
  have HN := Lib.hid hn0
  rw [hn0]
  simp only [Nat.add_assoc, Nat.reduceAdd]
  obtain ⟨W0, hW0⟩ : ∃ W0, (((((w.alloc (.cells #[.int .i64 f] 3)).alloc (.cells #[.int .i64 t] 3)).alloc (.cells #[.slice none 0 0] 44)).alloc (.cells #[.func (.func 94) #[] #[.pointer (some ⟨n0 + 2, 0, none⟩)]] 131)).alloc (.cells #[.slice A l.length c] 44)) = W0 := ⟨_, rfl⟩
  rw [hW0]
  have hBW : Below n0 w W0 := by
    rw [← hW0]; exact (((((Below.refl _ w).alloc (by omega) _).alloc (by simp; omega) _).alloc (by simp; omega) _).alloc (by simp; omega) _).alloc (by simp; omega) _
  have hsz : W0.heap.size = n0 + 5 := by rw [← hW0]; simp; omega
  have hJ0 : JB W0 (n0 + 2) [] := by
    have := JB.new ((w.alloc (.cells #[.int .i64 f] 3)).alloc (.cells #[.int .i64 t] 3))
    have e : ((w.alloc (.cells #[.int .i64 f] 3)).alloc (.cells #[.int .i64 t] 3)).heap.size = n0 + 2 := by simp; omega
    rw [e] at this
    rw [← hW0]; exact (this.alloc _).alloc _
  have hP0 : PartBoxes n0 f t W0 := by
    have e1 := heap_new (w.alloc (.cells #[.int .i64 f] 3)) (.cells #[.int .i64 t] 3) (n := n0 + 1) (by simp; omega)
    have e2 := heap_new (((w.alloc (.cells #[.int .i64 f] 3)).alloc (.cells #[.int .i64 t] 3)).alloc (.cells #[.slice none 0 0] 44)) (.cells #[.func (.func 94) #[] #[.pointer (some ⟨n0 + 2, 0, none⟩)]] 131) (n := n0 + 3) (by simp; omega)
    rw [← hW0]
    refine ⟨heap_alloc_old' (heap_alloc_old' (heap_alloc_old' (heap_alloc_old' (heap_new w _ hn0) _) _) _) _, heap_alloc_old' (heap_alloc_old' (heap_alloc_old' e1 _) _) _, heap_alloc_old' e2 _⟩
  have hS0 : W0.cell? ⟨n0 + 4, 0, none⟩ = some (.slice A l.length c) := by
    rw [← hW0]; exact cell_of_one (heap_new _ _ (by simp; omega))
  refine wpIn_range rfl (by omega) (gf := 87) (lb := #[.pointer (some ⟨n0 + 4, 0, none⟩)]) rfl trivial (enters_of Try.func87 (by kernel_rfl) rfl)
    (starts_stops 4 (n0 + 4) A c l hF (KpJ (n0 + 2)) (VdJ (n0 + 2)) (fun W o ⟨l1, h⟩ => ⟨l1, h.alloc o⟩) (fun W W' h k => (k h).1) ?runs ?box W0 ?vd hS0 (hl.below (by rw [HN.out]; exact hBW))) (fun W1 W l r r' h1 h2 h3 => KpJ.b (b := n0 + 2) (n := W0.heap.size) (by omega) W1 W l r r' h1 h2 h3) (fun _ => rfl)
    (fun pre W => (JB W (n0 + 2) (accP f t pre) ∧ PartBoxes n0 f t W) ∧ Below n0 w W)
    (fun _ _ _ => False) (OwnFrom.and (Own.from (own_and (JB.own _ _) (PartBoxes.own _ _ _)) _) (ownFrom_below (by omega) (by omega))) (fun _ _ _ _ _ hs _ _ => hs) ⟨⟨hJ0, hP0⟩, hBW⟩
    (fun x W1 a' W => Since (n0 + 2) W1 W ∧ ∃ Bx, W1.heap.size ≤ Bx ∧ RBox (n0 + 2) W Bx x.1.2 ∧ a' = { tmps := #[.slice A l.length c, .int .i64 f, .int .i64 t, undef, .pointer (some ⟨n0, 0, none⟩), .pointer (some ⟨n0 + 1, 0, none⟩), .slice none 0 0, .pointer (some ⟨n0 + 3, 0, none⟩), .func (.func 95) #[] #[.pointer (some ⟨n0 + 2, 0, none⟩)], .int .i64 x.1.1, .pointer (some ⟨Bx, 0, none⟩), undef, undef, .tuple #[(.func (.func 94) #[] #[.pointer (some ⟨n0 + 2, 0, none⟩)]), (.func (.func 95) #[] #[.pointer (some ⟨n0 + 2, 0, none⟩)])], .tuple #[(.func (.func 94) #[] #[.pointer (some ⟨n0 + 2, 0, none⟩)]), (.func (.func 95) #[] #[.pointer (some ⟨n0 + 2, 0, none⟩)])], (.func (.func 94) #[] #[.pointer (some ⟨n0 + 2, 0, none⟩)]), (.func (.func 95) #[] #[.pointer (some ⟨n0 + 2, 0, none⟩)]), .slice A l.length c, .func (.func 87) #[] #[.pointer (some ⟨n0 + 4, 0, none⟩)], .int .i64 x.1.1, .agg #[.int .i64 x.1.2.to, .int .i64 x.1.2.many], undef, undef, undef, undef, undef, undef, undef, undef, undef, undef, undef, undef, undef, undef, undef, undef, undef, undef, undef, undef, undef, undef, undef, undef, undef, undef, undef, undef, undef, undef, undef], defers := [] }) ?ax ?assign ?body ?done ?stop
  case runs =>
    intro W W' hv hk hr
    obtain ⟨_, hb, _⟩ := hk hv
    intro k hk2
    obtain ⟨b, o, rfl, q0, q1⟩ := hl k hk2
    have hbl : b < n0 := by have := World.block_lt_of_cell? w ⟨b, _, none⟩ q0; have := HN.out; simp at *; omega
    obtain ⟨b', o', he, p0, p1⟩ := hr k hk2
    cases he
    exact ⟨b, o, rfl, (hb.cell (p := ⟨b, _, none⟩) (by dsimp only; omega)).trans p0, (hb.cell (p := ⟨b, _, none⟩) (by dsimp only; omega)).trans p1⟩
  case box =>
    rintro W cs W' ⟨l1, h1⟩ hk
    obtain ⟨_, _, hkb⟩ := hk ⟨l1, h1.alloc _⟩
    exact (hkb.2 _ _ _ _ (World.alloc_heap_new W _) (h1.excl_new _)).1
  case vd => exact fun W hB => ⟨[], (fun h => by
    obtain ⟨v, hv, hr⟩ := h
    exact ⟨v, block_below hv hB, ownsRow_below hr hB⟩ : JB W0 (n0 + 2) [] → JB W (n0 + 2) []) hJ0⟩
  case ax =>
    rintro x W1 a' s X Y row ⟨hs, Bx, hx, h, e⟩ hg hr
    exact ⟨Since.own (by omega) W1 () X Y row hs hg hr, Bx, hx, (RBox.own (β := Unit) _ _ _) () X Y row h hg (fun r e => (hr r e).2), e⟩
  case assign =>
    rintro l0 pre ⟨⟨a0, r⟩, hok⟩ W K hi hK
    dsimp only at hK ⊢
    gi_wp2
    obtain ⟨⟨hJ, hP⟩, hB⟩ := hi
    have hl2 := hJ.lt
    have hBa := below_alloc (Below.refl _ W) (.cells #[.int .i64 r.to, .int .i64 r.many] 52)
    refine hK _ _ ((KeepsOthers.alloc _ _).from _) ⟨⟨hJ.alloc _, ?_⟩, hB.trans (hBa.mono (by omega))⟩ ⟨⟨⟨_, hJ.alloc _⟩, hBa.mono (by omega), (KeepB.of_below (by omega) hBa).c⟩, W.heap.size, Nat.le_refl _, ?_, rfl⟩
    · exact ⟨block_below hP.1 hBa, block_below hP.2.1 hBa, block_below hP.2.2 hBa⟩
    · obtain ⟨v, hv, hr⟩ := hJ
      exact ⟨World.alloc_heap_new W _, by omega, v, block_below hv hBa, fun e => by have := (hr.lt _ e).2; omega⟩
  case body =>
    rintro l0 pre ⟨⟨a0, r⟩, hok⟩ W1 a' W hl0 _ ⟨⟨hJ, hP⟩, hB⟩ ⟨hS, Bx, hBx, hR, rfl⟩ hlen
    dsimp only at hR ⊢
    obtain ⟨k1, k2, k3, k4, k5, k6⟩ := hok
    dsimp only at k1 k2 k3 k4 k5 k6
    have c0 := cell_of_one hP.1
    have c1 := cell_of_one hP.2.1
    have c2 := cell_of_one hP.2.2
    have r0 : W.cell? ⟨Bx, 0, none⟩ = some (.int .i64 r.to) := by simp [World.cell?, hR.1]
    have r1 : W.cell? ⟨Bx, 1, none⟩ = some (.int .i64 r.many) := by simp [World.cell?, hR.1]
    have HJ := Lib.hid hJ; clear hJ
    have HP := Lib.hid hP; clear hP
    have HR := Lib.hid hR; clear hR
    obtain ⟨A1, hA⟩ : ∃ A1, (if f < a0 then a0 else f) = A1 := ⟨_, rfl⟩
    obtain ⟨B1, hB1⟩ : ∃ B1, (if a0 + r.many < t then a0 + r.many else t) = B1 := ⟨_, rfl⟩
    have bA : 0 ≤ A1 ∧ A1 ≤ 1125899906842624 := by rw [← hA]; split <;> omega
    have bB : 0 ≤ B1 ∧ B1 ≤ 1125899906842624 := by rw [← hB1]; split <;> omega
    have HA := Lib.hid (show A1 = max f a0 by rw [← hA]; split <;> omega)
    have HB1 := Lib.hid (show B1 = min t (a0 + r.many) by rw [← hB1]; split <;> omega)
    have dA := Lib.hid (show a0 ≤ A1 by rw [HA.out]; omega)
    gi_wp2
    refine wpIn_region_quiet_round rfl (by kernel_rfl) (by kernel_rfl) (by kernel_rfl) ?_
    repeat (gi_big_quiet_step (fail))
    refine wpQuietIn_nil ?_
    rintro _ ⟨nq, rfl⟩
    clear hA hB1
    have HS := Lib.hid hS; clear hS
    have hFl := Lib.hid hF.2.2
    by_cases hge : B1 ≤ A1
    · have hpc := Lib.hid (show piece f t (a0, r) = none by have h1 := HA.out; have h2 := HB1.out; simp only [piece]; rw [if_pos (by omega)])
      gi_wp2
      refine ⟨(KeepsOthers.drewN _ _).from _, fun _ => ⟨HS.out.1, HS.out.2.1.trans (Below.drewN' _ _ _), HS.out.2.2⟩, ⟨?_, HP.out⟩, hB.trans (Below.drewN' _ _ _)⟩
      rw [accP_none hpc.out]; exact HJ.out
    · have hge' : A1 < B1 := by omega
      clear hge
      have hdA := dA.out
      have hne3 : ¬ Bx = n0 + 3 := by rintro rfl; have h1 := HP.out.2.2; rw [HR.out.1] at h1; cases h1
      have hfr : W.frozen? ⟨Bx, 0, none⟩ = false := by simp [World.frozen?, HR.out.1]
      have hfr1 : W.frozen? ⟨Bx, 1, none⟩ = false := by simp [World.frozen?, HR.out.1]
      by_cases ht : r.to = -1
      · have e1 : (r.to != -1) = false := by simp [ht]
        have hpc := Lib.hid (show piece f t (a0, r) = some ⟨r.to, B1 - A1⟩ by have h1 := HA.out; have h2 := HB1.out; simp only [piece]; rw [if_neg (by omega), if_pos ht, ← h1, ← h2, ht])
        clear ht
        have hJx := RBox.set (W := W.drewN nq) (i := 1) (l := accP f t pre) (by exact HJ.out) ⟨by have := HR.out.2.1; omega, fun v hv => by obtain ⟨_, _, u, hu, hne⟩ := HR.out; rw [World.heap_drewN, hu] at hv; cases hv; exact hne⟩ HR.out.2.1 (.int .i64 (B1 - A1))
        have HJx := Lib.hid hJx; clear hJx
        have hfair := Lib.hid (accP_fair f t pre (by have := hFl.out; omega))
        have hpb := Lib.hid (piece_bd (f := f) (t := t) (x := (a0, r)) ⟨k1, k2, k3, k4, k5, k6⟩ hpc.out)
        gi_wp2_with fail
        refine ⟨trivial, (CallsIn.inRound l0 (callsIn_wide.2 (add_any (n0 + 2) (accP f t pre) ⟨r.to, B1 - A1⟩ _ HJx.out.1 hfair.out hpb.out))).mono ?_⟩
        rintro e w3 ⟨rfl, hJ3, hB3, hK3⟩
        have HJ3 := Lib.hid hJ3; clear hJ3
        gi_wp2
        exact part_round hpc.out HP.out HJ.out hB HS.out hBx HR.out.1 ((Below.drewN' _ _ nq).trans HJx.out.2.2.1) ((KeepsOthers.drewN _ _).trans HJx.out.2.2.2) (fun k hk => Below.heap_setCell _ _ _ _ hk) HJx.out.2.1 HJx.out.1 HJ3.out hB3 hK3
      · have e1 : (r.to != -1) = true := by simp [ht]
        have hpc := Lib.hid (show piece f t (a0, r) = some ⟨r.to + (A1 - a0), B1 - A1⟩ by have h1 := HA.out; have h2 := HB1.out; simp only [piece]; rw [if_neg (by omega), if_neg ht, ← h1, ← h2])
        clear ht
        have hJx := RBox.set (W := W.drewN nq) (i := 0) (l := accP f t pre) (by exact HJ.out) ⟨by have := HR.out.2.1; omega, fun v hv => by obtain ⟨_, _, u, hu, hne⟩ := HR.out; rw [World.heap_drewN, hu] at hv; cases hv; exact hne⟩ HR.out.2.1 (.int .i64 (r.to + (A1 - a0)))
        have hJy := RBox.set (i := 1) hJx.1 hJx.2.1 HR.out.2.1 (.int .i64 (B1 - A1))
        have HJx := Lib.hid hJx; clear hJx
        have HJy := Lib.hid hJy; clear hJy
        have hfair := Lib.hid (accP_fair f t pre (by have := hFl.out; omega))
        have hpb := Lib.hid (piece_bd (f := f) (t := t) (x := (a0, r)) ⟨k1, k2, k3, k4, k5, k6⟩ hpc.out)
        have hAa : A1 - a0 ≤ 1125899906842624 := by omega
        gi_wp2_with fail
        refine ⟨trivial, (CallsIn.inRound l0 (callsIn_wide.2 (add_any (n0 + 2) (accP f t pre) ⟨r.to + (A1 - a0), B1 - A1⟩ _ HJy.out.1 hfair.out hpb.out))).mono ?_⟩
        rintro e w3 ⟨rfl, hJ3, hB3, hK3⟩
        have HJ3 := Lib.hid hJ3; clear hJ3
        gi_wp2
        exact part_round hpc.out HP.out HJ.out hB HS.out hBx HR.out.1 ((Below.drewN' _ _ nq).trans (HJx.out.2.2.1.trans HJy.out.2.2.1)) ((KeepsOthers.drewN _ _).trans (HJx.out.2.2.2.trans HJy.out.2.2.2)) (fun k hk => (Below.heap_setCell _ _ _ _ hk).trans (Below.heap_setCell _ _ _ _ hk)) HJy.out.2.1 HJy.out.1 HJ3.out hB3 hK3
  case done =>
    rintro D ys W hD hys ⟨⟨hJ, hP⟩, hB⟩ hK
    have HJ := Lib.hid hJ; clear hJ
    gi_wp2_with (refine ⟨trivial, ?_⟩; gi_at_call 95; refine (callsIn_wide.2 (all_any (n0 + 2) _ _ HJ.out)).mono ?_; rintro e w' ⟨rfl, v, rfl, hown⟩; obtain ⟨A', c', rfl⟩ := ownsRow_shape hown; have Hown := Lib.hid hown; clear hown)
    refine ⟨by simp, .inl ⟨_, _, rfl, run_takeDeferred hK, ?_⟩⟩
    have hacc : accP f t ys = partL l f t := by unfold accP partL; rw [hys]
    have ho := Hown.out
    rw [hacc] at ho ⊢
    exact ⟨_, results_tmp rfl _ _ _, ⟨_, _, rfl, ownsRow_putObj (ownsRow_mono ho (by rw [HN.out]; omega)) _ hK rfl⟩, by
      rw [HN.out]; exact hB.grown (grownBy_putObj' W D _) (by have := hB.size; omega) (fun k e => by cases e; omega)⟩
  case stop =>
    rintro D c pre W _ _ h _
    exact h.elim
theorem part_any (l : List Run) (A : Option Addr) (c : Nat) (f t : Int) (w : World) (hF : FairIn l) (hf : 0 ≤ f ∧ f ≤ 1125899906842624) (ht : 0 ≤ t ∧ t ≤ 1125899906842624) (hl : RunsC w A l) :
    Calls Try.prog 92 #[.slice A l.length c, .int .i64 f, .int .i64 t] w (RetRuns w (partL l f t)) :=
  callsIn_wide.1 (part_in l A c f t w hF hf ht hl)

end Go.Proofs.Yteipclnlfanfeaa

namespace Go.Proofs.Yteipclnlfanfeaa
open Go.RowKit

set_option maxRecDepth 100000 in
set_option maxHeartbeats 400000 in
theorem rcaught_fault (p : Addr) (x e : Int) (w : World) (hc : w.cell? p = some (.int .i64 x)) (hz : w.frozen? p = false) :
    CallsD Try.prog 61 #[.pointer (some p)] (.panicking [{ v := .iface 127 (.int .i64 e), recovered := false }]) w fun r u' w' =>
      r = .returned (.tuple #[]) ∧ u' = .panicking [{ v := .iface 127 (.int .i64 e), recovered := true }] ∧ w' = w.setCell p (.int .i64 e) := by
  have hta : ∀ (e : Int) (w : World), (Instr.typeAssert (.iface 127 (.int .i64 e)) 20 127 true).run Try.prog w = .ok (.tuple #[.int .i64 e, .bool true]) w := fun _ _ => by kernel_rfl
  refine callsD_of_wpS Try.func61 rfl fun c₀ cs hu => ?_
  simp only [Try.ntmps61, List.size_toArray, List.length_cons, List.length_nil, Nat.reduceAdd, Nat.reduceSub, Array.replicate_succ, Array.replicate_zero, List.push_toArray, List.append_toArray, List.nil_append, List.cons_append]
  apply wpS_seq
  apply wpS_region
  simp [wpOpsS, go_sem, recoverD, hu, Exit.thenS]
  refine wpS_of_wp ?_
  clear hu
  go_wp2_with fail
  simp [bodyPostS, results, Try.results61]

set_option maxRecDepth 100000 in
set_option maxHeartbeats 400000 in
theorem rcaught_none (p : Addr) (w : World) :
    CallsD Try.prog 61 #[.pointer (some p)] .returning w fun r u' w' => r = .returned (.tuple #[]) ∧ u' = .returning ∧ w = w' := by
  refine callsD_of_wpS Try.func61 rfl fun c₀ cs hu => ?_
  simp only [Try.ntmps61, List.size_toArray, List.length_cons, List.length_nil, Nat.reduceAdd, Nat.reduceSub, Array.replicate_succ, Array.replicate_zero, List.push_toArray, List.append_toArray, List.nil_append, List.cons_append]
  apply wpS_seq
  apply wpS_region
  simp [wpOpsS, go_sem, recoverD, hu, Exit.thenS]
  refine wpS_of_wp ?_
  go_wp2_with fail
  cases c₀
  simp_all [bodyPostS, results, Try.results61]
theorem rdoor_ret {fn : Func} {tmps : Array Value} {R : Ending → World → Prop} {b : Nat} {w : World} (h : ∃ v, (results fn tmps).run Try.prog w = .ok v w ∧ R (.returned v) w) :
    Leaves Try.prog fn tmps R [{ target := .fn (.func 61) #[], args := #[.pointer (some ⟨b, 0, none⟩)] }] .returning w := by
  refine leaves_cons (f := 61) (args := #[.pointer (some ⟨b, 0, none⟩)]) (by simp) (by simp [go_sem]) ?_
  refine (rcaught_none ⟨b, 0, none⟩ _).mono ?_
  rintro e u' w3 ⟨rfl, rfl, rfl⟩
  exact h

theorem rdoor_fault {fn : Func} {tmps : Array Value} {R : Ending → World → Prop} {b : Nat} {w : World} {x e : Int} (hE : w.heap[b]? = some (.cells #[.int .i64 x] 29 (0, 0)))
    (h : ∃ v, (results fn tmps).run Try.prog (w.setCell ⟨b, 0, none⟩ (.int .i64 e)) = .ok v (w.setCell ⟨b, 0, none⟩ (.int .i64 e)) ∧ R (.returned v) (w.setCell ⟨b, 0, none⟩ (.int .i64 e))) :
    Leaves Try.prog fn tmps R [{ target := .fn (.func 61) #[], args := #[.pointer (some ⟨b, 0, none⟩)] }] (.panicking [{ v := .iface 127 (.int .i64 e), recovered := false }]) w := by
  refine leaves_cons (f := 61) (args := #[.pointer (some ⟨b, 0, none⟩)]) (by simp) (by simp [go_sem]) ?_
  refine (rcaught_fault ⟨b, 0, none⟩ x e _ (cell_of_one hE) (free_of_one hE)).mono ?_
  rintro e u' w3 ⟨rfl, rfl, rfl⟩
  exact h

end Go.Proofs.Yteipclnlfanfeaa

namespace Go.Proofs.Yteipclnlfanfeaa
open Go.RowKit

theorem mustE_zero {l : List Run} (h : mustE l = 0) : l.length ≤ 2000 ∧ (∀ r ∈ l, 1 ≤ r.many ∧ r.many ≤ 1073741824 ∧ -1 ≤ r.to ∧ (r.to = -1 ∨ r.to ≤ 1073741824 - r.many)) ∧ pagesL l ≤ 1073741824 := by
  unfold mustE at h
  split at h
  · omega
  · split at h
    · rename_i h1 h2
      simp [validL] at h2
      exact ⟨by omega, fun r hr => (okRun_iff r).1 (h2.1 r hr), h2.2⟩
    · omega

theorem fair_of_must {l : List Run} (h : mustE l = 0) : FairIn l := by
  obtain ⟨h1, h2, h3⟩ := mustE_zero h
  exact ⟨fun r hr => by have := h2 r hr; omega, by omega, by omega⟩

theorem small_of_must {l : List Run} (h : mustE l = 0) : Small l := by
  obtain ⟨h1, h2, h3⟩ := mustE_zero h
  exact ⟨by omega, fun r hr => by have := h2 r hr; omega⟩

/-- a call returns runs of its own and an error -/
def RetRunsE (w : World) (l : List Run) (er : Int) (e : Ending) (w' : World) : Prop :=
  (∃ A c, e = .returned (.tuple #[.slice A l.length c, .int .i64 er]) ∧ w'.ownsRow w.heap.size 52 2 (.slice A l.length c) l.length (flatR l)) ∧ Below w.heap.size w w'

theorem RunsLL.one {w : World} {b c : Nat} {A : Option Addr} {l : List Run} (h : w.heap[b]? = some (.cells #[.slice A l.length c] 44 (0, 0))) (hl : RunsC w A l) : RunsLL w (some ⟨b, 0, none⟩) [l] := by
  intro k hk
  obtain rfl : k = 0 := by simp at hk; omega
  exact ⟨b, 0, A, c, rfl, by simp [World.cell?, h], hl⟩

set_option maxHeartbeats 400000 in
theorem norm_any (l : List Run) (A : Option Addr) (c : Nat) (w : World) (hlen : l.length ≤ 1099511627776) (hl : RunsC w A l) :
    Calls Try.prog 73 #[.slice A l.length c] w (RetRunsE w (if mustE l = 0 then normL l else []) (mustE l)) := by
  by_cases hm : mustE l = 0
  · rw [if_pos hm]
    have Hm := Lib.hid hm; clear hm
    have hB0 := below_alloc (Below.refl _ w) (.cells #[.int .i64 0] 29)
    go_enter_defers Try.func73, Try.ntmps73
    go_wp2_with fail
    refine (must_any l _ _ _ hlen (hl.below hB0)).mono ?_
    rintro e w1 ⟨⟨_, rfl⟩ | ⟨h0, _⟩, hB1⟩
    rotate_left
    · exact absurd Hm.out h0
    have hE := block_below (World.alloc_heap_new w (.cells #[.int .i64 0] 29)) hB1
    have hB01 := below_then hB0 hB1
    have hB2 := below_alloc hB01 (.cells #[.slice A l.length c] 44)
    have hE2 := heap_alloc_old' hE (.cells #[.slice A l.length c] 44)
    have hB1' := hB1
    clear hB1
    go_wp2_with fail
    refine (joined_any [l] _ _ _ (by simpa using fair_of_must Hm.out) (by simp) (RunsLL.one (World.alloc_heap_new w1 _) (hl.below hB2))).mono ?_
    rintro e w2 ⟨⟨A', c', rfl, hown⟩, hB3⟩
    have hE3 := block_below hE2 hB3
    have hBf := below_then hB2 hB3
    have hc3 := cell_of_one hE3
    have hz3 := free_of_one hE3
    have Hown := Lib.hid hown; clear hown
    have HE3 := Lib.hid hE3
    clear hE hE2 hE3 hB01 hB2
    go_wp2_with fail
    have hc4 := cell_of_one (one_setCell (u := .int .i64 0) HE3.out)
    refine rdoor_ret ?_
    refine ⟨_, by simp [results, Try.results73, go_sem, hc4]; rfl, ⟨A', c', ?_, ?_⟩, ?_⟩
    · rw [Hm.out]
    · have ho := Hown.out
      simp only [List.flatten_cons, List.flatten_nil, List.append_nil] at ho
      exact ownsRow_mono (ownsRow_setCell_below ho (a := ⟨w.heap.size, 0, none⟩) (by have := lt_of_block HE3.out; have := hB3.size; have := lt_of_block (block_below (World.alloc_heap_new w (.cells #[.int .i64 0] 29)) hB1'); simp; omega) _) (by have := lt_of_block (block_below (World.alloc_heap_new w (.cells #[.int .i64 0] 29)) hB1'); simp; omega)
    · exact hBf.setCell (p := ⟨w.heap.size, 0, none⟩) (Nat.le_refl _) _
  · rw [if_neg hm]
    have Hm := Lib.hid hm; clear hm
    have hB0 := below_alloc (Below.refl _ w) (.cells #[.int .i64 0] 29)
    go_enter_defers Try.func73, Try.ntmps73
    go_wp2_with fail
    refine (must_any l _ _ _ hlen (hl.below hB0)).mono ?_
    rintro e w1 ⟨⟨h0, _⟩ | ⟨h0, rfl⟩, hB1⟩
    · exact absurd h0 Hm.out
    have hE := block_below (World.alloc_heap_new w (.cells #[.int .i64 0] 29)) hB1
    have hB01 := below_then hB0 hB1
    have HE := Lib.hid hE; clear hE
    go_wp2_with fail
    have hc4 := cell_of_one (one_setCell (u := .int .i64 (mustE l)) HE.out)
    refine rdoor_fault HE.out ⟨_, by first | (simp [results, Try.results73, go_sem, hc4]; done) | (simp [results, Try.results73, go_sem, hc4]; rfl), ⟨none, 0, rfl, ?_⟩, ?_⟩
    · simpa [flatR] using World.ownsRow_nil _ _ 52 2
    · exact hB01.setCell (p := ⟨w.heap.size, 0, none⟩) (Nat.le_refl _) _

def takenL : List Run → Int
  | [] => 0
  | r :: l => (if r.to = -1 then 0 else r.many) + takenL l

theorem takenL_take_succ (l : List Run) (k : Nat) (h : k < l.length) : takenL (l.take (k + 1)) = takenL (l.take k) + (if l[k].to = -1 then 0 else l[k].many) := by
  induction l generalizing k with
  | nil => simp at h
  | cons r l ih =>
    cases k with
    | zero => simp [takenL]
    | succ k =>
      have := ih k (by simpa using h)
      simp only [List.take_succ_cons, takenL, List.getElem_cons_succ, this]; omega

theorem takenL_bound (l : List Run) (h : ∀ r ∈ l, 0 ≤ r.many) : 0 ≤ takenL l ∧ takenL l ≤ pagesL l := by
  induction l with
  | nil => simp [takenL, pagesL]
  | cons r l ih =>
    have h1 := h r (by simp)
    have h2 := ih (fun r hr => h r (by simp [hr]))
    simp only [takenL, pagesL]; split <;> omega

set_option maxHeartbeats 1000000 in
theorem size_ok (l : List Run) (A : Option Addr) (c : Nat) (w : World) (hm : mustE l = 0) (hl : RunsC w A l) :
    Calls Try.prog 46 #[.slice A l.length c] w fun e w' => e = .returned (.tuple #[.int .i64 (pagesL l), .int .i64 (takenL l), .int .i64 0]) ∧ Below w.heap.size w w' := by
  have hmz := mustE_zero hm
  have hlen := hmz.1
  have Hm := Lib.hid hm; clear hm
  have Hmz := Lib.hid hmz; clear hmz
  have hB0 := below_alloc (Below.refl _ w) (.cells #[.int .i64 0] 29)
  go_enter_defers Try.func46, Try.ntmps46
  go_wp2_with fail
  refine (must_any l _ _ _ (by omega) (hl.below hB0)).mono ?_
  rintro e w1 ⟨⟨_, rfl⟩ | ⟨h0, _⟩, hB1⟩
  rotate_left
  · exact absurd Hm.out h0
  have HE := Lib.hid (block_below (World.alloc_heap_new w (.cells #[.int .i64 0] 29)) hB1)
  have hB01 := below_then hB0 hB1
  clear hB1
  go_wp2_with fail
  go_loopw [3, 11] (fun t i wr => ∃ k : Nat, k ≤ l.length ∧ i = .int .i64 k ∧ t = .int .i64 (takenL (l.take k)) ∧ Below w1.heap.size w1 wr) (fun _ i _ => l.length - (intOf i).toNat)
  case atStart => exact ⟨0, by omega, by simp, by simp [takenL], Below.refl _ _⟩
  case round =>
    obtain ⟨k, hk, rfl, rfl, hB⟩ := hrel
    have hBw := below_then hB01 hB
    have htb : 0 ≤ takenL (l.take k) ∧ takenL (l.take k) ≤ 1125899906842624 := by
      have h1 := takenL_bound (l.take k) (fun r hr => by have := Hmz.out.2.1 r (List.mem_of_mem_take hr); omega)
      have h2 := fair_take (fair_of_must Hm.out) k
      omega
    by_cases hlt : k < l.length
    · obtain ⟨b, o, rfl, h0, h1⟩ := (hl.below hBw) k hlt
      have hmk := Hmz.out.2.1 l[k] (List.getElem_mem hlt)
      have hs := Lib.hid (takenL_take_succ l k hlt)
      by_cases ht : l[k].to = -1
      · have e1 : (l[k].to != -1) = false := by simp [ht]
        have hs2 := Lib.hid (show takenL (l.take (k + 1)) = takenL (l.take k) by rw [hs.out, if_pos ht]; omega)
        obtain ⟨m1, m2, m3, m4⟩ := hmk
        clear ht m4
        go_wp2_with fail
        go_roundw
        case rel => exact ⟨k + 1, by omega, by go_num, by rw [hs2.out], below_alloc hB _⟩
        case measure => simp [intOf]; omega
      · have e1 : (l[k].to != -1) = true := by simp [ht]
        have hs2 := Lib.hid (show takenL (l.take (k + 1)) = takenL (l.take k) + l[k].many by rw [hs.out, if_neg ht])
        obtain ⟨m1, m2, m3, m4⟩ := hmk
        clear ht m4
        go_wp2_with fail
        go_roundw
        case rel => exact ⟨k + 1, by omega, by go_num, by rw [hs2.out], below_alloc hB _⟩
        case measure => simp [intOf]; omega
    · obtain rfl : k = l.length := by omega
      rw [List.take_length] at *
      go_wp2_with fail
      refine (pages_any l _ _ _ (small_of_must Hm.out) (hl.below hBw)).mono ?_
      rintro e w2 ⟨rfl, hB2⟩
      have HE2 := Lib.hid (block_below HE.out (below_then hB hB2))
      have hcE := cell_of_one HE2.out
      have hzE := free_of_one HE2.out
      have hBf := below_then hBw hB2
      go_wp2_with fail
      have hc4 := cell_of_one (one_setCell (u := .int .i64 0) HE2.out)
      refine rdoor_ret ⟨_, by first | (simp [results, Try.results46, go_sem, hc4]; done) | (simp [results, Try.results46, go_sem, hc4]; rfl), ?_, ?_⟩
      · rfl
      · exact hBf.setCell (p := ⟨w.heap.size, 0, none⟩) (Nat.le_refl _) _

end Go.Proofs.Yteipclnlfanfeaa

/- A region that draws its order: all orders written out. -/
namespace Go.Proofs.Yteipclnlfanfeaa

def allOrders (md : Region.Mode) (ops : Array Oper) : Nat → Array Bool → List (List Nat)
  | 0, _ => [[]]
  | f + 1, listed =>
    if (Region.ready md ops listed).isEmpty then [[]]
    else (Region.ready md ops listed).flatMap fun i => (allOrders md ops f (listed.setIfInBounds i true)).map (i :: ·)

theorem go_mem (md : Region.Mode) (ops : Array Oper) : ∀ (fuel t : Nat) (listed : Array Bool), Region.linearise.go md ops fuel t listed [] ∈ allOrders md ops fuel listed := by
  intro fuel
  induction fuel with
  | zero => intro t listed; simp [Region.linearise.go, allOrders]
  | succ fuel ih =>
    intro t listed
    simp only [Region.linearise.go, allOrders]
    change (match (Region.ready md ops listed)[t % (Region.ready md ops listed).length]? with
      | some i => Region.linearise.go md ops fuel (t / (Region.ready md ops listed).length) (listed.setIfInBounds i true) [i]
      | none => [].reverse) ∈ _
    cases hr : Region.ready md ops listed with
    | nil => simp
    | cons x xs =>
      have hlt : t % (x :: xs).length < (x :: xs).length := Nat.mod_lt _ (by simp)
      rw [List.getElem?_eq_getElem hlt]
      simp only [List.isEmpty_cons, Bool.false_eq_true, if_false]
      rw [linearise_go_acc, List.reverse_singleton, List.singleton_append]
      exact List.mem_flatMap.2 ⟨_, List.getElem_mem hlt, List.mem_map.2 ⟨_, ih _ _, rfl⟩⟩

theorem wpOps_list {P : Program} {ops : Array Oper} {Q : Exit → Act → World → Prop} : ∀ (l : List Nat) (a : Act) (w : World), wpList P ops Q (l.filterMap (ops[·]?)) a w → wpOps P ops Q l a w
  | [], _, _, h => h
  | i :: l, a, w, h => by
    unfold wpOps
    cases ho : ops[i]? with
    | none => simp only [List.filterMap_cons, ho] at h; exact wpOps_list l a w h
    | some o =>
      simp only [List.filterMap_cons, ho, wpList] at h
      dsimp only
      have ih : (wpList P ops Q (l.filterMap (ops[·]?))) = fun a w => wpList P ops Q (l.filterMap (ops[·]?)) a w := rfl
      split
      · rename_i hw; rw [if_pos hw] at h
        exact h.imp (Oper.wp_mono fun a w h => wpOps_list l a w h) id
      · rename_i hw; rw [if_neg hw] at h
        exact wpOps_list l _ w h

theorem wpOpsIn_list {F : Fence} {n : Nat} {P : Program} {ops : Array Oper} {Q : Exit → Act → World → Prop} : ∀ (l : List Nat) (a : Act) (w : World), wpListIn F n P ops Q (l.filterMap (ops[·]?)) a w → wpOpsIn F n P ops Q l a w
  | [], _, _, h => h
  | i :: l, a, w, h => by
    unfold wpOpsIn
    cases ho : ops[i]? with
    | none => simp only [List.filterMap_cons, ho] at h; exact wpOpsIn_list l a w h
    | some o =>
      simp only [List.filterMap_cons, ho, wpListIn] at h
      dsimp only
      split
      · rename_i hw; rw [if_pos hw] at h
        exact Oper.wpIn_mono (fun a w h => wpOpsIn_list l a w h) h
      · rename_i hw; rw [if_neg hw] at h
        exact ⟨h.1, wpOpsIn_list l _ w h.2⟩

theorem wp_region_orders {P : Program} {id : Nat} {Q : Exit → Act → World → Prop} {a : Act} {w : World} {l : List Oper} (L : List (List Nat)) (hm : P.follows .mixedOrders = true)
    (hL : allOrders .any l.toArray l.toArray.size (Array.replicate l.toArray.size false) = L) (h : ∀ o ∈ L, wpList P l.toArray Q (o.filterMap (l.toArray[·]?)) a w.drew) : (Code.region id l.toArray true).wp P Q a w :=
  wp_region_draw fun t => by
    simp only [Region.schedule, hm, Bool.true_or, if_true]
    exact wpOps_list _ _ _ (h _ (hL ▸ go_mem .any l.toArray l.toArray.size t _))

theorem wpIn_region_orders {F : Fence} {n : Nat} {P : Program} {id : Nat} {Q : Exit → Act → World → Prop} {a : Act} {w : World} {l : List Oper} (L : List (List Nat)) (hm : P.follows .mixedOrders = true)
    (hL : allOrders .any l.toArray l.toArray.size (Array.replicate l.toArray.size false) = L) (h : ∀ o ∈ L, wpListIn F n P l.toArray Q (o.filterMap (l.toArray[·]?)) a w.drew) : (Code.region id l.toArray true).wpIn F n P Q a w :=
  wpIn_region_draw fun t => by
    simp only [Region.schedule, hm, Bool.true_or, if_true]
    exact wpOpsIn_list _ _ _ (h _ (hL ▸ go_mem .any l.toArray l.toArray.size t _))
end Go.Proofs.Yteipclnlfanfeaa

/- runs: the deferred calls of functions with a range over a function. -/
namespace Go.Proofs.Yteipclnlfanfeaa
open Go.RowKit

set_option maxRecDepth 100000 in
set_option maxHeartbeats 400000 in
theorem rcaughtIn_fault (n : Nat) (p : Addr) (x e : Int) (w : World) (hc : w.cell? p = some (.int .i64 x)) (hz : w.frozen? p = false) :
    CallsDIn Fence.wide n Try.prog 61 #[.pointer (some p)] (.panicking [{ v := .iface 127 (.int .i64 e), recovered := false }]) w fun r u' w' =>
      r = .returned (.tuple #[]) ∧ u' = .panicking [{ v := .iface 127 (.int .i64 e), recovered := true }] ∧ w' = w.setCell p (.int .i64 e) := by
  have hta : ∀ (e : Int) (w : World), (Instr.typeAssert (.iface 127 (.int .i64 e)) 20 127 true).run Try.prog w = .ok (.tuple #[.int .i64 e, .bool true]) w := fun _ _ => by kernel_rfl
  refine callsDIn_of_wpSIn Try.func61 rfl trivial fun c₀ cs hu => ?_
  simp only [Try.ntmps61, List.size_toArray, List.length_cons, List.length_nil, Nat.reduceAdd, Nat.reduceSub, Array.replicate_succ, Array.replicate_zero, List.push_toArray, List.append_toArray, List.nil_append, List.cons_append]
  apply wpSIn_seq
  apply wpSIn_region
  simp [wpOpsSIn, go_sem, recoverD, hu, Exit.thenS]
  refine wpSIn_of_wpIn rfl ?_
  clear hu
  gi_wp2_with fail
  simp [bodyPostS, results, Try.results61]

set_option maxRecDepth 100000 in
set_option maxHeartbeats 400000 in
theorem rcaughtIn_none (n : Nat) (p : Addr) (w : World) :
    CallsDIn Fence.wide n Try.prog 61 #[.pointer (some p)] .returning w fun r u' w' => r = .returned (.tuple #[]) ∧ u' = .returning ∧ w = w' := by
  refine callsDIn_of_wpSIn Try.func61 rfl trivial fun c₀ cs hu => ?_
  simp only [Try.ntmps61, List.size_toArray, List.length_cons, List.length_nil, Nat.reduceAdd, Nat.reduceSub, Array.replicate_succ, Array.replicate_zero, List.push_toArray, List.append_toArray, List.nil_append, List.cons_append]
  apply wpSIn_seq
  apply wpSIn_region
  simp [wpOpsSIn, go_sem, recoverD, hu, Exit.thenS]
  refine wpSIn_of_wpIn rfl ?_
  gi_wp2_with fail
  cases c₀
  simp_all [bodyPostS, results, Try.results61]
theorem rdoorM_ret {n : Nat} {fn : Func} {tmps : Array Value} {R : Ending → World → Prop} {b : Nat} {w : World} (h : ∃ v, (results fn tmps).run Try.prog w = .ok v w ∧ R (.returned v) w) :
    LeavesInM Fence.wide n Try.prog fn tmps R [{ target := .fn (.func 61) #[], args := #[.pointer (some ⟨b, 0, none⟩)] }] .returning w := by
  refine ⟨by simp, .inr ⟨fun h => by simp [Fence.wide] at h, _, _, 61, #[.pointer (some ⟨b, 0, none⟩)], rfl, by simp [go_sem], fun _ _ => trivial, ?_⟩⟩
  refine (rcaughtIn_none _ ⟨b, 0, none⟩ _).mono ?_
  rintro e u' w3 ⟨rfl, rfl, rfl⟩
  exact h

theorem rdoorM_fault {n : Nat} {fn : Func} {tmps : Array Value} {R : Ending → World → Prop} {b : Nat} {w : World} {x e : Int} (hE : w.heap[b]? = some (.cells #[.int .i64 x] 29 (0, 0)))
    (h : ∃ v, (results fn tmps).run Try.prog (w.setCell ⟨b, 0, none⟩ (.int .i64 e)) = .ok v (w.setCell ⟨b, 0, none⟩ (.int .i64 e)) ∧ R (.returned v) (w.setCell ⟨b, 0, none⟩ (.int .i64 e))) :
    LeavesInM Fence.wide n Try.prog fn tmps R [{ target := .fn (.func 61) #[], args := #[.pointer (some ⟨b, 0, none⟩)] }] (.panicking [{ v := .iface 127 (.int .i64 e), recovered := false }]) w := by
  refine ⟨by simp, .inr ⟨fun h => by simp [Fence.wide] at h, _, _, 61, #[.pointer (some ⟨b, 0, none⟩)], rfl, by simp [go_sem], fun _ _ => trivial, ?_⟩⟩
  refine (rcaughtIn_fault _ ⟨b, 0, none⟩ x e _ (cell_of_one hE) (free_of_one hE)).mono ?_
  rintro e u' w3 ⟨rfl, rfl, rfl⟩
  exact h
end Go.Proofs.Yteipclnlfanfeaa

/- A region that draws its order: what reads the same in every world of a class may be taken first. -/
namespace Go.Proofs.Yteipclnlfanfeaa
section
variable {F : Fence} {n : Nat} {P : Program} {ops : Array Oper} {Q : Exit → Act → World → Prop} {md : Region.Mode} {C : World → Prop}

/-- whatever order is picked; every world on the way is one of the class -/
def anyC (F : Fence) (n : Nat) (P : Program) (md : Region.Mode) (ops : Array Oper) (C : World → Prop) (Q : Exit → Act → World → Prop) : Nat → Array Bool → Act → World → Prop
  | 0, listed, a, w => Region.ready md ops listed = [] ∧ Q .normal a w
  | f + 1, listed, a, w =>
    (Region.ready md ops listed = [] → Q .normal a w) ∧
    ∀ i ∈ Region.ready md ops listed, wpOpIn F n P ops Q i (fun a' w' => C w' ∧ anyC F n P md ops C Q f (listed.setIfInBounds i true) a' w') a w

theorem wpAnyIn_of_anyC : ∀ (f : Nat) (listed : Array Bool) (a : Act) (w : World), anyC F n P md ops C Q f listed a w → wpAnyIn F n P md ops Q f listed a w
  | 0, _, _, _, h => h
  | f + 1, _, _, _, h => ⟨h.1, fun i hi => wpOpIn_mono (fun a' w' h' => wpAnyIn_of_anyC f _ a' w' h'.2) (h.2 i hi)⟩

/-- in state a, in every world of the class, operation o leaves v and the world as it was; it is no call -/
def YieldsC (P : Program) (ops : Array Oper) (C : World → Prop) (o : Oper) (v : Value) (a : Act) : Prop :=
  ((Region.wanted o (yielded ops a.tmps) = true ∧ ∀ w, C w → (execOp a.eval o).run P w = .ok (.value v) w) ∨ (Region.wanted o (yielded ops a.tmps) = false ∧ v = undef)) ∧
  ∀ w, o.about P w a.eval = none

theorem YieldsC.of_same {o : Oper} {v : Value} {a a' : Act} (hy : YieldsC P ops C o v a) (he : execOp a'.eval o = execOp a.eval o)
    (hw : Region.wanted o (yielded ops a'.tmps) = Region.wanted o (yielded ops a.tmps)) (hb : ∀ w, o.about P w a'.eval = o.about P w a.eval) : YieldsC P ops C o v a' := by
  unfold YieldsC at *
  rw [he, hw]
  exact ⟨hy.1, fun w => by rw [hb w]; exact hy.2 w⟩

theorem YieldsC.wpOpIn {i : Nat} {o : Oper} {v : Value} {a : Act} (hro : F.round = none) (hi : ops[i]? = some o) (hy : YieldsC P ops C o v a)
    {K : Act → World → Prop} {w : World} (hw : C w) (h : K (a.put o.dst v) w) : wpOpIn F n P ops Q i K a w := by
  unfold Go.wpOpIn
  simp only [hi]
  have hab : ∀ f, o.about P w a.eval = some f → F.fn f := fun f hf => by rw [hy.2 w] at hf; cases hf
  rcases hy.1 with ⟨hwt, hv⟩ | ⟨hwt, rfl⟩
  · simp only [hwt, if_true, Oper.wpIn, hro, Oper.semAt_none, hv w hw, Oper.uponIn]; exact ⟨hab, h⟩
  · simp only [hwt, Bool.false_eq_true, if_false]; exact ⟨hab, h⟩

theorem wpOpIn_putC {j : Nat} {oi oj : Oper} {v : Value} (hro : F.round = none) (hj : ops[j]? = some oj) (hap : oi.apart ops oj = true)
    (hsi : ∀ cs b, oi.op ≠ .select cs b) (hsj : ∀ cs b, oj.op ≠ .select cs b)
    (hQ : ∀ c a w, Q (.panic c) (a.put oi.dst v) w → Q (.panic c) a w) {K : Act → World → Prop} {a : Act} {w : World}
    (hy : YieldsC P ops C oi v a) (h : wpOpIn F n P ops Q j K (a.put oi.dst v) w) :
    wpOpIn F n P ops Q j (fun a' w' => YieldsC P ops C oi v a' ∧ K (a'.put oi.dst v) w') a w := by
  obtain ⟨h1, h2, h3⟩ := Oper.apart_spec hap
  have keep : ∀ (a : Act), YieldsC P ops C oi v a → ∀ u, YieldsC P ops C oi v (a.put oj.dst u) := fun a hy u =>
    hy.of_same (execOp_put oi hsi a oj.dst u h3) (wanted_put oi a oj.dst u h3) (fun w => about_put oi w a oj.dst u h3)
  have keepD : ∀ d, YieldsC P ops C oi v { a with defers := d :: a.defers } := fun d => hy.of_same rfl rfl (fun _ => rfl)
  unfold wpOpIn at *
  simp only [hj] at *
  rw [wanted_put oj a oi.dst v h1, about_put oj w a oi.dst v h1] at h
  split
  · rename_i hw
    simp only [hw, if_true] at h
    unfold Oper.wpIn at *
    rw [about_put oj w a oi.dst v h1] at h
    refine ⟨h.1, ?_⟩
    have h := h.2
    rw [hro, Oper.semAt_none, execOp_put oj hsj a oi.dst v h1] at h
    rw [hro, Oper.semAt_none]
    generalize (execOp a.eval oj).run P w = r at *
    cases r with
    | ok x w' =>
      cases x <;> simp only [Oper.uponIn] at h ⊢
      case value u => exact ⟨keep a hy u, by rw [← Act.put_comm a v u h2]; exact h⟩
      case skip => exact ⟨keep a hy _, by rw [← Act.put_comm a v undef h2]; exact h⟩
      case defer d =>
        refine ⟨keep _ (keepD d) _, ?_⟩
        rw [← Act.put_comm _ v undef h2, ← Act.put_defers]
        exact h
      case enter f args =>
        refine ⟨h.1, CallsIn.mono h.2 fun e w'' he => ?_⟩
        cases e with
        | returned u => exact ⟨keep a hy u, by rw [← Act.put_comm a v u h2]; exact he⟩
        | panicked c => exact hQ _ _ _ he
        | outgrown => exact he
      case row row args => exact ⟨h.1, RowsIn.mono h.2 fun u w'' he => ⟨keep a hy u, by rw [← Act.put_comm a v u h2]; exact he⟩⟩
      case round l f tmps assign body =>
        refine ⟨h.1, RoundIn.mono h.2 fun e w'' he => ?_⟩
        cases e with
        | returned u => exact ⟨keep a hy u, by rw [← Act.put_comm a v u h2]; exact he⟩
        | panicked c => exact hQ _ _ _ he
        | outgrown => exact he
    | halt x w' =>
      cases x <;> simp only [Oper.uponIn] at h ⊢
      case panic u => exact hQ _ _ _ h
  · rename_i hw
    simp only [hw] at h
    exact ⟨h.1, keep a hy _, by rw [← Act.put_comm a v undef h2]; exact h.2⟩

theorem anyC_first {i : Nat} {oi : Oper} {v : Value} (hro : F.round = none) (hi : ops[i]? = some oi) (hsel : ∀ (j : Nat) (o : Oper) cs b, ops[j]? = some o → o.op ≠ .select cs b)
    (hQ : ∀ c a w, Q (.panic c) (a.put oi.dst v) w → Q (.panic c) a w) :
    ∀ (fuel : Nat) (listed : Array Bool) (a : Act) (w : World), C w →
      (∀ j oj, ops[j]? = some oj → j ≠ i → listed.getD j true = false → (∀ e ∈ oj.after, Region.binds md e = true → e.on ≠ i) → oi.apart ops oj = true) →
      i ∈ Region.ready md ops listed → YieldsC P ops C oi v a →
      anyC F n P md ops C Q fuel (listed.setIfInBounds i true) (a.put oi.dst v) w → anyC F n P md ops C Q (fuel + 1) listed a w := by
  intro fuel
  induction fuel with
  | zero =>
    intro listed a w hw _ hr hy H
    refine ⟨fun h => (by rw [h] at hr; cases hr), fun j hj => ?_⟩
    by_cases hji : j = i
    · subst hji; exact hy.wpOpIn hro hi hw ⟨hw, H⟩
    · have := ready_mono hj hji
      rw [H.1] at this
      cases this
  | succ fuel ih =>
    intro listed a w hw hfree hr hy H
    refine ⟨fun h => (by rw [h] at hr; cases hr), fun j hj => ?_⟩
    by_cases hji : j = i
    · subst hji; exact hy.wpOpIn hro hi hw ⟨hw, H⟩
    · have h1 := H.2 j (ready_mono hj hji)
      obtain ⟨hjun, oj, hoj, hall⟩ := mem_ready.1 hj
      have hnot : ∀ e ∈ oj.after, Region.binds md e = true → e.on ≠ i := fun e he hb heq => by
        have h1 := hall e he hb
        have h0 := (mem_ready.1 hr).1
        rw [heq] at h1
        rcases Nat.lt_or_ge i listed.size with h' | h'
        · simp [h'] at h0 h1; rw [h0] at h1; cases h1
        · simp [Array.getElem?_eq_none h'] at h1
      have h2 := wpOpIn_putC hro hoj (hfree j oj hoj hji hjun hnot) (fun cs b => hsel i oi cs b hi) (fun cs b => hsel j oj cs b hoj) hQ hy h1
      have hfree' : ∀ k ok, ops[k]? = some ok → k ≠ i → (listed.setIfInBounds j true).getD k true = false →
          (∀ e ∈ ok.after, Region.binds md e = true → e.on ≠ i) → oi.apart ops ok = true := fun k ok hk hki hun hno => by
        refine hfree k ok hk hki ?_ hno
        by_cases hjk : j = k
        · subst hjk; exact hjun
        · rw [getD_set_ne true hjk] at hun; exact hun
      refine wpOpIn_mono (fun a' w' h3 => ⟨h3.2.1, ih (listed.setIfInBounds j true) a' w' h3.2.1 hfree' (ready_mono hr (Ne.symm hji)) h3.1 ?_⟩) h2
      rw [Array.setIfInBounds_comm _ _ hji]
      exact h3.2.2

/-- one operation is taken first -/
theorem anyC_take {i : Nat} {oi : Oper} {fuel : Nat} {listed : Array Bool} {a : Act} {w : World} (v : Value) (hro : F.round = none) (hi : ops[i]? = some oi)
    (hs : Region.noSelect ops = true) (hf : Region.free md ops listed i = true) (hr : (Region.ready md ops listed).contains i = true)
    (hQ : ∀ c a w, Q (.panic c) (a.put oi.dst v) w → Q (.panic c) a w) (hw : C w) (hy : YieldsC P ops C oi v a)
    (h : anyC F n P md ops C Q fuel (listed.setIfInBounds i true) (a.put oi.dst v) w) : anyC F n P md ops C Q (fuel + 1) listed a w :=
  anyC_first hro hi (Region.noSelect_spec hs) hQ fuel listed a w hw (Region.free_spec hi hf) (by simpa using hr) hy h

/-- one operation alone may come up -/
theorem anyC_only {i : Nat} {fuel : Nat} {listed : Array Bool} {a : Act} {w : World} (hr : Region.ready md ops listed = [i])
    (h : wpOpIn F n P ops Q i (fun a' w' => C w' ∧ anyC F n P md ops C Q fuel (listed.setIfInBounds i true) a' w') a w) : anyC F n P md ops C Q (fuel + 1) listed a w :=
  ⟨fun h0 => (by rw [hr] at h0; cases h0), fun j hj => (by rw [hr, List.mem_singleton] at hj; subst hj; exact h)⟩

theorem anyC_done {fuel : Nat} {listed : Array Bool} {a : Act} {w : World} (hr : Region.ready md ops listed = []) (h : Q .normal a w) : anyC F n P md ops C Q fuel listed a w := by
  cases fuel with
  | zero => exact ⟨hr, h⟩
  | succ f => exact ⟨fun _ => h, fun i hi => by rw [hr] at hi; cases hi⟩

theorem wpIn_region_anyC {id : Nat} {a : Act} {w : World} (hm : P.follows .mixedOrders = true)
    (h : anyC F n P .any ops C Q ops.size (Array.replicate ops.size false) a w.drew) : (Code.region id ops true).wpIn F n P Q a w :=
  wpIn_region_any hm (wpAnyIn_of_anyC _ _ _ _ h)

theorem wpIn_region_anyC_round {id l0 : Nat} {a : Act} {w : World} (hro : F.round = none) (hp : noDefer ops = true) (hm : P.follows .mixedOrders = true)
    (h : anyC F n P .any ops C Q ops.size (Array.replicate ops.size false) a w.drew) : (Code.region id ops true).wpIn (F.inRound l0) n P Q a w :=
  wpIn_region_draw fun t => wpOpsIn_inRound l0 hro hp _ _ _ (by
    simp only [Region.schedule, hm, Bool.true_or, if_true]
    exact wpAnyIn_sound ops.size t _ a _ (wpAnyIn_of_anyC _ _ _ _ h))
end
end Go.Proofs.Yteipclnlfanfeaa
