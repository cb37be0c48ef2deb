/- Kit, RunsA, RunsB, RunsC, RunsD, Quiet, Range in one text. -/
import Derived.WalkKit
import Derived.WalkLawsBesides
import Derived.WalkSpells
import Derived.Lib.Hide
import Derived.Deep.Draws
import Derived.RangeFuncNested
import Derived.Test.YteipclnlfanfeaaProg
import Derived.BigQuiet
import Derived.Deep.QuietTactic
import Derived.Outline
import Derived.Maps.AppendAt
import Derived.RangeFuncBound
import Derived.RangeFuncCalls
import Derived.RangeFuncLeaves
import Derived.Shelf.Abstract
import Derived.Shelf.RegionOpen
import Derived.OwnWalkIn
import Derived.TacticsInMore
import Derived.LoopNIn
import Derived.LoopIn
import Derived.Sort.BigQuietIn
set_option linter.unusedVariables false
set_option linter.unusedSimpArgs false
/- Words of the walks: worlds, slices of runs and of extents; no program here. -/
namespace Go.Proofs.Yteipclnlfanfeaa
open Go.RowKit

structure Run where
  to : Int
  many : Int
deriving DecidableEq

structure Ext where
  page : Int
  many : Int
deriving DecidableEq

def vR (r : Run) : List Value := [.int .i64 r.to, .int .i64 r.many]
def vE (r : Ext) : List Value := [.int .i64 r.page, .int .i64 r.many]

/-- the cells of a slice of runs -/
def RunsC (w : World) (A : Option Addr) (l : List Run) : Prop :=
  ∀ k (h : k < l.length), ∃ b o, A = some ⟨b, o, none⟩ ∧ w.cell? ⟨b, o + k * 2, none⟩ = some (.int .i64 l[k].to) ∧ w.cell? ⟨b, o + k * 2 + 1, none⟩ = some (.int .i64 l[k].many)

theorem cell_below {w w' : World} {b o : Nat} {v : Value} (h : w.cell? ⟨b, o, none⟩ = some v) (hB : Below w.heap.size w w') : w'.cell? ⟨b, o, none⟩ = some v :=
  (hB.cell (p := ⟨b, o, none⟩) (World.block_lt_of_cell? w ⟨b, o, none⟩ h)).trans h

theorem block_below {w w' : World} {b : Nat} {x : Obj} (h : w.heap[b]? = some x) (hB : Below w.heap.size w w') : w'.heap[b]? = some x :=
  (hB.block b (by obtain ⟨h1, _⟩ := Array.getElem?_eq_some_iff.1 h; exact h1)).trans h

theorem below_then {w w1 w2 : World} (h1 : Below w.heap.size w w1) (h2 : Below w1.heap.size w1 w2) : Below w.heap.size w w2 := h1.trans (h2.mono h1.size)

theorem below_alloc {w w1 : World} (h1 : Below w.heap.size w w1) (o : Obj) : Below w.heap.size w (w1.alloc o) := h1.alloc h1.size o

theorem below_dr {w w1 : World} (h1 : Below w.heap.size w w1) (n : Nat) : Below w.heap.size w (w1.drewN n) := h1.trans ⟨rfl, rfl, rfl, Nat.le_refl _, fun _ _ => rfl⟩
theorem below_dr1 {w w1 : World} (h1 : Below w.heap.size w w1) : Below w.heap.size w w1.drew := h1.drew

theorem ownsRow_below {w w' : World} {base : Nat} {e : TypeId} {size : Nat} {v : Value} {n : Nat} {xs : List Value} (h : w.ownsRow base e size v n xs) (hB : Below w.heap.size w w') : w'.ownsRow base e size v n xs := by
  refine ⟨h.1, ?_⟩
  rcases h.2 with hn | ⟨g, cap, cur, rfl, hb, hgg, rest⟩
  · exact .inl hn
  · exact .inr ⟨g, cap, cur, rfl, hb, block_below hgg hB, rest⟩

theorem ownsRow_shape {w : World} {base : Nat} {e : TypeId} {size : Nat} {v : Value} {n : Nat} {xs : List Value} (h : w.ownsRow base e size v n xs) :
    ∃ A c, v = .slice A n c := by
  rcases h.2 with ⟨rfl, rfl⟩ | ⟨g, cap, cur, rfl, _⟩
  · exact ⟨_, _, rfl⟩
  · exact ⟨_, _, rfl⟩

theorem heap_alloc_old' {w : World} {b : Nat} {x : Obj} (h : w.heap[b]? = some x) (o : Obj) : (w.alloc o).heap[b]? = some x :=
  block_below h ((Below.refl _ _).alloc (Nat.le_refl _) o)

theorem RunsC.below {w w' : World} {A : Option Addr} {l : List Run} (h : RunsC w A l) (hB : Below w.heap.size w w') : RunsC w' A l := by
  intro k hk
  obtain ⟨b, o, hA, h0, h1⟩ := h k hk
  exact ⟨b, o, hA, cell_below h0 hB, cell_below h1 hB⟩

theorem RunsC.nil (w : World) (A : Option Addr) : RunsC w A [] := fun k h => by simp at h

def pagesL : List Run → Int
  | [] => 0
  | r :: l => r.many + pagesL l

def Small (l : List Run) : Prop := l.length ≤ 1048576 ∧ ∀ r ∈ l, 0 ≤ r.many ∧ r.many ≤ 1099511627776

theorem pagesL_take_succ (l : List Run) (k : Nat) (h : k < l.length) : pagesL (l.take (k + 1)) = pagesL (l.take k) + l[k].many := by
  induction l generalizing k with
  | nil => simp at h
  | cons r l ih =>
    cases k with
    | zero => simp [pagesL]
    | succ k =>
      have := ih k (by simpa using h)
      simp [pagesL, this]; omega

theorem pagesL_append (a b : List Run) : pagesL (a ++ b) = pagesL a + pagesL b := by
  induction a with
  | nil => simp [pagesL]
  | cons r l ih => simp [pagesL, ih]; omega

theorem pagesL_bound (l : List Run) (h : ∀ r ∈ l, 0 ≤ r.many ∧ r.many ≤ 1099511627776) : 0 ≤ pagesL l ∧ pagesL l ≤ l.length * 1099511627776 := by
  induction l with
  | nil => simp [pagesL]
  | cons r l ih =>
    have h1 := h r (by simp)
    have h2 := ih (fun r hr => h r (by simp [hr]))
    simp only [pagesL, List.length_cons]; omega

theorem pagesL_take_bound (l : List Run) (hs : Small l) (k : Nat) : 0 ≤ pagesL (l.take k) ∧ pagesL (l.take k) ≤ 1152921504606846976 := by
  have := pagesL_bound (l.take k) (fun r hr => hs.2 r (List.mem_of_mem_take hr))
  have h1 : (l.take k).length ≤ 1048576 := by have := hs.1; simp; omega
  have : ((l.take k).length : Int) * 1099511627776 ≤ 1048576 * 1099511627776 := by omega
  omega

def okRun (r : Run) : Bool := decide (1 ≤ r.many) && decide (r.many ≤ 1073741824) && decide (-1 ≤ r.to) && (decide (r.to = -1) || decide (r.to ≤ 1073741824 - r.many))
def validL (l : List Run) : Bool := l.all okRun && decide (pagesL l ≤ 1073741824)
def mustE (l : List Run) : Int := if 2000 < l.length then 2 else if validL l = true then 0 else 1

theorem okRun_iff (r : Run) : okRun r = true ↔ (1 ≤ r.many ∧ r.many ≤ 1073741824 ∧ -1 ≤ r.to ∧ (r.to = -1 ∨ r.to ≤ 1073741824 - r.many)) := by
  simp [okRun]; omega

/-- a panic with a fault of type t, or none -/
abbrev faulted (t : TypeId) (e : Int) : Ending := .panicked [{ v := .iface t (.int .i64 e), recovered := false }]

/-- either all is well and the call returns nothing, or it panics with the fault e (e ≠ 0) -/
def NeedPost (t : TypeId) (e : Int) (w : World) (r : Ending) (w' : World) : Prop :=
  ((e = 0 ∧ r = .returned (.tuple #[])) ∨ (e ≠ 0 ∧ r = faulted t e)) ∧ Below w.heap.size w w'

def addN (l : List Run) (r : Run) : List Run :=
  if r.many = 0 then l else
  match l.getLast? with
  | none => [r]
  | some x => if (r.to = -1 ∧ x.to = -1) ∨ (r.to ≠ -1 ∧ x.to ≠ -1 ∧ r.to = x.to + x.many) then l.dropLast ++ [⟨x.to, x.many + r.many⟩] else l ++ [r]
def normL (l : List Run) : List Run := l.foldl addN []

def flatR : List Run → List Value
  | [] => []
  | r :: l => .int .i64 r.to :: .int .i64 r.many :: flatR l

theorem flatR_length (l : List Run) : (flatR l).length = l.length * 2 := by
  induction l with
  | nil => rfl
  | cons r l ih => simp [flatR, ih]; omega

theorem flatR_append (a b : List Run) : flatR (a ++ b) = flatR a ++ flatR b := by
  induction a with
  | nil => rfl
  | cons r l ih => simp [flatR, ih]

theorem flatR_get (l : List Run) (k : Nat) (h : k < l.length) : (flatR l)[k * 2]? = some (.int .i64 l[k].to) ∧ (flatR l)[k * 2 + 1]? = some (.int .i64 l[k].many) := by
  induction l generalizing k with
  | nil => simp at h
  | cons r l ih =>
    cases k with
    | zero => simp [flatR]
    | succ k =>
      have := ih k (by simpa using h)
      rw [show (k + 1) * 2 = k * 2 + 1 + 1 by omega]
      simpa [flatR] using this

/-- a list of runs whose numbers do not wrap -/
def Fair (l : List Run) : Prop := (∀ r ∈ l, -1 ≤ r.to ∧ r.to ≤ 1125899906842624 ∧ 0 ≤ r.many) ∧ pagesL l ≤ 2305843009213693952 ∧ l.length ≤ 1048576

theorem pagesL_nonneg {l : List Run} (h : ∀ r ∈ l, 0 ≤ r.many) : 0 ≤ pagesL l := by
  induction l with
  | nil => simp [pagesL]
  | cons r l ih =>
    have h1 := h r (by simp)
    have h2 := ih (fun r hr => h r (by simp [hr]))
    simp only [pagesL]; omega

theorem many_le_pages {l : List Run} (h : ∀ r ∈ l, 0 ≤ r.many) {r : Run} (hr : r ∈ l) : r.many ≤ pagesL l := by
  induction l with
  | nil => simp at hr
  | cons x l ih =>
    have h1 := h x (by simp)
    have h2 := pagesL_nonneg (fun r hr => h r (by simp [hr]) : ∀ r ∈ l, 0 ≤ r.many)
    simp only [pagesL]
    rcases List.mem_cons.1 hr with rfl | hr
    · omega
    · have := ih (fun r hr => h r (by simp [hr])) hr; omega

theorem Fair.many {l : List Run} (h : Fair l) {r : Run} (hr : r ∈ l) : 0 ≤ r.many ∧ r.many ≤ 2305843009213693952 := by
  have h1 := many_le_pages (fun r hr => (h.1 r hr).2.2) hr
  exact ⟨(h.1 r hr).2.2, by have := h.2.1; omega⟩

/-- block k is neither the box b nor the array of the slice in it -/
def Excl (w : World) (b k : Nat) : Prop := k ≠ b ∧ ∀ v, w.heap[b]? = some (.cells #[v] 44 (0, 0)) → v.ownBlock ≠ some k

/-- the box b and its array alone may turn -/
def KeepB (b : Nat) (w w' : World) : Prop := w.heap.size ≤ w'.heap.size ∧
  ∀ (k : Nat) (o : Obj), w.heap[k]? = some o → Excl w b k → w'.heap[k]? = some o ∧ Excl w' b k

theorem KeepB.refl (b : Nat) (w : World) : KeepB b w w := ⟨Nat.le_refl _, fun _ _ h hx => ⟨h, hx⟩⟩
theorem KeepB.trans {b : Nat} {w1 w2 w3 : World} (h : KeepB b w1 w2) (k : KeepB b w2 w3) : KeepB b w1 w3 :=
  ⟨Nat.le_trans h.1 k.1, fun i o hi hx => by
    obtain ⟨h1, h2⟩ := h.2 i o hi hx
    exact k.2 i o h1 h2⟩
theorem KeepB.of_below {b : Nat} {w w' : World} (hb : b < w.heap.size) (h : Below w.heap.size w w') : KeepB b w w' :=
  ⟨h.size, fun k o hk hx => ⟨block_below hk h, hx.1, fun v hv => hx.2 v (by rw [← h.block b hb]; exact hv)⟩⟩
/-- the array of the box is written, or taken anew -/
theorem KeepB.grown {b : Nat} {w w' : World} {v : Value} (hv : w.heap[b]? = some (.cells #[v] 44 (0, 0))) (hg : w.grownBy w' v.ownBlock) (hne : v.ownBlock ≠ some b) : KeepB b w w' :=
  ⟨hg.size, fun k o hk hx => by
    have hb := (Array.getElem?_eq_some_iff.1 hv).1
    refine ⟨(hg.block k (Array.getElem?_eq_some_iff.1 hk).1 (fun e => hx.2 v hv e.symm)).trans hk, hx.1, fun v' hv' => hx.2 v' ?_⟩
    rw [← hg.block b hb (fun e => hne e.symm)]; exact hv'⟩
/-- the box itself is written -/
theorem KeepB.setBox {b : Nat} {w : World} {v v' : Value} (hv : w.heap[b]? = some (.cells #[v] 44 (0, 0))) (n : Nat) (hn : ∀ g, v'.ownBlock = some g → v.ownBlock = some g ∨ n ≤ g) :
    ∀ (k : Nat) (o : Obj), k < n → w.heap[k]? = some o → Excl w b k → (w.setCell ⟨b, 0, none⟩ v').heap[k]? = some o ∧ Excl (w.setCell ⟨b, 0, none⟩ v') b k := by
  intro k o hkn hk hx
  refine ⟨(Below.heap_setCell _ _ _ _ hx.1).trans hk, hx.1, fun u hu e => ?_⟩
  rw [one_setCell hv] at hu
  cases hu
  rcases hn k e with h | h
  · exact hx.2 v hv h
  · omega

/-- the box b of a joiner holds an own slice of the runs l -/
def JB (w : World) (b : Nat) (l : List Run) : Prop :=
  ∃ v, w.heap[b]? = some (.cells #[v] 44 (0, 0)) ∧ w.ownsRow (b + 1) 52 2 v l.length (flatR l)

section
variable {P : Program} (w : World)
/-- append of one element: where the new row lies -/
theorem run_append_one (base : Nat) (t ty e : TypeId) (i : TypeInfo) (z : Value) (size bytes : Nat) (ht : P.underlying t = some (.slice e)) (hi : P.info? e = some i) (hz : i.zero = some z)
    (hsize : i.size = size) (hby : i.bytes = bytes) (hzs : z.cells.size = size) (hsz : 0 < size)
    (v : Value) (n : Nat) (xs : List Value) (hown : w.ownsRow base e size v n xs)
    (a : Addr) (c : Nat) (news : List Value) (hl : news.length = 1 * size) (hnews : ∀ j u, news[j]? = some u → w.cell? (a.add j) = some u) (h1 : ∀ u ∈ news, u.oneCell' = true)
    (h63 : n + 1 ≤ maxLen) (hbytes : (n + 1) * bytes ≤ 140737488355328) (hbase : base ≤ w.heap.size) :
    ∃ g' c' w', (Builtin.append_ #[t, t] ty #[v, .slice (some a) 1 c]).run P w = .ok (.slice (some ⟨g', 0, none⟩) (n + 1) c') w' ∧ w'.ownsRow base e size (.slice (some ⟨g', 0, none⟩) (n + 1) c') (n + 1) (xs ++ news) ∧ w.grownBy w' v.ownBlock ∧
      (v.ownBlock = some g' ∨ w.heap.size ≤ g') := by
  obtain ⟨v', w', hr, h2, h3, h4⟩ := run_append_own (P := P) w base t ty e i z size bytes ht hi hz hsize hby hzs hsz v n xs hown a 1 c news hl hnews h1 h63 hbytes hbase
  obtain ⟨g', c', rfl⟩ : ∃ g' c', v' = .slice (some ⟨g', 0, none⟩) (n + 1) c' := by
    rcases h2.2 with ⟨_, h⟩ | ⟨g, cap, cur, rfl, _⟩
    · omega
    · exact ⟨_, _, rfl⟩
  refine ⟨g', c', w', hr, h2, h3, ?_⟩
  rcases hown.2 with ⟨rfl, rfl⟩ | ⟨g, cap, cur, rfl, hbg, hg, hnc, hcm, hcs, htake⟩
  · obtain ⟨v2, w2, hr2, h22, _, _⟩ := run_append_own (P := P) w w.heap.size t ty e i z size bytes ht hi hz hsize hby hzs hsz _ 0 xs ⟨hown.1, .inl ⟨rfl, rfl⟩⟩ a 1 c news hl hnews h1 h63 hbytes (Nat.le_refl _)
    rw [hr] at hr2; cases hr2
    exact .inr (h22.lt g' rfl).1
  · by_cases hroom : n + 1 ≤ cap
    · obtain ⟨w2, hr2, _, _⟩ := run_append_fits (P := P) w base t ty e i size ht hi hsize g n cap xs hown a 1 c news hl hnews h1 hroom
      rw [hr] at hr2; cases hr2
      exact .inl rfl
    · subst hsize hby
      have hr2 := run_append_grow (P := P) w t ty e i z ht hi hz ⟨g, 0, none⟩ n cap xs hown.1 (hown.cells (g := g) rfl) a 1 c news hl hnews (by omega) (by simp only [maxLen] at h63; omega) (growslice_fits (by omega) hbytes)
      rw [hr] at hr2; cases hr2
      exact .inr (Nat.le_refl _)

theorem wpList_append_one {ops : Array Oper} {rest : List Oper} {o : Oper} {a : Act} {Q : Exit → Act → World → Prop} (hgd : o.guard = none) (s x : Operand) (t : TypeId)
    (ho : o.op = .call { callee := .builtin .append, args := #[s, x], argTypes := #[t, t] })
    (base : Nat) (e : TypeId) (i : TypeInfo) (z : Value) (size bytes : Nat) (ht : P.underlying t = some (.slice e)) (hi : P.info? e = some i) (hz : i.zero = some z)
    (hsize : i.size = size) (hby : i.bytes = bytes) (hzs : z.cells.size = size) (hsz : 0 < size)
    (v : Value) (n : Nat) (xs : List Value) (hs : a.eval s = v) (hown : w.ownsRow base e size v n xs)
    (ad : Addr) (c : Nat) (news : List Value) (hx : a.eval x = .slice (some ad) 1 c) (hl : news.length = 1 * size) (hnews : ∀ j u, news[j]? = some u → w.cell? (ad.add j) = some u) (h1 : ∀ u ∈ news, u.oneCell' = true)
    (h63 : n + 1 ≤ maxLen) (hbytes : (n + 1) * bytes ≤ 140737488355328) (hbase : base ≤ w.heap.size)
    (h : ∀ g' c' w', w'.ownsRow base e size (.slice (some ⟨g', 0, none⟩) (n + 1) c') (n + 1) (xs ++ news) → w.grownBy w' v.ownBlock → (v.ownBlock = some g' ∨ w.heap.size ≤ g') → wpList P ops Q rest (a.put o.dst (.slice (some ⟨g', 0, none⟩) (n + 1) c')) w') : wpList P ops Q (o :: rest) a w := by
  refine wpList_plain hgd fun K hK => ?_
  obtain ⟨g', c', w', hr, h2, h3, h4⟩ := run_append_one (P := P) w base t o.type e i z size bytes ht hi hz hsize hby hzs hsz v n xs hown ad c news hl hnews h1 h63 hbytes hbase
  unfold Oper.wp execOp
  simp only [ho, resolve, invoke, builtin, Sem.run_bind, Sem.run_pure, Result.andThen_ok, List.map_toArray, List.map_cons, List.map_nil, hs, hx, hr]
  exact hK _ _ (h g' c' w' h2 h3 h4)
end

end Go.Proofs.Yteipclnlfanfeaa

/- runs: need, pages, must. -/
namespace Go.Proofs.Yteipclnlfanfeaa
open Go.RowKit

theorem rneed_yes (e : Int) (w : World) : Calls Try.prog 63 #[.bool true, .int .i64 e] w fun r w' => r = .returned (.tuple #[]) ∧ w = w' := by
  go_enter Try.func63, Try.ntmps63
  go_wp2
  go_end0
  exact ⟨rfl, rfl⟩

theorem rneed_no (e : Int) (w : World) : Calls Try.prog 63 #[.bool false, .int .i64 e] w fun r w' => r = faulted 127 e ∧ w = w' := by
  go_enter Try.func63, Try.ntmps63
  go_wp2
  exact ⟨rfl, rfl, rfl⟩

set_option maxHeartbeats 400000 in
theorem pages_any (l : List Run) (A : Option Addr) (c : Nat) (w : World) (hs : Small l) (hl : RunsC w A l) :
    Calls Try.prog 64 #[.slice A l.length c] w fun e w' => e = .returned (.int .i64 (pagesL l)) ∧ Below w.heap.size w w' := by
  have hlen := hs.1
  go_enter Try.func64, Try.ntmps64
  go_wp2_with fail
  go_loopw [3, 8] (fun n i wr => ∃ k : Nat, k ≤ l.length ∧ i = .int .i64 k ∧ n = .int .i64 (pagesL (l.take k)) ∧ Below w.heap.size w wr) (fun _ i _ => l.length - (intOf i).toNat)
  case atStart => exact ⟨0, by omega, by simp, by simp [pagesL], Below.refl _ _⟩
  case round =>
    obtain ⟨k, hk, rfl, rfl, hB⟩ := hrel
    have hb := pagesL_take_bound l hs k
    by_cases hlt : k < l.length
    · obtain ⟨b, o, rfl, h0, h1⟩ := (hl.below hB) k hlt
      have hm := hs.2 l[k] (by simp)
      have hs1 := Lib.hid (pagesL_take_succ l k hlt)
      go_wp2_with fail
      go_roundw
      case rel => exact ⟨k + 1, by omega, by go_num, by rw [hs1.out], below_alloc hB _⟩
      case measure => simp [intOf]; omega
    · obtain rfl : k = l.length := by omega
      go_wp2_with fail
      go_ret
      exact ⟨by simp, hB⟩

theorem all_take_succ {l : List Run} {k : Nat} (h : k < l.length) (h1 : (l.take k).all okRun = true) (h2 : okRun l[k] = true) : (l.take (k + 1)).all okRun = true := by
  rw [List.take_succ_eq_append_getElem h, List.all_append, h1]; simp [h2]

theorem mustE_bad {l : List Run} (h2 : ¬ 2000 < l.length) {k : Nat} (h : k < l.length) (hr : ¬ okRun l[k] = true) : mustE l = 1 := by
  have : validL l = false := by
    unfold validL
    have : l.all okRun = false := by
      rw [List.all_eq_false]; exact ⟨l[k], List.getElem_mem h, by simpa using hr⟩
    simp [this]
  simp [mustE, h2, this]

theorem small_of_ok {l : List Run} (h2 : ¬ 2000 < l.length) (h : l.all okRun = true) : Small l := by
  refine ⟨by omega, fun r hr => ?_⟩
  have := (okRun_iff r).1 (List.all_eq_true.1 h r hr)
  omega

set_option maxHeartbeats 1000000 in
theorem must_any (l : List Run) (A : Option Addr) (c : Nat) (w : World) (hlen : l.length ≤ 1099511627776) (hl : RunsC w A l) :
    Calls Try.prog 62 #[.slice A l.length c] w (NeedPost 127 (mustE l) w) := by
  by_cases h2 : 2000 < l.length
  · have hd : decide ((l.length : Int) ≤ 2000) = false := by simp; omega
    have hm : mustE l = 2 := by simp [mustE, h2]
    rw [hm]
    go_enter Try.func62, Try.ntmps62
    go_wp2_with (go_at_call 63; ((with_reducible first | refine (rneed_yes _ _).mono ?_ | refine (rneed_no _ _).mono ?_); rintro e w' ⟨rfl, rfl⟩))
    exact ⟨rfl, .inr ⟨by simp, rfl⟩, Below.refl _ _⟩
  · have hd : decide ((l.length : Int) ≤ 2000) = true := by simp; omega
    go_enter Try.func62, Try.ntmps62
    go_wp2_with (go_at_call 63; ((with_reducible first | refine (rneed_yes _ _).mono ?_ | refine (rneed_no _ _).mono ?_); rintro e w' ⟨rfl, rfl⟩))
    go_loopw [10] (fun i wr => ∃ k : Nat, k ≤ l.length ∧ i = .int .i64 k ∧ (l.take k).all okRun = true ∧ Below w.heap.size w wr) (fun i _ => l.length - (intOf i).toNat)
    case atStart => exact ⟨0, by omega, by simp, by simp, Below.refl _ _⟩
    case round =>
      obtain ⟨k, hk, rfl, hok, hB⟩ := hrel
      by_cases hlt : k < l.length
      · have Hok := Lib.hid hok; clear hok
        obtain ⟨b, o, rfl, h0, h1⟩ := (hl.below hB) k hlt
        by_cases hr : okRun l[k] = true
        · have hr' := (okRun_iff _).1 hr
          obtain ⟨r1, r2, r3, r4⟩ := hr'
          have Hr := Lib.hid hr; clear hr
          by_cases ht : l[k].to = -1
          · have ht' : (l[k].to == -1) = true := by simp [ht]
            clear ht r4
            go_wp2_with (go_at_call 63; ((with_reducible first | refine (rneed_yes _ _).mono ?_ | refine (rneed_no _ _).mono ?_); rintro e w' ⟨rfl, rfl⟩))
            go_roundw
            case rel => exact ⟨k + 1, by omega, by go_num, all_take_succ hlt Hok.out Hr.out, below_alloc hB _⟩
            case measure => simp [intOf]; omega
          · have ht' : (l[k].to == -1) = false := by simp [ht]
            have r4' : decide (l[k].to ≤ 1073741824 - l[k].many) = true := by simp; omega
            clear ht r4
            go_wp2_with (go_at_call 63; ((with_reducible first | refine (rneed_yes _ _).mono ?_ | refine (rneed_no _ _).mono ?_); rintro e w' ⟨rfl, rfl⟩))
            go_roundw
            case rel => exact ⟨k + 1, by omega, by go_num, all_take_succ hlt Hok.out Hr.out, below_alloc hB _⟩
            case measure => simp [intOf]; omega
        · have hm := Lib.hid (mustE_bad h2 hlt hr)
          have hn := Lib.hid (fun h => hr ((okRun_iff _).2 h)); clear hr
          by_cases r1 : 1 ≤ l[k].many
          · by_cases r2 : l[k].many ≤ 1073741824
            · by_cases r3 : -1 ≤ l[k].to
              · have ht' : (l[k].to == -1) = false := by simp; intro h; exact hn.out ⟨r1, r2, r3, .inl h⟩
                have r4' : decide (l[k].to ≤ 1073741824 - l[k].many) = false := by simp; have := hn.out; have : ¬ (l[k].to ≤ 1073741824 - l[k].many) := fun h => this ⟨r1, r2, r3, .inr h⟩; omega
                go_wp2_with (go_at_call 63; ((with_reducible first | refine (rneed_yes _ _).mono ?_ | refine (rneed_no _ _).mono ?_); rintro e w' ⟨rfl, rfl⟩))
                exact ⟨rfl, by rw [hm.out]; exact .inr ⟨by simp, rfl⟩, below_alloc hB _⟩
              · have r3' : decide (-1 ≤ l[k].to) = false := by simpa using r3
                go_wp2_with (go_at_call 63; ((with_reducible first | refine (rneed_yes _ _).mono ?_ | refine (rneed_no _ _).mono ?_); rintro e w' ⟨rfl, rfl⟩))
                exact ⟨rfl, by rw [hm.out]; exact .inr ⟨by simp, rfl⟩, below_alloc hB _⟩
            · have r2' : decide (l[k].many ≤ 1073741824) = false := by simpa using r2
              go_wp2_with (go_at_call 63; ((with_reducible first | refine (rneed_yes _ _).mono ?_ | refine (rneed_no _ _).mono ?_); rintro e w' ⟨rfl, rfl⟩))
              exact ⟨rfl, by rw [hm.out]; exact .inr ⟨by simp, rfl⟩, below_alloc hB _⟩
          · have r1' : decide (1 ≤ l[k].many) = false := by simpa using r1
            go_wp2_with (go_at_call 63; ((with_reducible first | refine (rneed_yes _ _).mono ?_ | refine (rneed_no _ _).mono ?_); rintro e w' ⟨rfl, rfl⟩))
            exact ⟨rfl, by rw [hm.out]; exact .inr ⟨by simp, rfl⟩, below_alloc hB _⟩
      · obtain rfl : k = l.length := by omega
        rw [List.take_length] at hok
        have hs := small_of_ok h2 hok
        by_cases hp : pagesL l ≤ 1073741824
        · have hm := Lib.hid (show mustE l = 0 by simp [mustE, h2, validL, hok, hp])
          have hp' : decide (pagesL l ≤ 1073741824) = true := by simpa using hp
          clear hok
          go_wp2_with (first | (go_at_call 64; refine (pages_any l _ _ _ hs (hl.below hB)).mono ?_; rintro e w' ⟨rfl, hB2⟩) | (go_at_call 63; ((with_reducible first | refine (rneed_yes _ _).mono ?_ | refine (rneed_no _ _).mono ?_); rintro e w' ⟨rfl, rfl⟩)))
          go_end0
          exact ⟨.inl ⟨hm.out, rfl⟩, below_then hB hB2⟩
        · have hm := Lib.hid (show mustE l = 1 by simp [mustE, h2, validL, hok, hp])
          have hp' : decide (pagesL l ≤ 1073741824) = false := by simpa using hp
          clear hok
          go_wp2_with (first | (go_at_call 64; refine (pages_any l _ _ _ hs (hl.below hB)).mono ?_; rintro e w' ⟨rfl, hB2⟩) | (go_at_call 63; ((with_reducible first | refine (rneed_yes _ _).mono ?_ | refine (rneed_no _ _).mono ?_); rintro e w' ⟨rfl, rfl⟩)))
          exact ⟨rfl, by rw [hm.out]; exact .inr ⟨by simp, rfl⟩, below_then hB hB2⟩
end Go.Proofs.Yteipclnlfanfeaa

/- runs: joiner, joined. -/
namespace Go.Proofs.Yteipclnlfanfeaa
open Go.RowKit

theorem info52 : (Try.prog.info? 52).map (fun i => (i.zero, i.size, i.bytes)) = some (some (.agg #[.int .i64 0, .int .i64 0]), 2, 16) := by kernel_rfl

def AddPost (w : World) (b : Nat) (l : List Run) (r : Run) (e : Ending) (w' : World) : Prop :=
  e = .returned (.tuple #[]) ∧ JB w' b (addN l r) ∧ Below b w w' ∧ KeepB b w w'

set_option maxRecDepth 100000 in
set_option maxHeartbeats 1000000 in
theorem add_zero (b : Nat) (l : List Run) (r : Run) (w : World) (hJ : JB w b l) (hr : r.many = 0) :
    Calls Try.prog 94 #[.agg #[.int .i64 r.to, .int .i64 r.many], .pointer (some ⟨b, 0, none⟩)] w (AddPost w b l r) := by
  have hz : (r.many == 0) = true := by simp [hr]
  have hz' : decide (r.many = 0) = true := by simp [hr]
  have ha : addN l r = l := by simp [addN, hr]
  have Ha := Lib.hid ha; clear ha hr
  go_enter Try.func94, Try.ntmps94
  go_wp2_with fail
  refine bodyPost_ret (results_none rfl _ _ _) rfl ?_
  obtain ⟨v, h1, h2⟩ := hJ
  have hB := below_alloc (Below.refl _ w) (.cells #[.int .i64 r.to, .int .i64 r.many] 52)
  exact ⟨rfl, by rw [Ha.out]; exact ⟨v, heap_alloc_old' h1 _, h2.alloc _⟩, hB.mono (by have := lt_of_block h1; omega), .of_below (lt_of_block h1) hB⟩

/-- behind the append: the box is written -/
theorem add_done {w w2 w' : World} {b : Nat} {l : List Run} {r : Run} {v v' : Value}
    (h1 : w.heap[b]? = some (.cells #[v] 44 (0, 0))) (h2 : w.ownsRow (b + 1) 52 2 v l.length (flatR l)) (hB : Below w.heap.size w w2)
    (hown : w'.ownsRow (b + 1) 52 2 v' (l.length + 1) (flatR l ++ vR r))
    (hg : w2.grownBy w' v.ownBlock) (hf : ∀ g, v'.ownBlock = some g → v.ownBlock = some g ∨ w.heap.size ≤ g) :
    w'.cell? ⟨b, 0, none⟩ = some v ∧ w'.frozen? ⟨b, 0, none⟩ = false ∧
    JB (w'.setCell ⟨b, 0, none⟩ v') b (l ++ [r]) ∧ (Below b w (w'.setCell ⟨b, 0, none⟩ v') ∧ KeepB b w (w'.setCell ⟨b, 0, none⟩ v')) := by
  have hb := lt_of_block h1
  have hne : ∀ g, v.ownBlock = some g → b < g := fun g hg => by have := (h2.lt g hg).1; omega
  have h3 : w'.heap[b]? = some (.cells #[v] 44 (0, 0)) := by
    rw [hg.block b (by have := hB.size; omega) (fun e => by have := hne b e.symm; omega)]
    exact block_below h1 hB
  refine ⟨cell_of_one h3, free_of_one h3, ⟨v', one_setCell h3, ?_⟩, ?_⟩
  · rw [flatR_append]
    have := ownsRow_setCell_below hown (a := ⟨b, 0, none⟩) (by simp) v'
    simpa [flatR, vR] using this
  · have h4 : w2.heap[b]? = some (.cells #[v] 44 (0, 0)) := block_below h1 hB
    have hnb : v.ownBlock ≠ some b := fun e => by have := hne b e; omega
    have hbb : Below b w w' := (hB.mono (Nat.le_of_lt hb)).grown hg (by have := hB.size; omega) (fun k e => by have := hne k e; omega)
    refine ⟨hbb.setCell (p := ⟨b, 0, none⟩) (Nat.le_refl b) _, ?_⟩
    have hK1 : KeepB b w w' := (KeepB.of_below hb hB).trans (.grown h4 hg hnb)
    refine ⟨by rw [World.size_setCell]; exact hK1.1, fun k o hk hx => ?_⟩
    obtain ⟨q1, q2⟩ := hK1.2 k o hk hx
    exact KeepB.setBox h3 w.heap.size (fun g e => hf g e) k o (lt_of_block hk) q1 q2

set_option maxRecDepth 100000 in
set_option maxHeartbeats 1000000 in
theorem add_nil (b : Nat) (r : Run) (w : World) (hJ : JB w b []) (hr : r.many ≠ 0) :
    Calls Try.prog 94 #[.agg #[.int .i64 r.to, .int .i64 r.many], .pointer (some ⟨b, 0, none⟩)] w (AddPost w b [] r) := by
  obtain ⟨v, h1, h2⟩ := hJ
  obtain ⟨A, c, rfl⟩ := ownsRow_shape h2
  have hz : (r.many == 0) = false := by simp [hr]
  have hc := cell_of_one (h1)
  have hb : b < w.heap.size := lt_of_block h1
  have hf := free_of_one h1
  obtain ⟨i0, hi, hz0, hz1, hz2⟩ := info_parts info52
  have ha : addN [] r = [r] := by simp [addN, hr]
  have Ha := Lib.hid ha; clear ha
  have H2 := Lib.hid h2; clear h2
  have H1 := Lib.hid h1; clear h1
  have Hr := Lib.hid hr; clear hr
  go_enter Try.func94, Try.ntmps94
  go_wp2_with ((at_builtin; refine wpList_append_one _ rfl _ _ 44 rfl (b + 1) 52 i0 (.agg #[.int .i64 0, .int .i64 0]) 2 16 Try.underlying44 hi hz0 hz1 hz2 rfl (by decide) _ _ _ rfl (ownsRow_below H2.out ?c0) ⟨w.heap.size + 1, 0, none⟩ 1 [.int .i64 r.to, .int .i64 r.many] rfl rfl ?c1 ?c2 ?c3 ?c4 ?c5 ?_))
  case c0 => repeat (first | exact Below.refl _ _ | refine below_alloc ?_ _ | refine below_dr ?_ _)
  case c1 =>
    intro j u hu
    rcases j with _ | _ | j <;> simp [Addr.add] at hu ⊢ <;> go_simp <;> simp_all
  case c2 => simp [Value.oneCell']
  case c3 => first | (simp [maxLen]; done) | (unfold maxLen; omega)
  case c4 => first | (simp; done) | omega
  case c5 => simp; omega
  intro g' c' w1 hown hg hf0
  obtain ⟨hc1, hf1, hJ1, hK1⟩ := add_done (r := r) H1.out H2.out (by repeat (first | exact Below.refl _ _ | refine below_alloc ?_ _ | refine below_dr ?_ _)) hown hg (fun g e => by cases e; rcases hf0 with h | h; exact .inl h; exact .inr (by dsimp only; first | omega | (simp at h; omega)))
  have HJ := Lib.hid hJ1; clear hJ1
  have HK := Lib.hid hK1; clear hK1 hf0
  clear hown hg
  go_wp2_with fail
  go_end0
  exact ⟨rfl, by rw [Ha.out]; exact HJ.out, HK.out.1, HK.out.2⟩

def joinsB (x r : Run) : Bool := (decide (r.to = -1) && decide (x.to = -1)) || (decide (r.to ≠ -1) && decide (x.to ≠ -1) && decide (r.to = x.to + x.many))

theorem addN_app {l : List Run} {r : Run} (h : l ≠ []) (hr : r.many ≠ 0) (hj : joinsB (l.getLast h) r = false) : addN l r = l ++ [r] := by
  simp only [addN, hr, if_false, List.getLast?_eq_some_getLast h]
  rw [if_neg]; simp [joinsB] at hj; intro hc; rcases hc with ⟨a, b⟩ | ⟨a, b, c⟩
  · exact hj.1 a b
  · exact hj.2 a b c
theorem addN_join {l : List Run} {r : Run} (h : l ≠ []) (hr : r.many ≠ 0) (hj : joinsB (l.getLast h) r = true) : addN l r = l.dropLast ++ [⟨(l.getLast h).to, (l.getLast h).many + r.many⟩] := by
  simp only [addN, hr, if_false, List.getLast?_eq_some_getLast h]
  rw [if_pos]; simp [joinsB] at hj; rcases hj with ⟨a, b⟩ | ⟨⟨a, b⟩, c⟩
  · exact .inl ⟨a, b⟩
  · exact .inr ⟨a, b, c⟩

set_option maxRecDepth 100000 in
set_option maxHeartbeats 2000000 in
theorem add_app (b : Nat) (l : List Run) (r : Run) (w : World) (hJ : JB w b l) (hr : r.many ≠ 0) (hl : Fair l) (hr0 : -1 ≤ r.to ∧ r.to ≤ 1125899906842624 ∧ 0 ≤ r.many ∧ r.many ≤ 1099511627776)
    (hne : l ≠ []) (hj : joinsB (l.getLast hne) r = false) :
    Calls Try.prog 94 #[.agg #[.int .i64 r.to, .int .i64 r.many], .pointer (some ⟨b, 0, none⟩)] w (AddPost w b l r) := by
  obtain ⟨v, h1, h2⟩ := hJ
  have hpos : 0 < l.length := List.length_pos_iff.2 hne
  have hlen : l.length ≤ 1048576 := hl.2.2
  obtain ⟨g, c, rfl⟩ : ∃ g c, v = .slice (some ⟨g, 0, none⟩) l.length c := by
    rcases h2.2 with ⟨rfl, h⟩ | ⟨g, cap, cur, rfl, _⟩
    · omega
    · exact ⟨_, _, rfl⟩
  have hg0 : w.cell? ⟨g, (l.length - 1) * 2, none⟩ = some (.int .i64 (l.getLast hne).to) := by
    rw [h2.cellAt _ (by omega), List.getLast_eq_getElem]; exact (flatR_get l _ (by omega)).1
  have hg1 : w.cell? ⟨g, (l.length - 1) * 2 + 1, none⟩ = some (.int .i64 (l.getLast hne).many) := by
    rw [h2.cellAt _ (by omega), List.getLast_eq_getElem]; exact (flatR_get l _ (by omega)).2
  have hm := hl.many (List.getLast_mem hne)
  have ht := hl.1 _ (List.getLast_mem hne)
  have hz : (r.many == 0) = false := by simp [hr]
  have hc := cell_of_one (h1)
  have hb : b < w.heap.size := lt_of_block h1
  have hgl : g < w.heap.size := World.block_lt_of_cell? w ⟨g, _, none⟩ hg0
  have hf := free_of_one h1
  obtain ⟨i0, hi, hz0, hz1, hz2⟩ := info_parts info52
  have ha := addN_app hne hr hj
  have Ha := Lib.hid ha; clear ha
  have H2 := Lib.hid h2; clear h2
  have H1 := Lib.hid h1; clear h1
  have Hr := Lib.hid hr; clear hr
  have Hj := Lib.hid hj; clear hj
  have hsub : 0 ≤ (l.length : Int) - 1 := by omega
  by_cases k1 : r.to = -1
  · have e1 : (r.to == -1) = true := by simp [k1]
    have e1' : (r.to != -1) = false := by simp [k1]
    have k2 : (l.getLast hne).to ≠ -1 := fun h => by have := Hj.out; simp [joinsB, k1, h] at this
    have e2 : ((l.getLast hne).to == -1) = false := by simp [k2]
    have e2' : ((l.getLast hne).to != -1) = true := by simp [k2]
    clear k1 k2
    go_enter Try.func94, Try.ntmps94
    go_wp2_with fail
    go_quiet (fail)
    go_wp2_with ((at_builtin; refine wpList_append_one _ rfl _ _ 44 rfl (b + 1) 52 i0 (.agg #[.int .i64 0, .int .i64 0]) 2 16 Try.underlying44 hi hz0 hz1 hz2 rfl (by decide) _ _ _ rfl (ownsRow_below H2.out ?c0) ⟨w.heap.size + 1, 0, none⟩ 1 [.int .i64 r.to, .int .i64 r.many] rfl rfl ?c1 ?c2 ?c3 ?c4 ?c5 ?_))
    case c0 => repeat (first | exact Below.refl _ _ | refine below_alloc ?_ _ | refine below_dr ?_ _)
    case c1 =>
      intro j u hu
      rcases j with _ | _ | j <;> simp [Addr.add] at hu ⊢ <;> go_simp <;> simp_all
    case c2 => simp [Value.oneCell']
    case c3 => first | (simp [maxLen]; done) | (unfold maxLen; omega)
    case c4 => first | (simp; done) | omega
    case c5 => simp; omega
    intro g' c' w1 hown hg hf0
    obtain ⟨hc1, hf1, hJ1, hK1⟩ := add_done (r := r) H1.out H2.out (by repeat (first | exact Below.refl _ _ | refine below_alloc ?_ _ | refine below_dr ?_ _)) hown hg (fun g e => by cases e; rcases hf0 with h | h; exact .inl h; exact .inr (by dsimp only; first | omega | (simp at h; omega)))
    have HJ := Lib.hid hJ1; clear hJ1
    have HK := Lib.hid hK1; clear hK1 hf0
    clear hown hg
    go_wp2_with fail
    go_end0
    exact ⟨rfl, by rw [Ha.out]; exact HJ.out, HK.out.1, HK.out.2⟩
  · have e1 : (r.to == -1) = false := by simp [k1]
    have e1' : (r.to != -1) = true := by simp [k1]
    by_cases k2 : (l.getLast hne).to = -1
    · have e2 : ((l.getLast hne).to == -1) = true := by simp [k2]
      have e2' : ((l.getLast hne).to != -1) = false := by simp [k2]
      clear k1 k2
      go_enter Try.func94, Try.ntmps94
      go_wp2_with fail
      go_quiet (fail)
      go_wp2_with ((at_builtin; refine wpList_append_one _ rfl _ _ 44 rfl (b + 1) 52 i0 (.agg #[.int .i64 0, .int .i64 0]) 2 16 Try.underlying44 hi hz0 hz1 hz2 rfl (by decide) _ _ _ rfl (ownsRow_below H2.out ?c0) ⟨w.heap.size + 1, 0, none⟩ 1 [.int .i64 r.to, .int .i64 r.many] rfl rfl ?c1 ?c2 ?c3 ?c4 ?c5 ?_))
      case c0 => repeat (first | exact Below.refl _ _ | refine below_alloc ?_ _ | refine below_dr ?_ _)
      case c1 =>
        intro j u hu
        rcases j with _ | _ | j <;> simp [Addr.add] at hu ⊢ <;> go_simp <;> simp_all
      case c2 => simp [Value.oneCell']
      case c3 => first | (simp [maxLen]; done) | (unfold maxLen; omega)
      case c4 => first | (simp; done) | omega
      case c5 => simp; omega
      intro g' c' w1 hown hg hf0
      obtain ⟨hc1, hf1, hJ1, hK1⟩ := add_done (r := r) H1.out H2.out (by repeat (first | exact Below.refl _ _ | refine below_alloc ?_ _ | refine below_dr ?_ _)) hown hg (fun g e => by cases e; rcases hf0 with h | h; exact .inl h; exact .inr (by dsimp only; first | omega | (simp at h; omega)))
      have HJ := Lib.hid hJ1; clear hJ1
      have HK := Lib.hid hK1; clear hK1 hf0
      clear hown hg
      go_wp2_with fail
      go_end0
      exact ⟨rfl, by rw [Ha.out]; exact HJ.out, HK.out.1, HK.out.2⟩
    · have e2 : ((l.getLast hne).to == -1) = false := by simp [k2]
      have e2' : ((l.getLast hne).to != -1) = true := by simp [k2]
      have k3 : ¬ r.to = (l.getLast hne).to + (l.getLast hne).many := fun h => by have := Hj.out; simp [joinsB, k1, k2] at this; exact this h
      have e3 : (r.to == (l.getLast hne).to + (l.getLast hne).many) = false := by simp [k3]
      clear k1 k2 k3
      go_enter Try.func94, Try.ntmps94
      go_wp2_with fail
      go_quiet (fail)
      go_wp2_with ((at_builtin; refine wpList_append_one _ rfl _ _ 44 rfl (b + 1) 52 i0 (.agg #[.int .i64 0, .int .i64 0]) 2 16 Try.underlying44 hi hz0 hz1 hz2 rfl (by decide) _ _ _ rfl (ownsRow_below H2.out ?c0) ⟨w.heap.size + 1, 0, none⟩ 1 [.int .i64 r.to, .int .i64 r.many] rfl rfl ?c1 ?c2 ?c3 ?c4 ?c5 ?_))
      case c0 => repeat (first | exact Below.refl _ _ | refine below_alloc ?_ _ | refine below_dr ?_ _)
      case c1 =>
        intro j u hu
        rcases j with _ | _ | j <;> simp [Addr.add] at hu ⊢ <;> go_simp <;> simp_all
      case c2 => simp [Value.oneCell']
      case c3 => first | (simp [maxLen]; done) | (unfold maxLen; omega)
      case c4 => first | (simp; done) | omega
      case c5 => simp; omega
      intro g' c' w1 hown hg hf0
      obtain ⟨hc1, hf1, hJ1, hK1⟩ := add_done (r := r) H1.out H2.out (by repeat (first | exact Below.refl _ _ | refine below_alloc ?_ _ | refine below_dr ?_ _)) hown hg (fun g e => by cases e; rcases hf0 with h | h; exact .inl h; exact .inr (by dsimp only; first | omega | (simp at h; omega)))
      have HJ := Lib.hid hJ1; clear hJ1
      have HK := Lib.hid hK1; clear hK1 hf0
      clear hown hg
      go_wp2_with fail
      go_end0
      exact ⟨rfl, by rw [Ha.out]; exact HJ.out, HK.out.1, HK.out.2⟩

/-- the last run of the row is written -/
theorem flatR_set_last {l : List Run} (hne : l ≠ []) (m : Int) : flatR (l.dropLast ++ [⟨(l.getLast hne).to, m⟩]) = (flatR l).set ((l.length - 1) * 2 + 1) (.int .i64 m) := by
  have h : l = l.dropLast ++ [l.getLast hne] := (List.dropLast_concat_getLast hne).symm
  have hlen : (flatR l.dropLast).length = (l.length - 1) * 2 := by rw [flatR_length]; simp
  conv => rhs; rw [h, flatR_append]
  rw [flatR_append, List.set_append_right _ _ (by rw [hlen]; simp), hlen]
  simp [flatR]

theorem join_done {w w2 : World} {b g c : Nat} {l : List Run} {r : Run} (hne : l ≠ [])
    (h1 : w.heap[b]? = some (.cells #[.slice (some ⟨g, 0, none⟩) l.length c] 44 (0, 0))) (h2 : w.ownsRow (b + 1) 52 2 (.slice (some ⟨g, 0, none⟩) l.length c) l.length (flatR l)) (hB : Below w.heap.size w w2) :
    JB (w2.setCell ⟨g, (l.length - 1) * 2 + 1, none⟩ (.int .i64 ((l.getLast hne).many + r.many))) b (l.dropLast ++ [⟨(l.getLast hne).to, (l.getLast hne).many + r.many⟩]) ∧
    Below b w (w2.setCell ⟨g, (l.length - 1) * 2 + 1, none⟩ (.int .i64 ((l.getLast hne).many + r.many))) ∧ KeepB b w (w2.setCell ⟨g, (l.length - 1) * 2 + 1, none⟩ (.int .i64 ((l.getLast hne).many + r.many))) := by
  have hb := lt_of_block h1
  have hpos : 0 < l.length := List.length_pos_iff.2 hne
  have hgb : b < g := by have := (h2.lt g rfl).1; omega
  have h3 := ownsRow_below h2 hB
  have hlen : (l.dropLast ++ [(⟨(l.getLast hne).to, (l.getLast hne).many + r.many⟩ : Run)]).length = l.length := by simp; omega
  have hg2 := (h3.stored ((l.length - 1) * 2 + 1) (.int .i64 ((l.getLast hne).many + r.many))).2
  refine ⟨⟨.slice (some ⟨g, 0, none⟩) l.length c, ?_, ?_⟩, ?_, ?_⟩
  · rw [Below.heap_setCell _ _ _ _ (by simp; omega)]; exact block_below h1 hB
  · rw [hlen, flatR_set_last]
    exact (h3.stored _ _).1
  · exact (hB.mono (by omega)).grown hg2 (by have := hB.size; omega) (fun k e => by cases e; (try dsimp only); first | omega | exact Nat.le_of_lt hgb)
  · exact (KeepB.of_below hb hB).trans (.grown (block_below h1 hB) hg2 (fun e => Nat.ne_of_gt hgb (by injection e)))

set_option maxRecDepth 100000 in
set_option maxHeartbeats 2000000 in
theorem add_join (b : Nat) (l : List Run) (r : Run) (w : World) (hJ : JB w b l) (hr : r.many ≠ 0) (hl : Fair l) (hr0 : -1 ≤ r.to ∧ r.to ≤ 1125899906842624 ∧ 0 ≤ r.many ∧ r.many ≤ 1099511627776)
    (hne : l ≠ []) (hj : joinsB (l.getLast hne) r = true) :
    Calls Try.prog 94 #[.agg #[.int .i64 r.to, .int .i64 r.many], .pointer (some ⟨b, 0, none⟩)] w (AddPost w b l r) := by
  obtain ⟨v, h1, h2⟩ := hJ
  have hpos : 0 < l.length := List.length_pos_iff.2 hne
  have hlen : l.length ≤ 1048576 := hl.2.2
  obtain ⟨g, c, rfl⟩ : ∃ g c, v = .slice (some ⟨g, 0, none⟩) l.length c := by
    rcases h2.2 with ⟨rfl, h⟩ | ⟨g, cap, cur, rfl, _⟩
    · omega
    · exact ⟨_, _, rfl⟩
  have hg0 : w.cell? ⟨g, (l.length - 1) * 2, none⟩ = some (.int .i64 (l.getLast hne).to) := by
    rw [h2.cellAt _ (by omega), List.getLast_eq_getElem]; exact (flatR_get l _ (by omega)).1
  have hg1 : w.cell? ⟨g, (l.length - 1) * 2 + 1, none⟩ = some (.int .i64 (l.getLast hne).many) := by
    rw [h2.cellAt _ (by omega), List.getLast_eq_getElem]; exact (flatR_get l _ (by omega)).2
  have hgf := h2.frozenAt ((l.length - 1) * 2 + 1)
  have hm := hl.many (List.getLast_mem hne)
  have ht := hl.1 _ (List.getLast_mem hne)
  have hz : (r.many == 0) = false := by simp [hr]
  have hc := cell_of_one (h1)
  have hb : b < w.heap.size := lt_of_block h1
  have hgl : g < w.heap.size := World.block_lt_of_cell? w ⟨g, _, none⟩ hg0
  have hf := free_of_one h1
  have ha := addN_join hne hr hj
  have Ha := Lib.hid ha; clear ha
  have H2 := Lib.hid h2; clear h2
  have H1 := Lib.hid h1; clear h1
  have Hr := Lib.hid hr; clear hr
  have Hj := Lib.hid hj; clear hj
  have hsub : 0 ≤ (l.length : Int) - 1 := by omega
  by_cases k1 : r.to = -1
  · have e1 : (r.to == -1) = true := by simp [k1]
    have e1' : (r.to != -1) = false := by simp [k1]
    have k2 : (l.getLast hne).to = -1 := by have := Hj.out; simp [joinsB, k1] at this; exact this
    have e2 : ((l.getLast hne).to == -1) = true := by simp [k2]
    have e2' : ((l.getLast hne).to != -1) = false := by simp [k2]
    clear k1 k2
    go_enter Try.func94, Try.ntmps94
    go_wp2_with fail
    go_quiet (fail)
    go_wp2_with fail
    go_region
    go_wp2_with fail
    refine bodyPost_ret (results_none rfl _ _ _) rfl ?_
    obtain ⟨q1, q2, q3⟩ := join_done (r := r) hne H1.out H2.out (w2 := ((w.alloc (.cells #[.int .i64 r.to, .int .i64 r.many] 52)).drewN (nq + 1))) (by repeat (first | exact Below.refl _ _ | refine below_alloc ?_ _ | refine below_dr ?_ _))
    exact ⟨rfl, by rw [Ha.out]; exact q1, q2, q3⟩
  · have e1 : (r.to == -1) = false := by simp [k1]
    have e1' : (r.to != -1) = true := by simp [k1]
    have k2 : ¬ (l.getLast hne).to = -1 := fun h => by have := Hj.out; simp [joinsB, k1, h] at this
    have e2 : ((l.getLast hne).to == -1) = false := by simp [k2]
    have e2' : ((l.getLast hne).to != -1) = true := by simp [k2]
    have k3 : r.to = (l.getLast hne).to + (l.getLast hne).many := by have := Hj.out; simp [joinsB, k1, k2] at this; exact this
    have e3 : (r.to == (l.getLast hne).to + (l.getLast hne).many) = true := by simp [k3]
    clear k1 k2 k3
    go_enter Try.func94, Try.ntmps94
    go_wp2_with fail
    go_quiet (fail)
    go_wp2_with fail
    go_region
    go_wp2_with fail
    refine bodyPost_ret (results_none rfl _ _ _) rfl ?_
    obtain ⟨q1, q2, q3⟩ := join_done (r := r) hne H1.out H2.out (w2 := ((w.alloc (.cells #[.int .i64 r.to, .int .i64 r.many] 52)).drewN (nq + 1))) (by repeat (first | exact Below.refl _ _ | refine below_alloc ?_ _ | refine below_dr ?_ _))
    exact ⟨rfl, by rw [Ha.out]; exact q1, q2, q3⟩

theorem add_any (b : Nat) (l : List Run) (r : Run) (w : World) (hJ : JB w b l) (hl : Fair l) (hr0 : -1 ≤ r.to ∧ r.to ≤ 1125899906842624 ∧ 0 ≤ r.many ∧ r.many ≤ 1099511627776) :
    Calls Try.prog 94 #[.agg #[.int .i64 r.to, .int .i64 r.many], .pointer (some ⟨b, 0, none⟩)] w (AddPost w b l r) := by
  by_cases hr : r.many = 0
  · exact add_zero b l r w hJ hr
  by_cases hne : l = []
  · subst hne; exact add_nil b r w hJ hr
  by_cases hj : joinsB (l.getLast hne) r = true
  · exact add_join b l r w hJ hr hl hr0 hne hj
  · exact add_app b l r w hJ hr hl hr0 hne (by simpa using hj)

theorem pages_addN (l : List Run) (r : Run) : pagesL (addN l r) = pagesL l + r.many := by
  unfold addN
  split
  · omega
  · cases h : l.getLast? with
    | none => rw [List.getLast?_eq_none_iff] at h; subst h; simp [pagesL]
    | some x =>
      obtain ⟨l', rfl⟩ : ∃ l', l = l' ++ [x] := by
        have hne : l ≠ [] := by rintro rfl; simp at h
        exact ⟨l.dropLast, by rw [List.getLast?_eq_some_getLast hne] at h; cases h; exact (List.dropLast_concat_getLast hne).symm⟩
      dsimp only
      split <;> simp [pagesL_append, pagesL] <;> omega

theorem length_addN (l : List Run) (r : Run) : (addN l r).length ≤ l.length + 1 := by
  unfold addN
  split
  · omega
  · cases h : l.getLast? with
    | none => simp
    | some x => dsimp only; split <;> simp <;> omega

theorem mem_addN {l : List Run} {r x : Run} (h : x ∈ addN l r) (P : Int → Prop) (hl : ∀ y ∈ l, P y.to) (hr : P r.to) : P x.to := by
  unfold addN at h
  split at h
  · exact hl x h
  · cases h1 : l.getLast? with
    | none => rw [h1] at h; simp at h; subst h; exact hr
    | some y =>
      have hy : y ∈ l := List.mem_of_getLast? h1
      rw [h1] at h; dsimp only at h
      split at h
      · simp at h
        rcases h with h | rfl
        · exact hl x ((List.dropLast_sublist l).subset h)
        · exact hl y hy
      · simp at h
        rcases h with h | rfl
        · exact hl x h
        · exact hr

theorem many_addN {l : List Run} {r x : Run} (h : x ∈ addN l r) (hl : ∀ y ∈ l, 0 ≤ y.many) (hr : 0 ≤ r.many) : 0 ≤ x.many := by
  unfold addN at h
  split at h
  · exact hl x h
  · cases h1 : l.getLast? with
    | none => rw [h1] at h; simp at h; subst h; exact hr
    | some y =>
      have hy := hl y (List.mem_of_getLast? h1)
      rw [h1] at h; dsimp only at h
      split at h
      · simp at h
        rcases h with h | rfl
        · exact hl x ((List.dropLast_sublist l).subset h)
        · dsimp only; omega
      · simp at h
        rcases h with h | rfl
        · exact hl x h
        · exact hr

/-- adding keeps the numbers small -/
theorem Fair.addN {l : List Run} {r : Run} (hl : Fair l) (hr : -1 ≤ r.to ∧ r.to ≤ 1125899906842624 ∧ 0 ≤ r.many) (hp : pagesL l + r.many ≤ 2305843009213693952) (hn : l.length + 1 ≤ 1048576) : Fair (addN l r) := by
  refine ⟨fun x hx => ⟨mem_addN hx (fun t => -1 ≤ t) (fun y hy => (hl.1 y hy).1) hr.1, mem_addN hx (fun t => t ≤ 1125899906842624) (fun y hy => (hl.1 y hy).2.1) hr.2.1, many_addN hx (fun y hy => (hl.1 y hy).2.2) hr.2.2⟩, by rw [pages_addN]; exact hp, by have := length_addN l r; omega⟩

theorem Fair.nil : Fair [] := ⟨fun r h => by simp at h, by simp [pagesL], by simp⟩

theorem joiner_any (w : World) : Calls Try.prog 88 #[] w fun e w' => e = .returned (.tuple #[.func (.func 94) #[] #[.pointer (some ⟨w.heap.size, 0, none⟩)], .func (.func 95) #[] #[.pointer (some ⟨w.heap.size, 0, none⟩)]]) ∧ w' = w.alloc (.cells #[.slice none 0 0] 44) := by
  have hmf : ∀ (fn : Fn) (first cap : Array Value) (w : World), (Instr.makeFunc fn first cap).run Try.prog w = .ok (.func fn first cap) w := fun _ _ _ _ => rfl
  go_enter Try.func88, Try.ntmps88
  go_wp2_with fail
  go_ret2
  exact ⟨rfl, rfl⟩

theorem JB.new (w : World) : JB (w.alloc (.cells #[.slice none 0 0] 44)) w.heap.size [] :=
  ⟨.slice none 0 0, World.alloc_heap_new w _, by simpa [flatR] using World.ownsRow_nil _ _ 52 2⟩

theorem all_any (b : Nat) (l : List Run) (w : World) (hJ : JB w b l) : Calls Try.prog 95 #[.pointer (some ⟨b, 0, none⟩)] w fun e w' => w = w' ∧ ∃ v, e = .returned v ∧ w.ownsRow (b + 1) 52 2 v l.length (flatR l) := by
  obtain ⟨v, h1, h2⟩ := hJ
  obtain ⟨A, c, rfl⟩ := ownsRow_shape h2
  have hc := cell_of_one h1
  have H1 := Lib.hid h1; clear h1
  have H2 := Lib.hid h2; clear h2
  go_enter Try.func95, Try.ntmps95
  go_wp2_with fail
  go_ret
  exact ⟨rfl, _, rfl, H2.out⟩

end Go.Proofs.Yteipclnlfanfeaa

/- runs: joined, fits, starts. -/
namespace Go.Proofs.Yteipclnlfanfeaa
open Go.RowKit

/-- a list of runs that may be joined without a wrap -/
def FairIn (L : List Run) : Prop := (∀ r ∈ L, -1 ≤ r.to ∧ r.to ≤ 1099511627776 ∧ 0 ≤ r.many ∧ r.many ≤ 1099511627776) ∧ pagesL L ≤ 1125899906842624 ∧ L.length ≤ 1048000

theorem snoc_ind {α : Type} {P : List α → Prop} (h0 : P []) (h1 : ∀ l x, P l → P (l ++ [x])) (l : List α) : P l := by
  have : ∀ n (l : List α), l.length = n → P l := by
    intro n
    induction n with
    | zero => intro l hl; obtain rfl : l = [] := List.eq_nil_of_length_eq_zero hl; exact h0
    | succ n ih =>
      intro l hl
      have hne : l ≠ [] := by rintro rfl; simp at hl
      rw [← List.dropLast_concat_getLast hne]
      exact h1 _ _ (ih _ (by simp; omega))
  exact this _ l rfl

theorem normL_snoc (l : List Run) (r : Run) : normL (l ++ [r]) = addN (normL l) r := by simp [normL]
theorem normL_nil : normL [] = [] := rfl

theorem pages_normL (l : List Run) : pagesL (normL l) = pagesL l := by
  induction l using snoc_ind with
  | h0 => rfl
  | h1 l r ih => rw [normL_snoc, pages_addN, ih, pagesL_append]; simp [pagesL]

theorem length_normL (l : List Run) : (normL l).length ≤ l.length := by
  induction l using snoc_ind with
  | h0 => simp [normL]
  | h1 l r ih => rw [normL_snoc]; have := length_addN (normL l) r; simp; omega

theorem mem_normL {l : List Run} (P : Int → Prop) (hl : ∀ y ∈ l, P y.to) : ∀ x ∈ normL l, P x.to := by
  induction l using snoc_ind with
  | h0 => intro x hx; simp [normL] at hx
  | h1 l r ih =>
    intro x hx; rw [normL_snoc] at hx
    exact mem_addN hx P (ih (fun y hy => hl y (by simp [hy]))) (hl r (by simp))

theorem many_normL {l : List Run} (hl : ∀ y ∈ l, 0 ≤ y.many) : ∀ x ∈ normL l, 0 ≤ x.many := by
  induction l using snoc_ind with
  | h0 => intro x hx; simp [normL] at hx
  | h1 l r ih =>
    intro x hx; rw [normL_snoc] at hx
    exact many_addN hx (ih (fun y hy => hl y (by simp [hy]))) (hl r (by simp))

theorem FairIn.pfx {L P : List Run} (h : FairIn L) (hP : P <+: L) : FairIn P := by
  obtain ⟨S, rfl⟩ := hP
  have h1 : 0 ≤ pagesL S := pagesL_nonneg (fun r hr => (h.1 r (by simp [hr])).2.2.1)
  have h2 := h.2.1; rw [pagesL_append] at h2
  have h3 := h.2.2; simp at h3
  exact ⟨fun r hr => h.1 r (by simp [hr]), by omega, by omega⟩

theorem FairIn.norm {L : List Run} (h : FairIn L) : Fair (normL L) :=
  ⟨fun x hx => ⟨mem_normL (fun t => -1 ≤ t) (fun y hy => (h.1 y hy).1) x hx, mem_normL (fun t => t ≤ 1125899906842624) (fun y hy => by have := (h.1 y hy).2.1; omega) x hx, many_normL (fun y hy => (h.1 y hy).2.2.1) x hx⟩,
   by rw [pages_normL]; have := h.2.1; omega, by have := length_normL L; have := h.2.2; omega⟩

theorem normL_append (a b : List Run) : normL (a ++ b) = b.foldl addN (normL a) := by simp [normL]

/-- the cells of a slice of slices of runs -/
def RunsLL (w : World) (A : Option Addr) (ls : List (List Run)) : Prop :=
  ∀ k (h : k < ls.length), ∃ b o A' c', A = some ⟨b, o, none⟩ ∧ w.cell? ⟨b, o + k, none⟩ = some (.slice A' ls[k].length c') ∧ RunsC w A' ls[k]

theorem RunsLL.below {w w' : World} {A : Option Addr} {l : List (List Run)} (h : RunsLL w A l) (hB : Below w.heap.size w w') : RunsLL w' A l := by
  intro k hk
  obtain ⟨b, o, A', c', hA, h0, h1⟩ := h k hk
  exact ⟨b, o, A', c', hA, cell_below h0 hB, h1.below hB⟩

theorem RunsC.of_owns {w : World} {base : Nat} {A : Option Addr} {c : Nat} {l : List Run} (h : w.ownsRow base 52 2 (.slice A l.length c) l.length (flatR l)) : RunsC w A l := by
  intro k hk
  rcases h.2 with ⟨he, hn⟩ | ⟨g, cap, cur, he, _⟩
  · omega
  · cases he
    refine ⟨g, 0, rfl, ?_, ?_⟩
    · rw [Nat.zero_add, h.cellAt _ (by omega)]; exact (flatR_get l k hk).1
    · rw [Nat.zero_add, h.cellAt _ (by omega)]; exact (flatR_get l k hk).2

/-- a call returns a slice of its own with the runs l -/
def RetRuns (w : World) (l : List Run) (e : Ending) (w' : World) : Prop :=
  (∃ A c, e = .returned (.slice A l.length c) ∧ w'.ownsRow w.heap.size 52 2 (.slice A l.length c) l.length (flatR l)) ∧ Below w.heap.size w w'

theorem ownsRow_mono {w : World} {base base' : Nat} {e : TypeId} {size : Nat} {v : Value} {n : Nat} {xs : List Value} (h : w.ownsRow base e size v n xs) (hb : base' ≤ base) : w.ownsRow base' e size v n xs := by
  refine ⟨h.1, ?_⟩
  rcases h.2 with hn | ⟨g, cap, cur, rfl, hbg, rest⟩
  · exact .inl hn
  · exact .inr ⟨g, cap, cur, rfl, by omega, rest⟩

theorem prefix_flat (ls : List (List Run)) (k : Nat) (h : k < ls.length) (j : Nat) : (ls.take k).flatten ++ (ls[k].take j) <+: ls.flatten := by
  have h1 : ls = ls.take k ++ ls[k] :: ls.drop (k + 1) := by
    rw [← List.drop_eq_getElem_cons h, List.take_append_drop]
  conv => rhs; rw [h1]
  rw [List.flatten_append, List.flatten_cons]
  refine ⟨ls[k].drop j ++ (ls.drop (k + 1)).flatten, ?_⟩
  simp [← List.append_assoc]
  rw [List.append_assoc _ (ls[k].take j), List.take_append_drop]

set_option maxRecDepth 100000 in
set_option maxHeartbeats 2000000 in
theorem joined_any (ls : List (List Run)) (A : Option Addr) (c : Nat) (w : World) (hF : FairIn ls.flatten) (hn : ls.length ≤ 1048576) (hl : RunsLL w A ls) :
    Calls Try.prog 66 #[.slice A ls.length c] w (RetRuns w (normL ls.flatten)) := by
  have HF := Lib.hid hF; clear hF
  go_enter Try.func66, Try.ntmps66
  go_wp2_with (go_at_call 88; refine (joiner_any _).mono ?_; rintro e w' ⟨rfl, rfl⟩)
  obtain ⟨B, hBdef⟩ : ∃ B, w.heap.size = B := ⟨_, rfl⟩
  have HBd := Lib.hid hBdef
  have hJ0 := JB.new w
  rw [hBdef] at hJ0 ⊢
  have hb0 : Below B w (w.alloc (.cells #[.slice none 0 0] 44)) := (Below.refl _ _).alloc (by omega) _
  clear hBdef
  go_loopw [15] (fun i wr => ∃ k : Nat, k ≤ ls.length ∧ i = .int .i64 k ∧ JB wr B (normL (ls.take k).flatten) ∧ Below B w wr) (fun i _ => ls.length - (intOf i).toNat)
  case atStart => exact ⟨0, by omega, by simp, by simpa [normL] using hJ0, hb0⟩
  case round =>
    obtain ⟨k, hk, rfl, hJ, hB⟩ := hrel
    have hB' : Below w.heap.size w wr := by rw [HBd.out]; exact hB
    have HJ := Lib.hid hJ; clear hJ
    by_cases hlt : k < ls.length
    · obtain ⟨b, o, A', c', rfl, hw0, h1⟩ := hl k hlt
      have h0 := cell_below hw0 hB'
      have hlk : ls[k].length ≤ 1048000 := by
        have h1 := (HF.out.pfx (prefix_flat ls k hlt ls[k].length)).2.2
        rw [List.take_length] at h1; simp at h1; omega
      have hpre := Lib.hid (prefix_flat ls k hlt)
      clear hw0
      go_wp2_with fail
      obtain ⟨wo, rfl⟩ : ∃ wo : World, wo = wr := ⟨_, rfl⟩
      clear h0
      go_loopw [21] (fun i wr => ∃ j : Nat, j ≤ ls[k].length ∧ i = .int .i64 j ∧ JB wr B (normL ((ls.take k).flatten ++ ls[k].take j)) ∧ Below B w wr) (fun i _ => ls[k].length - (intOf i).toNat)
      case atStart => exact ⟨0, by omega, by simp, by simpa using HJ.out, hB⟩
      case round =>
        obtain ⟨j, hj, rfl, hJ2, hB2⟩ := hrel
        have hB2' : Below w.heap.size w wr := by rw [HBd.out]; exact hB2
        have HJ2 := Lib.hid hJ2; clear hJ2
        by_cases hlt2 : j < ls[k].length
        · obtain ⟨b2, o2, rfl, q0', q1'⟩ := h1 j hlt2
          have q0 := cell_below q0' hB2'
          have q1 := cell_below q1' hB2'
          clear q0' q1'
          have hr : -1 ≤ ls[k][j].to ∧ ls[k][j].to ≤ 1099511627776 ∧ 0 ≤ ls[k][j].many ∧ ls[k][j].many ≤ 1099511627776 :=
            (HF.out.pfx (hpre.out (j + 1))).1 _ (List.mem_append_right _ (by rw [List.take_succ_eq_append_getElem hlt2]; exact List.mem_append_right _ (List.mem_singleton.2 rfl)))
          have hfair := Lib.hid ((HF.out.pfx (hpre.out j)).norm)
          go_wp2_with (go_at_call 94; refine (add_any B _ ls[k][j] _ (by obtain ⟨v, j1, j2⟩ := HJ2.out; exact ⟨v, heap_alloc_old' j1 _, j2.alloc _⟩) hfair.out ⟨hr.1, by omega, hr.2.2⟩).mono ?_; rintro e w3 ⟨rfl, hJ3, hK3, _⟩; have HJ3 := Lib.hid hJ3; clear hJ3)
          go_roundw
          case rel =>
            refine ⟨j + 1, by omega, by go_num, ?_, ?_⟩
            · rw [List.take_succ_eq_append_getElem hlt2, ← List.append_assoc, normL_snoc]; exact HJ3.out
            · refine (hB2.alloc ?_ _).trans hK3
              have := hB2'.size; have := HBd.out; omega
          case measure => simp [intOf]; omega
        · obtain rfl : j = ls[k].length := by omega
          go_wp2_with fail
          go_roundw
          case rel =>
            refine ⟨k + 1, by omega, by go_num, ?_, hB2⟩
            have := HJ2.out
            rw [List.take_length] at this
            rw [List.take_succ_eq_append_getElem hlt, List.flatten_append, List.flatten_singleton]; exact this
          case measure => simp [intOf]; omega
    · obtain rfl : k = ls.length := by omega
      rw [List.take_length] at HJ
      go_wp2_with (go_at_call 95; refine (all_any B _ _ HJ.out).mono ?_; rintro e w' ⟨rfl, v, rfl, hown⟩; obtain ⟨A', c', rfl⟩ := ownsRow_shape hown; have Hown := Lib.hid hown; clear hown)
      go_ret
      exact ⟨⟨A', c', rfl, ownsRow_mono Hown.out (by have := HBd.out; omega)⟩, hB'⟩

theorem Fair.small {l : List Run} (h : Fair l) : l.length ≤ 1048576 := h.2.2

def FitsPost (w : World) (l : List Run) (v : Value) (e : Ending) (w' : World) : Prop :=
  ((l.length ≤ 2000 ∧ pagesL l ≤ 1073741824 ∧ e = .returned v) ∨ (¬ (l.length ≤ 2000 ∧ pagesL l ≤ 1073741824) ∧ e = faulted 127 2)) ∧ Below w.heap.size w w'

set_option maxHeartbeats 1000000 in
theorem fits_any (l : List Run) (A : Option Addr) (c : Nat) (w : World) (hs : Small l) (hl : RunsC w A l) :
    Calls Try.prog 93 #[.slice A l.length c] w (FitsPost w l (.slice A l.length c)) := by
  have hlen := hs.1
  by_cases h2 : l.length ≤ 2000
  · have hd : decide ((l.length : Int) ≤ 2000) = true := by simp; omega
    by_cases hp : pagesL l ≤ 1073741824
    · have hp' : decide (pagesL l ≤ 1073741824) = true := by simpa using hp
      go_enter Try.func93, Try.ntmps93
      go_wp2_with (first | (go_at_call 64; refine (pages_any l _ _ _ hs hl).mono ?_; rintro e w' ⟨rfl, hB2⟩) | (go_at_call 63; ((with_reducible first | refine (rneed_yes _ _).mono ?_ | refine (rneed_no _ _).mono ?_); rintro e w' ⟨rfl, rfl⟩)))
      go_ret
      exact ⟨.inl ⟨h2, hp, rfl⟩, hB2⟩
    · have hp' : decide (pagesL l ≤ 1073741824) = false := by simpa using hp
      go_enter Try.func93, Try.ntmps93
      go_wp2_with (first | (go_at_call 64; refine (pages_any l _ _ _ hs hl).mono ?_; rintro e w' ⟨rfl, hB2⟩) | (go_at_call 63; ((with_reducible first | refine (rneed_yes _ _).mono ?_ | refine (rneed_no _ _).mono ?_); rintro e w' ⟨rfl, rfl⟩)))
      exact ⟨rfl, .inr ⟨fun h => by omega, rfl⟩, hB2⟩
  · have hd : decide ((l.length : Int) ≤ 2000) = false := by simp; omega
    go_enter Try.func93, Try.ntmps93
    go_wp2_with (go_at_call 63; ((with_reducible first | refine (rneed_yes _ _).mono ?_ | refine (rneed_no _ _).mono ?_); rintro e w' ⟨rfl, rfl⟩))
    exact ⟨rfl, .inr ⟨fun h => by omega, rfl⟩, Below.refl _ _⟩

theorem starts_any (A : Option Addr) (n c : Nat) (w : World) : Calls Try.prog 65 #[.slice A n c] w fun e w' =>
    e = .returned (.func (.func 87) #[] #[.pointer (some ⟨w.heap.size, 0, none⟩)]) ∧ w' = w.alloc (.cells #[.slice A n c] 44) := by
  have hmf : ∀ (fn : Fn) (first cap : Array Value) (w : World), (Instr.makeFunc fn first cap).run Try.prog w = .ok (.func fn first cap) w := fun _ _ _ _ => rfl
  go_enter Try.func65, Try.ntmps65
  go_wp2_with fail
  go_ret
  exact ⟨rfl, rfl⟩

end Go.Proofs.Yteipclnlfanfeaa

/- runs: starts' iterator, part. -/
namespace Go.Proofs.Yteipclnlfanfeaa
open Go.RowKit
attribute [local go_sem] Oper.semAt_some

/-- runs with the numbers of their first pages -/
def startsL (at0 : Int) : List Run → List (Int × Run)
  | [] => []
  | r :: l => (at0, r) :: startsL (at0 + r.many) l

theorem startsL_length (a : Int) (l : List Run) : (startsL a l).length = l.length := by
  induction l generalizing a with
  | nil => rfl
  | cons r l ih => simp [startsL, ih]

theorem startsL_get (a : Int) (l : List Run) (k : Nat) (h : k < l.length) : (startsL a l)[k]? = some (a + pagesL (l.take k), l[k]) := by
  induction l generalizing a k with
  | nil => simp at h
  | cons r l ih =>
    cases k with
    | zero => simp [startsL, pagesL]
    | succ k =>
      simp only [startsL, List.getElem?_cons_succ, List.getElem_cons_succ, List.take_succ_cons, pagesL]
      rw [ih _ _ (by simpa using h)]
      simp; omega

theorem startsL_take_succ (l : List Run) (k : Nat) (h : k < l.length) : (startsL 0 l).take (k + 1) = (startsL 0 l).take k ++ [(pagesL (l.take k), l[k])] := by
  have h1 := startsL_get 0 l k h
  have h2 : k < (startsL 0 l).length := by rw [startsL_length]; exact h
  rw [List.take_succ_eq_append_getElem h2]
  rw [List.getElem?_eq_getElem h2] at h1
  injection h1 with h1
  rw [h1]; simp

/-- what a loop over starts may know of what it is handed -/
def StOk (x : Int × Run) : Prop := 0 ≤ x.1 ∧ x.1 ≤ 1125899906842624 ∧ -1 ≤ x.2.to ∧ x.2.to ≤ 1099511627776 ∧ 0 ≤ x.2.many ∧ x.2.many ≤ 1099511627776
abbrev St := { x : Int × Run // StOk x }
abbrev stEnc (x : St) : Array Value := #[.int .i64 x.1.1, .agg #[.int .i64 x.1.2.to, .int .i64 x.1.2.many]]

theorem fair_take {l : List Run} (h : FairIn l) (k : Nat) : 0 ≤ pagesL (l.take k) ∧ pagesL (l.take k) ≤ 1125899906842624 := by
  have := h.pfx (List.take_prefix k l)
  exact ⟨pagesL_nonneg (fun r hr => (this.1 r hr).2.2.1), this.2.1⟩

theorem stOk_at {l : List Run} (h : FairIn l) (k : Nat) (hk : k < l.length) : StOk (pagesL (l.take k), l[k]) := by
  have h1 := fair_take h k
  have h2 := h.1 l[k] (List.getElem_mem hk)
  exact ⟨h1.1, h1.2, h2⟩

set_option maxRecDepth 100000 in
set_option maxHeartbeats 2000000 in
theorem starts1_in (n : Nat) (l0 Bs : Nat) (A : Option Addr) (c : Nat) (l : List Run) (hF : FairIn l)
    (Kp : World → World → Prop) (Vd : World → Prop) (hVa : ∀ W o, Vd W → Vd (W.alloc o)) (hVk : ∀ W W', Vd W → Kp W W' → Vd W')
    (hRuns : ∀ W W', Vd W → Kp W W' → RunsC W A l → RunsC W' A l)
    (hBox : ∀ W cs W', Vd W → Kp (W.alloc (.cells cs 52)) W' → W'.heap[W.heap.size]? = some (.cells cs 52 (0, 0)))
    (J Jx : List St → World → Prop) (hJ : ∀ s W o, J s W → J s (W.alloc o))
    (hY : ∀ pre x W, J pre W → pre.length < l.length → YieldAt Fence.wide (n - 1) Try.prog l0 (stEnc x) W fun e W' =>
      (e = .returned (.bool true) ∧ J (pre ++ [x]) W' ∧ Kp W W') ∨ (e = .returned (.bool false) ∧ Jx (pre ++ [x]) W'))
    (W : World) (hV : Vd W) (hBs : W.cell? ⟨Bs, 0, none⟩ = some (.slice A l.length c)) (hc : RunsC W A l) (h0 : J [] W) :
    CallsIn Fence.wide n Try.prog 87 #[.func (.yield l0) #[] #[], .pointer (some ⟨Bs, 0, none⟩)] W fun e W' => (∃ v, e = .returned v) ∧
      ((∃ ys : List St, ys.map Subtype.val = startsL 0 l ∧ J ys W') ∨ (∃ pre : List St, pre.map Subtype.val <+: startsL 0 l ∧ Jx pre W')) := by
  have hlen := hF.2.2
  refine callsIn_of_wp Try.func87 rfl trivial ?_ rfl
  simp only [Try.ntmps87, List.size_toArray, List.length_cons, List.length_nil, Nat.reduceAdd, Nat.reduceSub, Array.replicate_succ, Array.replicate_zero, List.push_toArray, List.append_toArray, List.nil_append, List.cons_append]
  gi_wp2
  gi_loopw [3, 8] (fun a i wr => ∃ (k : Nat) (pre : List St), k ≤ l.length ∧ i = .int .i64 k ∧ a = .int .i64 (pagesL (l.take k)) ∧ pre.length = k ∧ pre.map Subtype.val = (startsL 0 l).take k ∧ J pre wr ∧ Vd wr ∧ RunsC wr A l)
    (fun _ i _ => l.length - (intOf i).toNat)
  case atStart => exact ⟨0, [], Nat.zero_le _, by simp, by simp [pagesL], rfl, by simp, h0, hV, hc⟩
  case round =>
    obtain ⟨k, pre, hk, rfl, rfl, hpl, hpre, hJs, hVs, hcs⟩ := hrel
    have hb := fair_take hF k
    by_cases hlt : k < l.length
    · obtain ⟨b, o, rfl, q0, q1⟩ := hcs k hlt
      have hok := stOk_at hF k hlt
      have hs1 := Lib.hid (pagesL_take_succ l k hlt)
      have hm := hF.1 l[k] (List.getElem_mem hlt)
      have hJa : J pre (wr.alloc (.cells #[.int .i64 l[k].to, .int .i64 l[k].many] 52)) := hJ _ _ _ hJs
      obtain ⟨fn, tmps, assign, body, hy, hR⟩ := hY pre ⟨_, hok⟩ _ hJa (by omega)
      simp only [stEnc] at hy
      have Hpl := Lib.hid hpl; clear hpl
      have Hpre := Lib.hid hpre; clear hpre
      gi_wp2
      refine ⟨fun h => by simp [Fence.wide] at h, hR.mono ?_⟩
      rintro e W3 (⟨rfl, hJ3, hk3⟩ | ⟨rfl, hJx3⟩)
      · have hbx := hBox _ _ _ hVs hk3
        have hV3 := hVk _ _ (hVa _ _ hVs) hk3
        have hR3 := hRuns _ _ (hVa _ _ hVs) hk3 (hcs.below ((Below.refl _ _).alloc (Nat.le_refl _) _))
        have hb1 : W3.cell? ⟨wr.heap.size, 1, none⟩ = some (.int .i64 l[k].many) := by simp [World.cell?, hbx]
        have HR3 := Lib.hid hR3; clear hR3 hbx
        gi_wp2
        go_roundw
        case rel => exact ⟨k + 1, pre ++ [⟨_, hok⟩], by omega, by go_num, by rw [hs1.out], by simp [Hpl.out], by rw [List.map_append, Hpre.out, startsL_take_succ _ _ hlt]; rfl, hJ3, hV3, HR3.out⟩
        case measure => simp [intOf]; omega
      · gi_wp2
        refine bodyPost_ret (results_none rfl _ _ _) rfl ?_
        refine ⟨⟨_, rfl⟩, .inr ⟨_, ?_, hJx3⟩⟩
        have : (pre ++ [(⟨_, hok⟩ : St)]).map Subtype.val = (startsL 0 l).take (k + 1) := by
          rw [List.map_append, Hpre.out, startsL_take_succ _ _ hlt]; rfl
        rw [this]; exact List.take_prefix _ _
    · obtain rfl : k = l.length := by omega
      gi_wp2
      go_end0
      exact ⟨⟨_, rfl⟩, .inl ⟨pre, by rw [hpre, ← startsL_length 0 l, List.take_length], hJs⟩⟩

/-- the iterator of starts, as the loops take it -/
theorem starts_stops (n : Nat) (Bs : Nat) (A : Option Addr) (c : Nat) (l : List Run) (hF : FairIn l)
    (Kp : World → World → Prop) (Vd : World → Prop) (hVa : ∀ W o, Vd W → Vd (W.alloc o)) (hVk : ∀ W W', Vd W → Kp W W' → Vd W')
    (hRuns : ∀ W W', Vd W → Kp W W' → RunsC W A l → RunsC W' A l)
    (hBox : ∀ W cs W', Vd W → Kp (W.alloc (.cells cs 52)) W' → W'.heap[W.heap.size]? = some (.cells cs 52 (0, 0)))
    (w : World) (hV : ∀ W, Below w.heap.size w W → Vd W) (hBs : w.cell? ⟨Bs, 0, none⟩ = some (.slice A l.length c)) (hc : RunsC w A l) :
    SeqStopsK Fence.wide n Try.prog 87 #[.pointer (some ⟨Bs, 0, none⟩)] stEnc Kp (fun ys => ys.map Subtype.val = startsL 0 l) (fun pre => pre.map Subtype.val <+: startsL 0 l) l.length w :=
  fun l0 J Jx W hW hJ _ hY h0 =>
    starts1_in n l0 Bs A c l hF Kp Vd hVa hVk hRuns hBox J Jx (fun s W1 o h => hJ s W1 _ none h (World.grownBy_alloc _ _ none) (fun r e => by cases e)) hY W (hV W hW) (cell_below hBs hW) (hc.below hW) h0

end Go.Proofs.Yteipclnlfanfeaa

/- A region that draws its order and only reads, in a round's frame. -/
namespace Go.Proofs.Yteipclnlfanfeaa

def noDefer (ops : Array Oper) : Bool := ops.all fun o => match o.op with | .defer _ => false | _ => true

theorem noDefer_spec {ops : Array Oper} (h : noDefer ops = true) {i : Nat} {o : Oper} (hi : ops[i]? = some o) (c : Call) : o.op ≠ .defer c := by
  intro e
  have h1 := Array.all_eq_true.1 h i (Array.getElem?_eq_some_iff.1 hi).1
  rw [(Array.getElem?_eq_some_iff.1 hi).2, e] at h1
  simp at h1

theorem wpOpsIn_inRound {F : Fence} {n : Nat} {P : Program} {ops : Array Oper} {Q : Exit → Act → World → Prop} (l0 : Nat) (hro : F.round = none) (hp : noDefer ops = true) :
    ∀ (l : List Nat) (a : Act) (w : World), wpOpsIn F n P ops Q l a w → wpOpsIn (F.inRound l0) n P ops Q l a w
  | [], _, _, h => h
  | i :: rest, a, w, h => by
    unfold wpOpsIn at h ⊢
    have ih := wpOpsIn_inRound (Q := Q) (n := n) (P := P) l0 hro hp rest
    cases ho : ops[i]? with
    | none => rw [ho] at h; exact ih _ _ h
    | some o =>
      rw [ho] at h
      dsimp only at h ⊢
      split
      · rename_i hw
        rw [if_pos hw] at h
        unfold Oper.wpIn at h ⊢
        refine ⟨h.1, ?_⟩
        have h2 := h.2
        rw [hro, Oper.semAt_none] at h2
        rw [Fence.inRound_round, Oper.semAt_some _ _ _ (noDefer_spec hp ho)]
        generalize (execOp a.eval o).run P w = r at h2 ⊢
        cases r with
        | ok x w' =>
          cases x <;> simp only [Oper.uponIn] at h2 ⊢ <;> first
            | exact h2
            | exact ih _ _ h2
            | (refine ⟨h2.1, (show CallsIn (F.inRound l0) _ _ _ _ _ _ from CallsIn.mono (F := F) h2.2 ?_)⟩
               intro e w'' hq
               cases e <;> first | exact hq | exact ih _ _ hq)
            | (refine ⟨h2.1, (show RowsIn (F.inRound l0) _ _ _ _ _ _ from RowsIn.mono (F := F) h2.2 ?_)⟩
               intro v w'' hq
               exact ih _ _ hq)
            | (refine ⟨h2.1, (show RoundIn (F.inRound l0) _ _ _ _ _ _ _ _ _ from RoundIn.mono (F := F) h2.2 ?_)⟩
               intro e w'' hq
               cases e <;> first | exact hq | exact ih _ _ hq)
        | halt x w' => cases x <;> simp only [Oper.uponIn] at h2 ⊢ <;> exact h2
      · rename_i hw
        rw [if_neg hw] at h
        exact ⟨h.1, ih _ _ h.2⟩

theorem wpIn_region_quiet_round {F : Fence} {n : Nat} {P : Program} {id : Nat} {Q : Exit → Act → World → Prop} {a : Act} {w : World} {l : List Oper} {l0 : Nat} (hro : F.round = none) (hm : P.follows .mixedOrders = true) (hB : Region.lexB .any l.toArray = true) (hp : noDefer l.toArray = true)
    (h : wpQuietIn F n P l.toArray (fun w' => ∃ n, w' = w.drewN n) (fun a' => ∀ w', (∃ n, w' = w.drewN n) → Q .normal a' w') l a) : (Code.region id l.toArray true).wpIn (F.inRound l0) n P Q a w := by
  simp only [Region.lexB, Bool.and_eq_true] at hB
  refine wpIn_region_draw fun t => wpOpsIn_inRound l0 hro hp _ _ _ ?_
  simp only [Region.schedule, hm, Bool.true_or, if_true]
  refine wpAnyIn_sound l.toArray.size t _ a _ (wpAnyIn_of_quiet (C := fun w' => ∃ n, w' = w.drewN n) (Q := fun a' => ∀ w', (∃ n, w' = w.drewN n) → Q .normal a' w') hro (fun _ w' hw' h => h w' hw') _ _ _ _ ⟨1, rfl⟩ ?_)
  have := wpAnyQIn_lex (F := F) (n := n) (C := fun w' => ∃ n, w' = w.drewN n) (md := .any) hB.1 l.toArray.toList 0 (Array.replicate l.toArray.size false) a (by simp) (by simpa using hB.2) (by simpa using h)
  simpa using this
end Go.Proofs.Yteipclnlfanfeaa

/- The law on 'for x := range seq' where what a round keeps is told of the world in which yield was called. -/
namespace Go.Proofs.Yteipclnlfanfeaa
open Go.RowKit
variable {F : Fence} {n : Nat} {P : Program}

/-- how a round's body may be left: W1 is the world of the call of yield, W that of the body's begin -/
def endsRound {α : Type} (D : Nat) (Kp : World → World → Prop) (I : List α → World → Prop) (Ix : Code → List α → World → Prop) (xs : List α) (W1 W : World) : Exit → Act → World → Prop
  | .normal, _, W' => KeepsFrom D W W' ∧ Kp W1 W' ∧ I xs W'
  | .ret, _, W' => KeepsFrom D W W' ∧ Ix .ret xs W'
  | .exit id, _, W' => KeepsFrom D W W' ∧ Ix (.exit id) xs W'
  | .goto t, _, W' => KeepsFrom D W W' ∧ Ix (.goto t) xs W'
  | .panic _, _, _ => False
  | .outgrown, _, _ => False

theorem wpIn_range {α : Type} {g : Operand} {ps : Array Tmp} {assign body : Code} {Q : Exit → Act → World → Prop} {a : Act} {w : World}
    (hro : F.round = none) (h1 : 1 ≤ n) {gf : Nat} {lb : Array Value} (hg : a.eval g = .func (.func gf) #[] lb) (hFg : F.fn gf) (eg : ∀ args w, (callFunc gf args).run P w = .ok (.enter gf args) w)
    {encs : α → Array Value} {Kp : World → World → Prop} {S Sp : List α → Prop} {N : Nat} (hseq : SeqStopsK F (n - 1) P gf lb encs Kp S Sp N w)
    (hKb : ∀ (W1 W : World) (l : Nat) (r r' : Loop), w.heap.size ≤ l → W.heap[l]? = some (.loop r) → Kp W1 W → Kp W1 (W.putObj l (.loop r'))) (hps : ∀ x, (encs x).size = ps.size)
    (I : List α → World → Prop) (Ix : Code → List α → World → Prop) (hI : OwnFrom w.heap.size I) (hIx : ∀ c, OwnFrom w.heap.size (Ix c)) (h0 : I [] w)
    (Ax : α → World → Act → World → Prop) (hAx : ∀ x W1 a', OwnFrom w.heap.size (fun (_ : Unit) W => Ax x W1 a' W))
    (hassign : ∀ (l : Nat) (pre : List α) (x : α) (W1 : World) (K : Act → World → Prop), I pre W1 → (∀ a' W', KeepsFrom w.heap.size W1 W' → I pre W' → Ax x W1 a' W' → K a' W') →
      assign.wpIn (F.inRound l) (n - 1 - 1) P (Exit.then K (fun _ _ _ => False)) { tmps := (ps.zip (encs x)).foldl (fun t (p, v) => t.setIfInBounds p v) a.tmps, defers := [] } W1)
    (hbody : ∀ (l : Nat) (pre : List α) (x : α) (W1 : World) (a' : Act) (W : World), w.heap.size ≤ l → (∃ r, W.heap[l]? = some (.loop r)) → I pre W → Ax x W1 a' W → pre.length < N →
      body.wpIn (F.inRound l) (n - 1 - 1) P (endsRound w.heap.size Kp I Ix (pre ++ [x]) W1 W) a' W)
    (hdone : ∀ (D : Nat) (xs : List α) (W : World), w.heap.size ≤ D → S xs → I xs W → W.heap[D]? = some (.deferred (some [])) → Q .normal { a with defers := { target := .collected D, args := #[] } :: a.defers } W)
    (hstop : ∀ (D : Nat) (c : Code) (pre : List α) (W : World), w.heap.size ≤ D → Sp pre → Ix c pre W → W.heap[D]? = some (.deferred (some [])) → c.wpIn F n P Q { a with defers := { target := .collected D, args := #[] } :: a.defers } W) :
    (Code.rangeFunc g ps assign body).wpIn F n P Q a w := by
  refine wpIn_rangeFunc fun fn hfn => ?_
  rw [hro]
  obtain ⟨D, hD⟩ : ∃ D, w.heap.size = D := ⟨_, rfl⟩
  obtain ⟨rec, hrec⟩ : ∃ rec : LoopState → Option Code → Loop, rec = fun st pe => { state := st, pending := pe, fn, tmps := a.tmps, params := ps, assign, body, defers := w.heap.size } := ⟨_, rfl⟩
  obtain ⟨W0, hW0⟩ : ∃ W0, (w.alloc (.deferred (some []))).alloc (.loop (rec .ready none)) = W0 := ⟨_, rfl⟩
  have hL : W0.heap[D + 1]? = some (.loop (rec .ready none)) := by
    rw [← hW0, ← hD]; have := World.alloc_heap_new (w.alloc (.deferred (some []))) (.loop (rec .ready none)); rwa [World.size_alloc] at this
  have hK : W0.heap[D]? = some (.deferred (some [])) := by
    rw [← hW0, ← hD]; exact (Below.heap_alloc _ _ _ (by simp)).trans (World.alloc_heap_new w _)
  have hI0 : I [] W0 := by rw [← hW0]; exact hI.alloc _ (hI.alloc _ h0)
  have hB0 : Below w.heap.size w W0 := by
    rw [← hW0]; exact ((Below.refl _ w).alloc (Nat.le_refl _) _).alloc (by simp) _
  refine ⟨D + 1, [{ target := .collected D, args := #[] }], W0, { target := .fn (.func gf) lb, args := #[.func (.yield (D + 1)) #[] #[]] }, W0, gf,
    #[.func (.yield (D + 1)) #[] #[]] ++ lb, W0, ?_, ?_, ?_, ?_, fun _ => h1, ?_⟩
  · rw [← hW0, hrec, ← hD]; exact run_enterLoop_outer _ _ _ _ _
  · simp only [resolve, hg]
    simp [go_sem]
  · intro f' hf'; simp [Target.leads] at hf'; subst hf'; exact hFg
  · simp [invoke, go_sem, eg]
  · have book : ∀ {A B : World} {row : Option Nat}, A.grownBy B row → (∀ r, row = some r → W0.heap.size ≤ r ∧ ∃ o : Obj, A.heap[r]? = some o ∧ o.isWalk = true) →
        (∀ r, row = some r → w.heap.size ≤ r ∧ ∃ o : Obj, A.heap[r]? = some o ∧ o.isCells = false) := fun {A B row} _ hr r e => by
      obtain ⟨hb, o, ho, hw⟩ := hr r e
      exact ⟨Nat.le_trans hB0.size hb, o, ho, Obj.not_cells_of_walk hw⟩
    refine (hseq (D + 1)
      (fun pre W => I pre W ∧ W.heap[D + 1]? = some (.loop (rec .ready none)) ∧ W.heap[D]? = some (.deferred (some [])))
      (fun pre W => ∃ c, Ix c pre W ∧ W.heap[D + 1]? = some (.loop (rec .done (some c))) ∧ W.heap[D]? = some (.deferred (some [])))
      W0 hB0 ?abJ ?abX ?rounds ⟨hI0, hL, hK⟩).mono ?behind
    case abJ =>
      rintro s A B row ⟨hs, hl, hk⟩ hg' hr
      exact ⟨hI s A B row hs hg' (book hg' hr), (grownBy_keeps hg' (fun r e => (hr r e).2) hl rfl).trans hl, (grownBy_keeps hg' (fun r e => (hr r e).2) hk rfl).trans hk⟩
    case abX =>
      rintro s A B row ⟨c, hs, hl, hk⟩ hg' hr
      exact ⟨c, hIx c s A B row hs hg' (book hg' hr), (grownBy_keeps hg' (fun r e => (hr r e).2) hl rfl).trans hl, (grownBy_keeps hg' (fun r e => (hr r e).2) hk rfl).trans hk⟩
    case rounds =>
      rintro pre x W1 ⟨hi, hl, hk⟩ hlen
      have hy := run_yield (P := P) (args := encs x) hl (by rw [hrec]; exact hps x)
      rw [hrec] at hy
      refine ⟨fn, _, assign, body, hy, roundIn_of_wpIn hfn (hassign _ pre x W1 _ hi fun a' W hkf hiW hax => ?_)⟩
      have hl1 := hkf.same _ _ (by omega) hl rfl
      have hk1 := hkf.same _ _ (by omega) hk rfl
      have hlt : D + 1 < W.heap.size := (Array.getElem?_eq_some_iff.1 hl1).1
      refine ⟨_, run_beginRound hl1 (by rw [hrec]), ?_⟩
      obtain ⟨W2, hW2⟩ : ∃ W2, W.putObj (D + 1) (.loop { rec .ready none with state := .busy }) = W2 := ⟨_, rfl⟩
      have hl2 : W2.heap[D + 1]? = some (.loop { rec .ready none with state := .busy }) := by rw [← hW2]; exact World.putObj_heap_same hlt
      have hk2 : W2.heap[D]? = some (.deferred (some [])) := by rw [← hW2]; exact (World.putObj_heap_other (by omega)).trans hk1
      rw [hW2]
      have hi2 : I pre W2 := by rw [← hW2]; exact hI.putObj _ hiW (by omega) hl1 rfl
      have ha2 : Ax x W1 a' W2 := by rw [← hW2]; exact (hAx x W1 a').putObj (s := ()) _ hax (by omega) hl1 rfl
      refine wpIn_mono (hbody _ pre x W1 a' W2 (by omega) ⟨_, hl2⟩ hi2 ha2 hlen) ?_
      have fin : ∀ (jump : Option Code) (W3 : World), KeepsFrom w.heap.size W2 W3 →
          (Instr.endRound (D + 1) jump).run P W3 = .ok (.bool jump.isNone) (W3.putObj (D + 1) (.loop (rec (if jump.isNone then .ready else .done) jump))) ∧
          W3.heap[D + 1]? = some (.loop { rec .ready none with state := .busy }) ∧
          (W3.putObj (D + 1) (.loop (rec (if jump.isNone then .ready else .done) jump))).heap[D + 1]? = some (.loop (rec (if jump.isNone then .ready else .done) jump)) ∧
          (W3.putObj (D + 1) (.loop (rec (if jump.isNone then .ready else .done) jump))).heap[D]? = some (.deferred (some [])) := fun jump W3 hk3 => by
        have hl3 := hk3.same _ _ (by omega) hl2 rfl
        have := run_endRound (P := P) jump hl3
        rw [hrec] at this ⊢
        exact ⟨this, by rw [hrec] at hl3; exact hl3, World.putObj_heap_same (Array.getElem?_eq_some_iff.1 hl3).1, (World.putObj_heap_other (by omega)).trans (hk3.same _ _ (by omega) hk2 rfl)⟩
      rintro e a3 W3 hp
      cases e with
      | normal =>
        obtain ⟨hk3, hkp, hi3⟩ := hp
        obtain ⟨hr, hl3, hl4, hk4⟩ := fin none W3 hk3
        exact ⟨_, _, hr, .inl ⟨rfl, ⟨hI.putObj _ hi3 (by omega) hl3 rfl, hl4, hk4⟩, hKb _ _ _ _ _ (by omega) hl3 hkp⟩⟩
      | ret =>
        obtain ⟨hk3, hi3⟩ := hp
        obtain ⟨hr, hl3, hl4, hk4⟩ := fin (some .ret) W3 hk3
        exact ⟨_, _, hr, .inr ⟨rfl, .ret, (hIx _).putObj _ hi3 (by omega) hl3 rfl, hl4, hk4⟩⟩
      | exit id =>
        obtain ⟨hk3, hi3⟩ := hp
        obtain ⟨hr, hl3, hl4, hk4⟩ := fin (some (.exit id)) W3 hk3
        exact ⟨_, _, hr, .inr ⟨rfl, .exit id, (hIx _).putObj _ hi3 (by omega) hl3 rfl, hl4, hk4⟩⟩
      | goto t =>
        obtain ⟨hk3, hi3⟩ := hp
        obtain ⟨hr, hl3, hl4, hk4⟩ := fin (some (.goto t)) W3 hk3
        exact ⟨_, _, hr, .inr ⟨rfl, .goto t, (hIx _).putObj _ hi3 (by omega) hl3 rfl, hl4, hk4⟩⟩
      | panic ch => exact hp.elim
      | outgrown => exact hp.elim
    case behind =>
      rintro e W2 ⟨⟨v, rfl⟩, (⟨xs, hS, hi, hl, hk⟩ | ⟨pre, hSp, c, hi, hl, hk⟩)⟩
      · exact ⟨none, _, by have := run_endLoop (P := P) hl (by rw [hrec]; simp); rw [hrec] at this; exact this, hdone _ xs _ (by omega) hS (hI.putObj _ hi (by omega) hl rfl) ((World.putObj_heap_other (by omega)).trans hk)⟩
      · exact ⟨some c, _, by have := run_endLoop (P := P) hl (by rw [hrec]; simp); rw [hrec] at this; exact this, hstop _ c pre _ (by omega) hSp ((hIx c).putObj _ hi (by omega) hl rfl) ((World.putObj_heap_other (by omega)).trans hk)⟩
end Go.Proofs.Yteipclnlfanfeaa
