/- RunsI, RunsJ, MoveA, MoveS, MoveB, AnyL in one text. -/
import Derived.Test.YteipclnlfanfeaaBaseB
import Derived.RecoverIn
import Derived.ControlIn
set_option linter.unusedVariables false
set_option linter.unusedSimpArgs false
namespace Go.Proofs.Yteipclnlfanfeaa
open Go.RowKit
attribute [local go_sem] Oper.semAt_some

set_option maxRecDepth 100000 in
set_option maxHeartbeats 1000000 in
theorem map_out (l : List Run) (A : Option Addr) (c : Nat) (page : Int) (w : World) (hm : mustE l = 0) (hl : RunsC w A l) (hp : 0 ≤ page) (hp2 : pagesL l ≤ page) :
    CallsIn Fence.wide 6 Try.prog 27 #[.slice A l.length c, .int .i64 page] w fun e w' => e = .returned (.tuple #[.int .i64 0, .int .i64 0, .int .i64 24]) ∧ Below w.heap.size w w' := by
  have hmz := mustE_zero hm
  have hlen := hmz.1
  have Hm := Lib.hid hm; clear hm
  have Hmz := Lib.hid hmz; clear hmz
  have hB0 : Below w.heap.size w ((((w.alloc (.cells #[.int .i64 page] 3)).alloc (.cells #[.int .i64 0] 3)).alloc (.cells #[.int .i64 0] 3)).alloc (.cells #[.int .i64 0] 29)) :=
    below_alloc (below_alloc (below_alloc (below_alloc (Below.refl _ w) _) _) _) _
  refine callsIn_of_wp_marks Try.func27 rfl trivial ?_ rfl
  simp only [Try.ntmps27, List.size_toArray, List.length_cons, List.length_nil, Nat.reduceAdd, Nat.reduceSub, Array.replicate_succ, Array.replicate_zero, List.push_toArray, List.append_toArray, List.nil_append, List.cons_append]
  gi_wp2_with fail
  refine ⟨trivial, (callsIn_wide.2 (must_any l _ _ _ (by omega) (hl.below hB0))).mono ?_⟩
  rintro e w1 ⟨⟨_, rfl⟩ | ⟨h0, _⟩, hB1⟩
  rotate_left
  · exact absurd Hm.out h0
  have hP1 : w1.heap[w.heap.size]? = some (.cells #[.int .i64 page] 3 (0, 0)) :=
    block_below (heap_alloc_old' (heap_alloc_old' (heap_alloc_old' (World.alloc_heap_new w _) _) _) _) hB1
  have hT1 : w1.heap[w.heap.size + 1]? = some (.cells #[.int .i64 0] 3 (0, 0)) :=
    block_below (heap_alloc_old' (heap_alloc_old' (heap_new (w.alloc (.cells #[.int .i64 page] 3)) _ (by simp)) _) _) hB1
  have hM1 : w1.heap[w.heap.size + 1 + 1]? = some (.cells #[.int .i64 0] 3 (0, 0)) :=
    block_below (heap_alloc_old' (heap_new ((w.alloc (.cells #[.int .i64 page] 3)).alloc (.cells #[.int .i64 0] 3)) _ (by simp)) _) hB1
  have hE1 : w1.heap[w.heap.size + 1 + 1 + 1]? = some (.cells #[.int .i64 0] 29 (0, 0)) :=
    block_below (heap_new (((w.alloc (.cells #[.int .i64 page] 3)).alloc (.cells #[.int .i64 0] 3)).alloc (.cells #[.int .i64 0] 3)) _ (by simp)) hB1
  have hc1 := cell_of_one hP1
  have hd : decide (0 ≤ page) = true := by simpa using hp
  have hd2 : decide (page < pagesL l) = false := by simpa using hp2
  have hsm := small_of_must Hm.out
  have hBw := below_then hB0 hB1
  have HT1 := Lib.hid hT1; have HM1 := Lib.hid hM1; have HE1 := Lib.hid hE1
  clear hT1 hM1 hE1 hP1 hB1 hB0
  gi_wp2_with fail
  refine wpIn_region_orders [[0, 1, 2, 3, 4, 5, 6, 7, 8], [0, 1, 2, 4, 3, 5, 6, 7, 8], [0, 1, 2, 4, 5, 3, 6, 7, 8]] (by kernel_rfl) (by kernel_rfl) ?_
  intro o ho
  simp only [List.mem_cons, List.not_mem_nil, or_false] at ho
  rcases ho with rfl | rfl | rfl
  all_goals
    simp only [List.filterMap_cons, List.filterMap_nil, List.getElem?_toArray, List.getElem?_cons_zero, List.getElem?_cons_succ]
    gi_wp2_with fail
    refine ⟨trivial, (callsIn_wide.2 (pages_any l _ _ _ hsm (hl.below (below_dr1 hBw)))).mono ?_⟩
    rintro e w2 ⟨rfl, hB2⟩
    have hB2' : Below w1.heap.size w1 w2 := (below_dr1 (Below.refl _ w1)).trans hB2
    have hc2 := cell_below hc1 hB2'
    gi_wp2_with fail
    refine ⟨trivial, (callsIn_wide.2 (rneed_no _ _)).mono ?_⟩
    rintro e w3 ⟨rfl, rfl⟩
    have HE2 := block_below HE1.out hB2'
    have hE4 := cell_of_one (one_setCell (u := .int .i64 24) HE2)
    have hT4 := (Below.heap_setCell w2 ⟨w.heap.size + 1 + 1 + 1, 0, none⟩ (.int .i64 24) (w.heap.size + 1) (by dsimp only; omega)).trans (block_below HT1.out hB2')
    have hM4 := (Below.heap_setCell w2 ⟨w.heap.size + 1 + 1 + 1, 0, none⟩ (.int .i64 24) (w.heap.size + 1 + 1) (by dsimp only; omega)).trans (block_below HM1.out hB2')
    refine rdoorM_fault HE2 ⟨_, by first | (simp [results, Try.results27, go_sem, hE4, cell_of_one hT4, cell_of_one hM4]; done) | (simp [results, Try.results27, go_sem, hE4, cell_of_one hT4, cell_of_one hM4]; rfl), rfl, ?_⟩
    exact (below_then hBw hB2').setCell (p := ⟨w.heap.size + 1 + 1 + 1, 0, none⟩) (by dsimp only; omega) _

/-- where a page lies, by the run that has it -/
def mapR (x : Int × Run) (page : Int) : Int × Int := (if x.2.to = -1 then -1 else x.2.to + (page - x.1), x.1 + x.2.many - page)

def MapPost (w : World) (l : List Run) (page : Int) (e : Ending) (w' : World) : Prop :=
  (∃ pre x, pre ++ [x] <+: startsL 0 (normL l) ∧ (∀ y ∈ pre, ¬ page < y.1 + y.2.many) ∧ page < x.1 + x.2.many ∧
    e = .returned (.tuple #[.int .i64 (mapR x page).1, .int .i64 (mapR x page).2, .int .i64 0])) ∧ Below w.heap.size w w'

def NoneYet (page : Int) (pre : List St) : Prop := ∀ y ∈ pre, y.1.1 + y.1.2.many ≤ page
theorem NoneYet.nil (page : Int) : NoneYet page [] := fun y h => by simp at h
theorem NoneYet.snoc {page : Int} {pre : List St} {x : St} (h : NoneYet page pre) (hx : x.1.1 + x.1.2.many ≤ page) : NoneYet page (pre ++ [x]) := by
  intro y hy
  rcases List.mem_append.1 hy with hy | hy
  · exact h y hy
  · rw [List.mem_singleton.1 hy]; exact hx

theorem noneYet_all {page : Int} {ys : List St} {L : List Run} (h : NoneYet page ys) (hy : ys.map Subtype.val = startsL 0 L) (hp : 0 ≤ page) : pagesL L ≤ page := by
  by_cases he : L = []
  · subst he; simpa [pagesL] using hp
  · have hpos : 0 < L.length := List.length_pos_iff.2 he
    have h1 := startsL_get 0 L (L.length - 1) (by omega)
    rw [← hy] at h1
    have h2 : (0 + pagesL (L.take (L.length - 1)), L[L.length - 1]) ∈ ys.map Subtype.val := List.mem_of_getElem? h1
    obtain ⟨y, hy1, hy2⟩ := List.mem_map.1 h2
    have h3 := h y hy1
    have h4 := pagesL_take_succ L (L.length - 1) (by omega)
    rw [show L.length - 1 + 1 = L.length by omega, List.take_length] at h4
    rw [hy2] at h3
    dsimp only at h3
    omega

/-- the boxes of Map -/
def MapBoxes (n0 : Nat) (page to many : Int) (W : World) : Prop :=
  W.heap[n0]? = some (.cells #[.int .i64 page] 3 (0, 0)) ∧ W.heap[n0 + 1]? = some (.cells #[.int .i64 to] 3 (0, 0)) ∧
  W.heap[n0 + 2]? = some (.cells #[.int .i64 many] 3 (0, 0)) ∧ W.heap[n0 + 3]? = some (.cells #[.int .i64 0] 29 (0, 0))
theorem MapBoxes.own {β : Type} (n0 : Nat) (page : Int) (to many : β → Int) : Own (fun (s : β) W => MapBoxes n0 page (to s) (many s) W) :=
  fun s X Y row hs hg hrow => ⟨(grownBy_keeps_cells hg hrow hs.1 rfl).trans hs.1, (grownBy_keeps_cells hg hrow hs.2.1 rfl).trans hs.2.1, (grownBy_keeps_cells hg hrow hs.2.2.1 rfl).trans hs.2.2.1, (grownBy_keeps_cells hg hrow hs.2.2.2 rfl).trans hs.2.2.2⟩

theorem MapBoxes.setTo {n0 : Nat} {page a b : Int} {W : World} (h : MapBoxes n0 page a b W) (a' : Int) : MapBoxes n0 page a' b (W.setCell ⟨n0 + 1, 0, none⟩ (.int .i64 a')) :=
  ⟨(Below.heap_setCell _ _ _ _ (by dsimp only; omega)).trans h.1, one_setCell h.2.1, (Below.heap_setCell _ _ _ _ (by dsimp only; omega)).trans h.2.2.1, (Below.heap_setCell _ _ _ _ (by dsimp only; omega)).trans h.2.2.2⟩
theorem MapBoxes.setMany {n0 : Nat} {page a b : Int} {W : World} (h : MapBoxes n0 page a b W) (b' : Int) : MapBoxes n0 page a b' (W.setCell ⟨n0 + 2, 0, none⟩ (.int .i64 b')) :=
  ⟨(Below.heap_setCell _ _ _ _ (by dsimp only; omega)).trans h.1, (Below.heap_setCell _ _ _ _ (by dsimp only; omega)).trans h.2.1, one_setCell h.2.2.1, (Below.heap_setCell _ _ _ _ (by dsimp only; omega)).trans h.2.2.2⟩
theorem MapBoxes.setE {n0 : Nat} {page a b : Int} {W : World} (h : MapBoxes n0 page a b W) : MapBoxes n0 page a b (W.setCell ⟨n0 + 3, 0, none⟩ (.int .i64 0)) :=
  ⟨(Below.heap_setCell _ _ _ _ (by dsimp only; omega)).trans h.1, (Below.heap_setCell _ _ _ _ (by dsimp only; omega)).trans h.2.1, (Below.heap_setCell _ _ _ _ (by dsimp only; omega)).trans h.2.2.1, one_setCell h.2.2.2⟩

/-- what a round of Map keeps of the blocks of cells -/
def KpM (n0 : Nat) (W W' : World) : Prop := W.heap.size ≤ W'.heap.size ∧ ∀ (k : Nat) c t f, W.heap[k]? = some (.cells c t f) → k ≠ n0 + 1 → k ≠ n0 + 2 → W'.heap[k]? = some (.cells c t f)
theorem KpM.own {D n0 : Nat} (W1 : World) : OwnFrom D (fun (_ : Unit) W => KpM n0 W1 W) :=
  fun _ X Y row hs hg hr => ⟨Nat.le_trans hs.1 hg.size, fun k c t f hk h1 h2 => by
    have := hs.2 k c t f hk h1 h2
    exact (grownBy_keeps_cells hg (fun r e => (hr r e).2) this rfl).trans this⟩

set_option maxRecDepth 100000 in
set_option maxHeartbeats 1000000 in
theorem map_in (l : List Run) (A : Option Addr) (c : Nat) (page : Int) (w : World) (hm : mustE l = 0) (hl : RunsC w A l) (hp : 0 ≤ page) (hp2 : page < pagesL l) :
    CallsIn Fence.wide 6 Try.prog 27 #[.slice A l.length c, .int .i64 page] w (MapPost w l page) := by
  have hmz := mustE_zero hm
  have hlen := hmz.1
  have hpm : page ≤ 1073741824 := by have := hmz.2.2; omega
  have Hm := Lib.hid hm; clear hm
  have Hmz := Lib.hid hmz; clear hmz
  have hB0 : Below w.heap.size w ((((w.alloc (.cells #[.int .i64 page] 3)).alloc (.cells #[.int .i64 0] 3)).alloc (.cells #[.int .i64 0] 3)).alloc (.cells #[.int .i64 0] 29)) :=
    below_alloc (below_alloc (below_alloc (below_alloc (Below.refl _ w) _) _) _) _
  refine callsIn_of_wp_marks Try.func27 rfl trivial ?_ rfl
  simp only [Try.ntmps27, List.size_toArray, List.length_cons, List.length_nil, Nat.reduceAdd, Nat.reduceSub, Array.replicate_succ, Array.replicate_zero, List.push_toArray, List.append_toArray, List.nil_append, List.cons_append]
  gi_wp2_with fail
  refine ⟨trivial, (callsIn_wide.2 (must_any l _ _ _ (by omega) (hl.below hB0))).mono ?_⟩
  rintro e w1 ⟨⟨_, rfl⟩ | ⟨h0, _⟩, hB1⟩
  rotate_left
  · exact absurd Hm.out h0
  have hMB : MapBoxes w.heap.size page 0 0 w1 :=
    ⟨block_below (heap_alloc_old' (heap_alloc_old' (heap_alloc_old' (World.alloc_heap_new w _) _) _) _) hB1,
     block_below (heap_alloc_old' (heap_alloc_old' (heap_new (w.alloc (.cells #[.int .i64 page] 3)) _ (by simp)) _) _) hB1,
     block_below (heap_alloc_old' (heap_new ((w.alloc (.cells #[.int .i64 page] 3)).alloc (.cells #[.int .i64 0] 3)) _ (by simp)) _) hB1,
     block_below (heap_new (((w.alloc (.cells #[.int .i64 page] 3)).alloc (.cells #[.int .i64 0] 3)).alloc (.cells #[.int .i64 0] 3)) _ (by simp)) hB1⟩
  have hc1 := cell_of_one hMB.1
  have hd : decide (0 ≤ page) = true := by simpa using hp
  have hd2 : decide (page < pagesL l) = true := by simpa using hp2
  have hsm := small_of_must Hm.out
  have hBw := below_then hB0 hB1
  have HMB := Lib.hid hMB
  clear hB1 hB0 hMB
  obtain ⟨n0, hn0⟩ : ∃ n0, w.heap.size = n0 := ⟨_, rfl⟩
  have HN := Lib.hid hn0
  rw [hn0] at hc1 HMB ⊢
  simp only [Nat.add_assoc, Nat.reduceAdd]
  clear hn0
  gi_wp2_with fail
  -- the region with the two calls: one end for all its orders
  refine wpIn_mono (Q := fun e a' W => e = .normal ∧ a' = { tmps := #[(.slice A l.length c), (.int .i64 page), undef, (.pointer (some ⟨n0, 0, none⟩)), (.pointer (some ⟨n0 + 1, 0, none⟩)), (.pointer (some ⟨n0 + 2, 0, none⟩)), (.pointer (some ⟨n0 + 3, 0, none⟩)), undef, undef, (.slice A l.length c), (.tuple #[]), (.int .i64 page), (.bool true), (.bool true), (.int .i64 page), (.slice A l.length c), (.int .i64 (pagesL l)), (.bool true), (.bool true), (.tuple #[]), undef, undef, undef, undef, undef, undef, undef, undef, undef, undef, undef, undef, undef, undef, undef, undef, undef, undef, undef, undef, undef, undef, undef, undef, undef, undef, undef, undef, undef], defers := [{ target := .fn (.func 61) #[], args := #[.pointer (some ⟨n0 + 3, 0, none⟩)] }] } ∧ Below w1.heap.size w1 W) ?_ ?_
  · refine wpIn_region_orders [[0, 1, 2, 3, 4, 5, 6, 7, 8], [0, 1, 2, 4, 3, 5, 6, 7, 8], [0, 1, 2, 4, 5, 3, 6, 7, 8]] (by kernel_rfl) (by kernel_rfl) ?_
    intro o ho
    simp only [List.mem_cons, List.not_mem_nil, or_false] at ho
    rcases ho with rfl | rfl | rfl
    all_goals
      simp only [List.filterMap_cons, List.filterMap_nil, List.getElem?_toArray, List.getElem?_cons_zero, List.getElem?_cons_succ]
      gi_wp2_with fail
      refine ⟨trivial, (callsIn_wide.2 (pages_any l _ _ _ hsm (hl.below (below_dr1 hBw)))).mono ?_⟩
      rintro e w2 ⟨rfl, hB2⟩
      have hB2' : Below w1.heap.size w1 w2 := (below_dr1 (Below.refl _ w1)).trans hB2
      have hc2 := cell_below hc1 hB2'
      gi_wp2_with fail
      refine ⟨trivial, (callsIn_wide.2 (rneed_yes _ _)).mono ?_⟩
      rintro e w3 ⟨rfl, rfl⟩
      gi_wp2_with fail
  rintro e a' w2 ⟨rfl, rfl, hB2⟩
  have hBw2 := below_then hBw hB2
  have hMB2 : MapBoxes n0 page 0 0 w2 := ⟨block_below HMB.out.1 hB2, block_below HMB.out.2.1 hB2, block_below HMB.out.2.2.1 hB2, block_below HMB.out.2.2.2 hB2⟩
  have hA3 := below_alloc (Below.refl _ w2) (.cells #[.slice A l.length c] 44)
  gi_wp2_with fail
  refine ⟨trivial, (callsIn_wide.2 (joined_any [l] _ _ _ (by simpa using fair_of_must Hm.out) (by simp) (RunsLL.one (World.alloc_heap_new w2 _) (hl.below (below_then hBw2 hA3))))).mono ?_⟩
  rintro e w3 ⟨⟨A', c', rfl, hown⟩, hB3⟩
  simp only [List.flatten_cons, List.flatten_nil, List.append_nil] at hown ⊢
  gi_wp2_with fail
  refine ⟨trivial, (callsIn_wide.2 (starts_any _ _ _ _)).mono ?_⟩
  rintro e w4 ⟨rfl, rfl⟩
  gi_wp2_with fail
  obtain ⟨W0, hW0⟩ : ∃ W0, w3.alloc (.cells #[.slice A' (normL l).length c'] 44) = W0 := ⟨_, rfl⟩
  rw [hW0]
  have hB30 : Below w2.heap.size w2 w3 := below_then hA3 hB3
  have hB00 : Below w3.heap.size w3 W0 := by rw [← hW0]; exact below_alloc (Below.refl _ _) _
  have hMB3 : MapBoxes n0 page 0 0 W0 := ⟨block_below (block_below hMB2.1 hB30) hB00, block_below (block_below hMB2.2.1 hB30) hB00, block_below (block_below hMB2.2.2.1 hB30) hB00, block_below (block_below hMB2.2.2.2 hB30) hB00⟩
  have hn3 : n0 + 3 < w2.heap.size := lt_of_block hMB2.2.2.2
  have hsz : W0.heap.size = w3.heap.size + 1 := by rw [← hW0]; simp
  have hsz3 : w2.heap.size + 1 ≤ w3.heap.size := by have := hB3.size; simpa using this
  have hBw0 : Below n0 w W0 := by have := below_then (below_then hBw2 hB30) hB00; rwa [HN.out] at this
  have hRC : RunsC w3 A' (normL l) := RunsC.of_owns hown
  have hAb : ∀ k (h : k < (normL l).length), ∃ b o, A' = some ⟨b, o, none⟩ ∧ n0 + 3 < b := by
    intro k hk
    rcases hown.2 with ⟨_, h0⟩ | ⟨g, cap, cur, he, hg, _⟩
    · omega
    · cases he; exact ⟨g, 0, rfl, by simp at hg; omega⟩
  have hS0 : W0.cell? ⟨w3.heap.size, 0, none⟩ = some (.slice A' (normL l).length c') := by rw [← hW0]; exact cell_of_one (World.alloc_heap_new w3 _)
  have hFn : FairIn (normL l) := by
    have h1 := fair_of_must Hm.out
    have h2 := h1.norm
    exact ⟨fun r hr => by
      have h3 := h2.1 r hr
      have h4 := h2.many hr
      have h5 := many_le_pages (fun y hy => (h2.1 y hy).2.2) hr
      rw [pages_normL] at h5
      have h6 := Hmz.out.2.2
      have h7 := mem_normL (fun t => t ≤ 1099511627776) (fun y hy => (h1.1 y hy).2.1) r hr
      exact ⟨h3.1, h7, h3.2.2, by omega⟩, by rw [pages_normL]; exact h1.2.1, by have := length_normL l; omega⟩
  refine wpIn_range rfl (by omega) (gf := 87) (lb := #[.pointer (some ⟨w3.heap.size, 0, none⟩)]) rfl trivial (enters_of Try.func87 (by kernel_rfl) rfl)
    (starts_stops 5 w3.heap.size A' c' (normL l) hFn (KpM n0) (fun W => n0 + 3 < W.heap.size) (fun W o h => by simp; omega) (fun W W' h k => by have := k.1; omega) ?runs ?box W0 ?vd hS0 (hRC.below hB00))
    (fun W1 W l0 r r' h1 h2 h3 => KpM.own (D := W0.heap.size) W1 () W _ (some l0) h3 (grownBy_putObj' W l0 _) (fun r e => by cases e; exact ⟨h1, _, h2, rfl⟩)) (fun _ => rfl)
    (fun pre W => MapBoxes n0 page 0 0 W ∧ NoneYet page pre ∧ Below n0 w W)
    (fun cd pre W => cd = .exit 0 ∧ (∃ pre' x, pre = pre' ++ [x] ∧ NoneYet page pre' ∧ page < x.1.1 + x.1.2.many ∧ MapBoxes n0 page (mapR x.1 page).1 (mapR x.1 page).2 W) ∧ Below n0 w W)
    ?hI ?hIx ⟨hMB3, NoneYet.nil _, hBw0⟩
    (fun x W1 a' W => KpM n0 W1 W ∧ ∃ Bx, W1.heap.size ≤ Bx ∧ n0 + 3 < Bx ∧ W.heap[Bx]? = some (.cells #[.int .i64 x.1.2.to, .int .i64 x.1.2.many] 52 (0, 0)) ∧ a' = { tmps := #[(.slice A l.length c), (.int .i64 page), undef, (.pointer (some ⟨n0, 0, none⟩)), (.pointer (some ⟨n0 + 1, 0, none⟩)), (.pointer (some ⟨n0 + 2, 0, none⟩)), (.pointer (some ⟨n0 + 3, 0, none⟩)), (.int .i64 x.1.1), (.pointer (some ⟨Bx, 0, none⟩)), (.slice A l.length c), (.tuple #[]), (.int .i64 page), (.bool true), (.bool true), (.int .i64 page), (.slice A l.length c), (.int .i64 (pagesL l)), (.bool true), (.bool true), (.tuple #[]), (.slice A l.length c), (.slice (some ⟨w2.heap.size, 0, none⟩) 1 1), (.slice A' (normL l).length c'), (.func (.func 87) #[] #[.pointer (some ⟨w3.heap.size, 0, none⟩)]), (.int .i64 x.1.1), (.agg #[.int .i64 x.1.2.to, .int .i64 x.1.2.many]), undef, undef, undef, undef, undef, undef, undef, undef, undef, undef, undef, undef, undef, undef, undef, undef, undef, undef, undef, undef, undef, undef, undef], defers := [] }) ?ax ?assign ?body ?done ?stop
  case runs =>
    intro W W' _ hk hr k hk2
    obtain ⟨b, o, he, p0, p1⟩ := hr k hk2
    obtain ⟨b', o', he', hlt⟩ := hAb k hk2
    rw [he] at he'; cases he'
    have key : ∀ i v, W.cell? ⟨b, i, none⟩ = some v → W'.cell? ⟨b, i, none⟩ = some v := by
      intro i v hv
      obtain ⟨o1, ho1, hc1⟩ := cells_of_cell hv
      cases o1 <;> simp [Obj.isCells] at hc1
      have := hk.2 _ _ _ _ ho1 (by dsimp only; omega) (by dsimp only; omega)
      exact (World.cell?_of_block (by rw [this, ho1])).trans hv
    exact ⟨b, o, he, key _ _ p0, key _ _ p1⟩
  case box =>
    intro W cs W' hv hk
    exact hk.2 _ _ _ _ (World.alloc_heap_new W _) (by omega) (by omega)
  case vd => intro W hB; have := hB.size; omega
  case hI =>
    rintro pre X Y row ⟨h1, h2, h3⟩ hg hr
    exact ⟨MapBoxes.own n0 page (fun _ : Unit => 0) (fun _ => 0) () X Y row h1 hg (fun r e => (hr r e).2), h2, h3.grown hg (by have := lt_of_block h1.1; omega) (fun k e => by have := (hr k e).1; omega)⟩
  case hIx =>
    rintro cd pre X Y row ⟨h0, ⟨pre', x, h1, h2, h3, h4⟩, h5⟩ hg hr
    exact ⟨h0, ⟨pre', x, h1, h2, h3, MapBoxes.own n0 page (fun _ : Unit => (mapR x.1 page).1) (fun _ => (mapR x.1 page).2) () X Y row h4 hg (fun r e => (hr r e).2)⟩, h5.grown hg (by have := lt_of_block h4.1; omega) (fun k e => by have := (hr k e).1; omega)⟩
  case ax =>
    rintro x W1 a' s X Y row ⟨h1, Bx, h2, h3, h4, h5⟩ hg hr
    exact ⟨KpM.own W1 () X Y row h1 hg hr, Bx, h2, h3, (grownBy_keeps_cells hg (fun r e => (hr r e).2) h4 rfl).trans h4, h5⟩
  case assign =>
    rintro l0 pre ⟨⟨a0, r⟩, hok⟩ W1 K ⟨h1, h2, h3⟩ hK
    dsimp only at hK ⊢
    gi_wp2
    have hBa := below_alloc (Below.refl _ W1) (.cells #[.int .i64 r.to, .int .i64 r.many] 52)
    have hlt := lt_of_block h1.2.2.2
    refine hK _ _ ((KeepsOthers.alloc _ _).from _) ⟨⟨block_below h1.1 hBa, block_below h1.2.1 hBa, block_below h1.2.2.1 hBa, block_below h1.2.2.2 hBa⟩, h2, h3.trans (hBa.mono (by omega))⟩
      ⟨⟨hBa.size, fun k c t f hk _ _ => block_below hk hBa⟩, W1.heap.size, Nat.le_refl _, by omega, World.alloc_heap_new W1 _, rfl⟩
  case body =>
    rintro l0 pre ⟨⟨a0, r⟩, hok⟩ W1 a' W hl0 _ ⟨h1, h2, h3⟩ ⟨h4, Bx, h5, h6, h7, rfl⟩ hlen2
    dsimp only at h7 ⊢
    obtain ⟨k1, k2, k3, k4, k5, k6⟩ := hok
    dsimp only at k1 k2 k3 k4 k5 k6
    have c0 := cell_of_one h1.1
    have r0 : W.cell? ⟨Bx, 0, none⟩ = some (.int .i64 r.to) := by simp [World.cell?, h7]
    have r1 : W.cell? ⟨Bx, 1, none⟩ = some (.int .i64 r.many) := by simp [World.cell?, h7]
    have H1 := Lib.hid h1; clear h1
    have H2 := Lib.hid h2; clear h2
    have H4 := Lib.hid h4; clear h4
    have H7 := Lib.hid h7; clear h7
    by_cases hlt : page < a0 + r.many
    · have hmx : Try.prog.follows .mixedOrders = true := by kernel_rfl
      have s0 := cell_of_one H1.out.2.1
      have s1 := cell_of_one H1.out.2.2.1
      have z0 := free_of_one H1.out.2.1
      have z1 := free_of_one H1.out.2.2.1
      have w1' : IntKind.i64.wrap (a0 + r.many) = a0 + r.many := IntWalk.i64_in _ (by omega)
      have w2' : IntKind.i64.wrap (a0 + r.many - page) = a0 + r.many - page := IntWalk.i64_in _ (by omega)
      gi_wp2_with fail
      have b1 : ¬ n0 + 1 = Bx := by omega
      have b2 : ¬ n0 + 2 = Bx := by omega
      refine wpIn_region_anyC_round (C := fun W' => W'.cell? ⟨n0, 0, none⟩ = some (.int .i64 page) ∧ W'.cell? ⟨Bx, 0, none⟩ = some (.int .i64 r.to) ∧ W'.cell? ⟨Bx, 1, none⟩ = some (.int .i64 r.many)) rfl (by kernel_rfl) hmx ?_
      have hCw : (fun W' : World => W'.cell? ⟨n0, 0, none⟩ = some (.int .i64 page) ∧ W'.cell? ⟨Bx, 0, none⟩ = some (.int .i64 r.to) ∧ W'.cell? ⟨Bx, 1, none⟩ = some (.int .i64 r.many)) W.drew := ⟨c0, r0, r1⟩
      refine anyC_take (i := 0) ?v0 rfl rfl (by kernel_rfl) (by kernel_rfl) (by kernel_rfl) (fun _ _ _ h => h) hCw ⟨.inl ⟨rfl, fun W' hW' => ?y0⟩, fun _ => rfl⟩ ?_
      case y0 => (obtain ⟨q0, q1, q2⟩ := hW'; go_simp; rfl)
      simp only [Act.put, List.setIfInBounds_toArray, List.set_cons_succ, List.set_cons_zero]
      refine anyC_take (i := 1) ?v1 rfl rfl (by kernel_rfl) (by kernel_rfl) (by kernel_rfl) (fun _ _ _ h => h) hCw ⟨.inl ⟨rfl, fun W' hW' => ?y1⟩, fun _ => rfl⟩ ?_
      case y1 => (obtain ⟨q0, q1, q2⟩ := hW'; go_simp; rfl)
      simp only [Act.put, List.setIfInBounds_toArray, List.set_cons_succ, List.set_cons_zero]
      refine anyC_take (i := 2) ?v2 rfl rfl (by kernel_rfl) (by kernel_rfl) (by kernel_rfl) (fun _ _ _ h => h) hCw ⟨.inl ⟨rfl, fun W' hW' => ?y2⟩, fun _ => rfl⟩ ?_
      case y2 => (obtain ⟨q0, q1, q2⟩ := hW'; go_simp; rfl)
      simp only [Act.put, List.setIfInBounds_toArray, List.set_cons_succ, List.set_cons_zero]
      refine anyC_take (i := 3) ?v3 rfl rfl (by kernel_rfl) (by kernel_rfl) (by kernel_rfl) (fun _ _ _ h => h) hCw ⟨.inl ⟨rfl, fun W' hW' => ?y3⟩, fun _ => rfl⟩ ?_
      case y3 => (obtain ⟨q0, q1, q2⟩ := hW'; go_simp; rfl)
      simp only [Act.put, List.setIfInBounds_toArray, List.set_cons_succ, List.set_cons_zero]
      refine anyC_take (i := 4) ?v4 rfl rfl (by kernel_rfl) (by kernel_rfl) (by kernel_rfl) (fun _ _ _ h => h) hCw ⟨.inl ⟨rfl, fun W' hW' => ?y4⟩, fun _ => rfl⟩ ?_
      case y4 => (obtain ⟨q0, q1, q2⟩ := hW'; go_simp; rfl)
      simp only [Act.put, List.setIfInBounds_toArray, List.set_cons_succ, List.set_cons_zero]
      refine anyC_take (i := 5) ?v5 rfl rfl (by kernel_rfl) (by kernel_rfl) (by kernel_rfl) (fun _ _ _ h => h) hCw ⟨.inl ⟨rfl, fun W' hW' => ?y5⟩, fun _ => rfl⟩ ?_
      case y5 => (obtain ⟨q0, q1, q2⟩ := hW'; go_simp; rfl)
      simp only [Act.put, List.setIfInBounds_toArray, List.set_cons_succ, List.set_cons_zero]
      refine anyC_take (i := 6) ?v6 rfl rfl (by kernel_rfl) (by kernel_rfl) (by kernel_rfl) (fun _ _ _ h => h) hCw ⟨.inl ⟨rfl, fun W' hW' => ?y6⟩, fun _ => rfl⟩ ?_
      case y6 => (obtain ⟨q0, q1, q2⟩ := hW'; go_simp; rfl)
      simp only [Act.put, List.setIfInBounds_toArray, List.set_cons_succ, List.set_cons_zero]
      refine anyC_take (i := 7) ?v7 rfl rfl (by kernel_rfl) (by kernel_rfl) (by kernel_rfl) (fun _ _ _ h => h) hCw ⟨.inl ⟨rfl, fun W' hW' => ?y7⟩, fun _ => rfl⟩ ?_
      case y7 => (obtain ⟨q0, q1, q2⟩ := hW'; go_simp; rfl)
      simp only [Act.put, List.setIfInBounds_toArray, List.set_cons_succ, List.set_cons_zero]
      refine anyC_only (i := 8) (by kernel_rfl) (wpOpIn_step rfl (fun K' hK' => ?_))
      go_simp
      refine hK' _ _ ⟨⟨by go_simp, by go_simp, by go_simp⟩, ?_⟩
      clear hK' K'
      refine anyC_only (i := 9) (by kernel_rfl) (wpOpIn_step rfl (fun K' hK' => ?_))
      go_simp
      refine hK' _ _ ⟨⟨by go_simp, by go_simp, by go_simp⟩, anyC_done (by kernel_rfl) ?_⟩
      clear hK' K' hCw
      have hz : W.drew.heap[n0 + 1]? = some (.cells #[.int .i64 0] 3 (0, 0)) := H1.out.2.1
      have hd := H1.out
      by_cases ht : r.to = -1
      · have e1 : (r.to != -1) = false := by simp [ht]
        gi_wp2_with fail
        refine ⟨((KeepsOthers.drew W).trans ((KeepsOthers.setCell _ _ _).trans (KeepsOthers.setCell _ _ _))).from _, rfl, ⟨pre, _, rfl, H2.out, hlt, ?_⟩, ?_⟩
        · have := (hd.setTo (-1)).setMany (a0 + r.many - page)
          simp only [mapR]; rw [if_pos ht]; exact this
        · exact (((h3.trans (Below.refl n0 W).drew).setCell (p := ⟨n0 + 1, 0, none⟩) (by dsimp only; omega) _).setCell (p := ⟨n0 + 2, 0, none⟩) (by dsimp only; omega) _)
      · have e1 : (r.to != -1) = true := by simp [ht]
        gi_wp2_with fail
        refine ⟨((KeepsOthers.drew W).trans ((KeepsOthers.setCell _ _ _).trans ((KeepsOthers.setCell _ _ _).trans (KeepsOthers.setCell _ _ _)))).from _, rfl, ⟨pre, _, rfl, H2.out, hlt, ?_⟩, ?_⟩
        · have := ((hd.setTo r.to).setMany (a0 + r.many - page)).setTo (r.to + (page - a0))
          simp only [mapR]; rw [if_neg ht]; exact this
        · exact ((((h3.trans (Below.refl n0 W).drew).setCell (p := ⟨n0 + 1, 0, none⟩) (by dsimp only; omega) _).setCell (p := ⟨n0 + 2, 0, none⟩) (by dsimp only; omega) _).setCell (p := ⟨n0 + 1, 0, none⟩) (by dsimp only; omega) _)
    · gi_wp2
      exact ⟨KeepsFrom.refl _ _, H4.out, H1.out, H2.out.snoc (by dsimp only; omega), h3⟩
  case done =>
    rintro D ys W hD hys ⟨h1, h2, h3⟩ hK
    exact absurd (noneYet_all h2 hys (by omega)) (by rw [pages_normL]; omega)
  case stop =>
    rintro D cd pre W hD hSp ⟨rfl, ⟨pre', x, rfl, h2, h3, h4⟩, h5⟩ hK
    gi_wp2_with fail
    have s0 := cell_of_one h4.2.1
    have s1 := cell_of_one h4.2.2.1
    have s2 := cell_of_one h4.2.2.2
    have z0 := free_of_one h4.2.1
    have z1 := free_of_one h4.2.2.1
    have z2 := free_of_one h4.2.2.2
    have H4 := Lib.hid h4; clear h4
    have HK := Lib.hid hK; clear hK
    refine wpIn_region_orders [[0, 1, 2, 3, 4], [0, 2, 1, 3, 4], [1, 0, 2, 3, 4]] (by kernel_rfl) (by kernel_rfl) ?_
    intro o ho
    simp only [List.mem_cons, List.not_mem_nil, or_false] at ho
    rcases ho with rfl | rfl | rfl
    all_goals
      simp only [List.filterMap_cons, List.filterMap_nil, List.getElem?_toArray, List.getElem?_cons_zero, List.getElem?_cons_succ]
      gi_wp2_with fail
      have hM := ((H4.out.setTo (mapR x.1 page).1).setMany (mapR x.1 page).2).setE
      obtain ⟨X, hX⟩ : ∃ X, (((W.setCell ⟨n0 + 1, 0, none⟩ (.int .i64 (mapR x.1 page).1)).setCell ⟨n0 + 2, 0, none⟩ (.int .i64 (mapR x.1 page).2)).setCell ⟨n0 + 3, 0, none⟩ (.int .i64 0)).drew = X := ⟨_, rfl⟩
      rw [hX]
      have hMX : MapBoxes n0 page (mapR x.1 page).1 (mapR x.1 page).2 X := by rw [← hX]; exact hM
      have hKX : X.heap[D]? = some (.deferred (some [])) := by
        rw [← hX]
        exact (Below.heap_setCell _ _ _ _ (by dsimp only; omega)).trans ((Below.heap_setCell _ _ _ _ (by dsimp only; omega)).trans ((Below.heap_setCell _ _ _ _ (by dsimp only; omega)).trans HK.out))
      have hBX : Below n0 w X := by
        rw [← hX]
        exact ((((h5.setCell (p := ⟨n0 + 1, 0, none⟩) (by dsimp only; omega) _).setCell (p := ⟨n0 + 2, 0, none⟩) (by dsimp only; omega) _).setCell (p := ⟨n0 + 3, 0, none⟩) (by dsimp only; omega) _)).drew
      have hM2 : MapBoxes n0 page (mapR x.1 page).1 (mapR x.1 page).2 (X.putObj D (.deferred none)) := MapBoxes.own n0 page (fun _ : Unit => (mapR x.1 page).1) (fun _ => (mapR x.1 page).2) () X _ (some D) hMX (grownBy_putObj' X D _) (fun r e => by cases e; exact ⟨_, hKX, rfl⟩)
      have d1 := cell_of_one hM2.2.1
      have d2 := cell_of_one hM2.2.2.1
      have d3 := cell_of_one hM2.2.2.2
      refine ⟨by simp, .inl ⟨_, _, rfl, run_takeDeferred hKX, rdoorM_ret ⟨.tuple #[.int .i64 (mapR x.1 page).1, .int .i64 (mapR x.1 page).2, .int .i64 0], by simp [results, Try.results27, go_sem, d1, d2, d3], ⟨pre'.map Subtype.val, x.1, by simpa using hSp, ?_, h3, rfl⟩, ?_⟩⟩⟩
      · intro y hy
        obtain ⟨z, hz, rfl⟩ := List.mem_map.1 hy
        have := h2 z hz; omega
      · rw [HN.out]
        exact hBX.grown (grownBy_putObj' X D _) (by have := lt_of_block hMX.1; omega) (fun k e => by cases e; omega)
end Go.Proofs.Yteipclnlfanfeaa

namespace Go.Proofs.Yteipclnlfanfeaa
open Go.RowKit

theorem mem_startsL {a : Int} {l : List Run} {x : Int × Run} (h : x ∈ startsL a l) : x.2 ∈ l := by
  induction l generalizing a with
  | nil => simp [startsL] at h
  | cons r l ih =>
    simp only [startsL, List.mem_cons] at h ⊢
    rcases h with rfl | h
    · exact .inl rfl
    · exact .inr (ih h)

theorem pieces_pages (a : Int) (l : List Run) (f t : Int) (h : ∀ r ∈ l, 0 ≤ r.many) : pagesL ((startsL a l).filterMap (piece f t)) ≤ pagesL l := by
  induction l generalizing a with
  | nil => simp [startsL, pagesL]
  | cons r l ih =>
    have h1 := ih (a + r.many) (fun x hx => h x (by simp [hx]))
    have h2 := h r (by simp)
    simp only [startsL, List.filterMap_cons]
    split
    · simp only [pagesL]; omega
    · rename_i p hp
      simp only [piece] at hp
      split at hp
      · cases hp
      · cases hp
        simp only [pagesL]; omega

theorem pieces_to {a : Int} {l : List Run} {f t : Int} (h : ∀ r ∈ l, -1 ≤ r.to ∧ r.to ≤ 1073741824 ∧ 0 ≤ r.many ∧ r.many ≤ 1073741824) :
    ∀ p ∈ (startsL a l).filterMap (piece f t), -1 ≤ p.to ∧ p.to ≤ 2147483648 ∧ 0 ≤ p.many := by
  intro p hp
  obtain ⟨x, hx, hpx⟩ := List.mem_filterMap.1 hp
  have hb := h x.2 (mem_startsL hx)
  simp only [piece] at hpx
  split at hpx
  · cases hpx
  · cases hpx
    dsimp only
    refine ⟨?_, ?_, by omega⟩ <;> split <;> omega

theorem partL_facts {l : List Run} (hm : mustE l = 0) (f t : Int) :
    (∀ r ∈ partL l f t, -1 ≤ r.to ∧ r.to ≤ 2147483648 ∧ 0 ≤ r.many) ∧ pagesL (partL l f t) ≤ pagesL l ∧ (partL l f t).length ≤ l.length := by
  obtain ⟨h1, h2, h3⟩ := mustE_zero hm
  have hp := pieces_to (a := 0) (f := f) (t := t) (l := l) (fun r hr => by have := h2 r hr; omega)
  refine ⟨fun r hr => ⟨mem_normL (fun t => -1 ≤ t) (fun y hy => (hp y hy).1) r hr, mem_normL (fun t => t ≤ 2147483648) (fun y hy => (hp y hy).2.1) r hr, many_normL (fun y hy => (hp y hy).2.2) r hr⟩, ?_, ?_⟩
  · unfold partL; rw [pages_normL]; exact pieces_pages _ _ _ _ (fun r hr => by have := h2 r hr; omega)
  · unfold partL
    have h4 := length_normL ((startsL 0 l).filterMap (piece f t))
    have h5 := List.length_filterMap_le (piece f t) (startsL 0 l)
    rw [startsL_length] at h5; omega

def putX (l : List Run) (page : Int) (more : List Run) : List Run :=
  normL (partL l 0 page ++ (more ++ partL l (page + pagesL more) (pagesL l)))
def putY (l : List Run) (page : Int) (more : List Run) : List Run := partL l page (page + pagesL more)
def fitsB (l : List Run) : Prop := l.length ≤ 2000 ∧ pagesL l ≤ 1073741824
def PutPost (l : List Run) (page : Int) (more : List Run) (w : World) (e : Ending) (w' : World) : Prop :=
  ((fitsB (putX l page more) ∧ ∃ A c v, e = .returned (.tuple #[.slice A (putX l page more).length c, v, .int .i64 0]) ∧ w'.ownsRow w.heap.size 52 2 (.slice A (putX l page more).length c) (putX l page more).length (flatR (putX l page more)))
    ∨ (¬ fitsB (putX l page more) ∧ e = .returned (.tuple #[.slice none 0 0, .slice none 0 0, .int .i64 2]))) ∧ Below w.heap.size w w'

theorem fairIn_put {l more : List Run} (page : Int) (hm : mustE l = 0) (hm' : mustE more = 0) :
    FairIn (partL l 0 page ++ ([] ++ (more ++ partL l (page + pagesL more) (pagesL l)))) := by
  obtain ⟨a1, a2, a3⟩ := partL_facts hm 0 page
  obtain ⟨b1, b2, b3⟩ := partL_facts hm (page + pagesL more) (pagesL l)
  obtain ⟨c1, c2, c3⟩ := mustE_zero hm
  obtain ⟨d1, d2, d3⟩ := mustE_zero hm'
  have e1 := fun r hr => many_le_pages (l := partL l 0 page) (fun r hr => (a1 r hr).2.2) (r := r) hr
  have e2 := fun r hr => many_le_pages (l := partL l (page + pagesL more) (pagesL l)) (fun r hr => (b1 r hr).2.2) (r := r) hr
  refine ⟨fun r hr => ?_, ?_, ?_⟩
  · simp only [List.mem_append, List.not_mem_nil, false_or] at hr
    rcases hr with hr | hr | hr
    · have := a1 r hr; have := e1 r hr; omega
    · have := d2 r hr; omega
    · have := b1 r hr; have := e2 r hr; omega
  · simp only [pagesL_append, pagesL]; omega
  · simp only [List.length_append, List.length_nil]; omega

theorem small_putX {l more : List Run} (page : Int) (hm : mustE l = 0) (hm' : mustE more = 0) : Small (putX l page more) := by
  have h := (fairIn_put page hm hm').norm
  obtain ⟨a1, a2, a3⟩ := partL_facts hm 0 page
  obtain ⟨b1, b2, b3⟩ := partL_facts hm (page + pagesL more) (pagesL l)
  obtain ⟨c1, c2, c3⟩ := mustE_zero hm
  obtain ⟨d1, d2, d3⟩ := mustE_zero hm'
  have hp : pagesL (normL (partL l 0 page ++ ([] ++ (more ++ partL l (page + pagesL more) (pagesL l))))) ≤ 1099511627776 := by
    rw [pages_normL]; simp only [pagesL_append, pagesL]; omega
  refine ⟨h.2.2, fun r hr => ⟨(h.1 r hr).2.2, ?_⟩⟩
  have := many_le_pages (fun r hr => (h.1 r hr).2.2) hr
  omega

theorem small_partL {l : List Run} (hm : mustE l = 0) (f t : Int) : Small (partL l f t) := by
  obtain ⟨a1, a2, a3⟩ := partL_facts hm f t
  obtain ⟨c1, c2, c3⟩ := mustE_zero hm
  refine ⟨by omega, fun r hr => ⟨(a1 r hr).2.2, ?_⟩⟩
  have := many_le_pages (fun r hr => (a1 r hr).2.2) hr
  omega

theorem fits_partL {l : List Run} (hm : mustE l = 0) (f t : Int) : fitsB (partL l f t) := by
  obtain ⟨a1, a2, a3⟩ := partL_facts hm f t
  obtain ⟨c1, c2, c3⟩ := mustE_zero hm
  exact ⟨by omega, by omega⟩

theorem RunsLL.four {w : World} {g : Nat} {A1 A2 A3 A4 : Option Addr} {c1 c2 c3 c4 : Nat} {l1 l2 l3 l4 : List Run} {t : TypeId}
    (h : w.heap[g]? = some (.cells #[.slice A1 l1.length c1, .slice A2 l2.length c2, .slice A3 l3.length c3, .slice A4 l4.length c4] t (0, 0)))
    (h1 : RunsC w A1 l1) (h2 : RunsC w A2 l2) (h3 : RunsC w A3 l3) (h4 : RunsC w A4 l4) : RunsLL w (some ⟨g, 0, none⟩) [l1, l2, l3, l4] := by
  intro k hk
  match k, hk with
  | 0, _ => exact ⟨g, 0, A1, c1, rfl, by simp [World.cell?, h], h1⟩
  | 1, _ => exact ⟨g, 0, A2, c2, rfl, by simp [World.cell?, h], h2⟩
  | 2, _ => exact ⟨g, 0, A3, c3, rfl, by simp [World.cell?, h], h3⟩
  | 3, _ => exact ⟨g, 0, A4, c4, rfl, by simp [World.cell?, h], h4⟩
  | n + 4, hk => simp only [List.length_cons, List.length_nil] at hk; omega

set_option maxRecDepth 100000 in
set_option maxHeartbeats 1000000 in
theorem put_any (l more : List Run) (A A2 : Option Addr) (c c2 : Nat) (page : Int) (w : World) (hm : mustE l = 0) (hm' : mustE more = 0)
    (hl : RunsC w A l) (hl2 : RunsC w A2 more) (hp : 0 ≤ page) (hp2 : page ≤ pagesL l) (hp3 : 0 < pagesL more) :
    Calls Try.prog 74 #[.slice A l.length c, .int .i64 page, .slice A2 more.length c2] w (PutPost l page more w) := by
  have hB0 := below_alloc (Below.refl _ w) (.cells #[.int .i64 0] 29)
  obtain ⟨c1, -, c3⟩ := mustE_zero hm
  obtain ⟨d1, -, d3⟩ := mustE_zero hm'
  have Hm := Lib.hid hm; have Hm' := Lib.hid hm'
  have HpL := Lib.hid hp2
  have dd1 : decide (0 ≤ page) = true := by simpa using hp
  have dd2 : decide (page ≤ 1073741824) = true := by simp; omega
  have dd3 : decide (pagesL l < page) = false := by simpa using hp2
  have hpm0 := pagesL_nonneg (l := more) (fun r hr => by have := (mustE_zero hm').2.1 r hr; omega)
  clear hm hm'
  go_enter_defers Try.func74, Try.ntmps74
  go_wp2_with fail
  refine (must_any l _ _ _ (by omega) (hl.below hB0)).mono ?_
  rintro e w1 ⟨⟨_, rfl⟩ | ⟨h0, _⟩, hB1⟩
  rotate_left
  · exact absurd Hm.out h0
  have hE1 := block_below (World.alloc_heap_new w (.cells #[.int .i64 0] 29)) hB1
  have hBw1 := below_then hB0 hB1
  clear hB1
  go_wp2_with fail
  refine (must_any more _ _ _ (by omega) (hl2.below hBw1)).mono ?_
  rintro e w2 ⟨⟨_, rfl⟩ | ⟨h0, _⟩, hB2⟩
  rotate_left
  · exact absurd Hm'.out h0
  have hE2 := block_below hE1 hB2
  have hBw2 := below_then hBw1 hB2
  clear hB2 hE1
  go_wp2_with fail
  refine (rneed_yes _ _).mono ?_
  rintro e w3 ⟨rfl, rfl⟩
  go_wp2_with fail
  refine (pages_any l _ _ _ (small_of_must Hm.out) (hl.below hBw2)).mono ?_
  rintro e w3 ⟨rfl, hB3⟩
  have hE3 := block_below hE2 hB3
  have hBw3 := below_then hBw2 hB3
  clear hB3 hE2
  go_wp2_with fail
  refine (pages_any more _ _ _ (small_of_must Hm'.out) (hl2.below hBw3)).mono ?_
  rintro e w4 ⟨rfl, hB4⟩
  have hE4 := block_below hE3 hB4
  have hBw4 := below_then hBw3 hB4
  clear hB4 hE3
  have dd4 : decide (0 < pagesL more) = true := by simpa using hp3
  go_wp2_with fail
  refine (part_any l _ _ 0 page _ (fair_of_must Hm.out) (by omega) (by have := HpL.out; omega) (hl.below hBw4)).mono ?_
  rintro e w5 ⟨⟨A5, c5, rfl, hown5⟩, hB5⟩
  have hE5 := block_below hE4 hB5
  have hBw5 := below_then hBw4 hB5
  have hr5 := RunsC.of_owns hown5
  clear hB5 hE4 hown5
  go_wp2_with fail
  refine (part_any l _ _ (page + pagesL more) (pagesL l) _ (fair_of_must Hm.out) (by omega) (by have := HpL.out; omega) (hl.below hBw5)).mono ?_
  rintro e w6 ⟨⟨A6, c6, rfl, hown6⟩, hB6⟩
  have hE6 := block_below hE5 hB6
  have hBw6 := below_then hBw5 hB6
  have hr6 := RunsC.of_owns hown6
  have hr56 := hr5.below hB6
  clear hB6 hE5 hown6
  go_wp2_with fail
  have hBw6' := below_alloc hBw6 (.cells #[.slice A5 (partL l 0 page).length c5, .slice none 0 0, .slice A2 more.length c2, .slice A6 (partL l (page + pagesL more) (pagesL l)).length c6] 44)
  have hE6' := heap_alloc_old' hE6 (.cells #[.slice A5 (partL l 0 page).length c5, .slice none 0 0, .slice A2 more.length c2, .slice A6 (partL l (page + pagesL more) (pagesL l)).length c6] 44)
  have hB66 := below_alloc (Below.refl _ w6) (.cells #[.slice A5 (partL l 0 page).length c5, .slice none 0 0, .slice A2 more.length c2, .slice A6 (partL l (page + pagesL more) (pagesL l)).length c6] 44)
  refine (joined_any [partL l 0 page, [], more, partL l (page + pagesL more) (pagesL l)] _ _ _ (by simpa using fairIn_put page Hm.out Hm'.out) (by simp)
    (RunsLL.four (A2 := none) (c2 := 0) (World.alloc_heap_new w6 _) (hr56.below hB66) (RunsC.nil _ _) (hl2.below hBw6') (hr6.below hB66))).mono ?_
  have hfl : normL [partL l 0 page, [], more, partL l (page + pagesL more) (pagesL l)].flatten = putX l page more := by simp [putX]
  rw [hfl]
  rintro e w7 ⟨⟨A7, c7, rfl, hown7⟩, hB7⟩
  have hE7 := block_below hE6' hB7
  have hBw7 := below_then hBw6' hB7
  have hr7 := RunsC.of_owns hown7
  have hown7' := ownsRow_mono (base' := w.heap.size + 1) hown7 (by have h1 := lt_of_block hE6; have h2 := hB66.size; exact Nat.le_trans h1 h2)
  clear hB7 hE6' hE6 hr56 hr6 hr5 hB66 hown7 hBw6'
  go_wp2_with fail
  refine (part_any l _ _ page (page + pagesL more) _ (fair_of_must Hm.out) (by have := HpL.out; omega) (by have := HpL.out; omega) (hl.below hBw7)).mono ?_
  rintro e w8 ⟨⟨A8, c8, rfl, hown8⟩, hB8⟩
  have hE8 := block_below hE7 hB8
  have hBw8 := below_then hBw7 hB8
  have hr8 := RunsC.of_owns hown8
  have hr78 := hr7.below hB8
  have hown8' := ownsRow_below hown7' hB8
  clear hB8 hE7 hr7 hown8 hown7'
  go_wp2_with fail
  refine (fits_any (putX l page more) _ _ _ (small_putX page Hm.out Hm'.out) hr78).mono ?_
  rintro e w9 ⟨⟨hf1, hf2, rfl⟩ | ⟨hf, rfl⟩, hB9⟩
  · have hE9 := block_below hE8 hB9
    have hBw9 := below_then hBw8 hB9
    have hown9 := ownsRow_below hown8' hB9
    have hr9 := hr8.below hB9
    clear hB9 hE8 hr8 hown8'
    go_wp2_with fail
    refine (fits_any (partL l page (page + pagesL more)) _ _ _ (small_partL Hm.out _ _) hr9).mono ?_
    rintro e w10 ⟨⟨-, -, rfl⟩ | ⟨hf, rfl⟩, hB10⟩
    rotate_left
    · exact absurd (fits_partL Hm.out _ _) hf
    have hE10 := block_below hE9 hB10
    have hBw10 := below_then hBw9 hB10
    have hown10 := Lib.hid (ownsRow_below hown9 hB10)
    clear hB10 hE9 hown9 hr9
    have hc10 := cell_of_one hE10
    have hz10 := free_of_one hE10
    have HE10 := Lib.hid hE10; clear hE10
    go_wp2_with fail
    have hc4 := cell_of_one (one_setCell (u := .int .i64 0) HE10.out)
    refine rdoor_ret ⟨_, by first | (simp [results, Try.results74, go_sem, hc4]; done) | (simp [results, Try.results74, go_sem, hc4]; rfl), .inl ⟨⟨hf1, hf2⟩, A7, c7, _, rfl, ?_⟩, ?_⟩
    · have ho := hown10.out
      exact ownsRow_mono (ownsRow_setCell_below ho (a := ⟨w.heap.size, 0, none⟩) (by dsimp only; omega) _) (by omega)
    · exact hBw10.setCell (p := ⟨w.heap.size, 0, none⟩) (Nat.le_refl _) _
  · have hE9 := block_below hE8 hB9
    have hBw9 := below_then hBw8 hB9
    have HE9 := Lib.hid hE9; clear hE9 hE8
    go_wp2_with fail
    have hc4 := cell_of_one (one_setCell (u := .int .i64 2) HE9.out)
    refine rdoor_fault HE9.out ⟨_, by first | (simp [results, Try.results74, go_sem, hc4]; done) | (simp [results, Try.results74, go_sem, hc4]; rfl), .inr ⟨hf, rfl⟩, ?_⟩
    exact hBw9.setCell (p := ⟨w.heap.size, 0, none⟩) (Nat.le_refl _) _
end Go.Proofs.Yteipclnlfanfeaa

/- move: need, caught, ok, Clone. -/
namespace Go.Proofs.Yteipclnlfanfeaa
open Go.RowKit

theorem need_yes (e : Int) (w : World) : Calls Try.prog 37 #[.bool true, .int .i64 e] w fun r w' => r = .returned (.tuple #[]) ∧ w = w' := by
  go_enter Try.func37, Try.ntmps37
  go_wp2
  go_end0
  exact ⟨rfl, rfl⟩

theorem need_no (e : Int) (w : World) : Calls Try.prog 37 #[.bool false, .int .i64 e] w fun r w' => r = faulted 110 e ∧ w = w' := by
  go_enter Try.func37, Try.ntmps37
  go_wp2
  exact ⟨rfl, rfl, rfl⟩

theorem need_if (b : Bool) (e : Int) (w : World) : Calls Try.prog 37 #[.bool b, .int .i64 e] w fun r w' => r = (if b = true then .returned (.tuple #[]) else faulted 110 e) ∧ w = w' := by
  cases b
  · exact (need_no e w).mono (fun _ _ h => by simpa using h)
  · exact (need_yes e w).mono (fun _ _ h => by simpa using h)

theorem ok_zero (w : World) : Calls Try.prog 47 #[.int .i64 0] w fun r w' => r = .returned (.tuple #[]) ∧ w = w' := by
  go_enter Try.func47, Try.ntmps47
  go_wp2_with (go_at_call 37; refine (need_yes _ _).mono ?_; rintro e w' ⟨rfl, rfl⟩)
  go_end0
  exact ⟨rfl, rfl⟩
set_option maxRecDepth 100000 in
set_option maxHeartbeats 400000 in
theorem caught_fault (p : Addr) (x e : Int) (w : World) (hc : w.cell? p = some (.int .i64 x)) (hz : w.frozen? p = false) :
    CallsD Try.prog 35 #[.pointer (some p)] (.panicking [{ v := .iface 110 (.int .i64 e), recovered := false }]) w fun r u' w' =>
      r = .returned (.tuple #[]) ∧ u' = .panicking [{ v := .iface 110 (.int .i64 e), recovered := true }] ∧ w' = w.setCell p (.int .i64 e) := by
  have hta : ∀ (e : Int) (w : World), (Instr.typeAssert (.iface 110 (.int .i64 e)) 20 110 true).run Try.prog w = .ok (.tuple #[.int .i64 e, .bool true]) w := fun _ _ => by kernel_rfl
  refine callsD_of_wpS Try.func35 rfl fun c₀ cs hu => ?_
  simp only [Try.ntmps35, List.size_toArray, List.length_cons, List.length_nil, Nat.reduceAdd, Nat.reduceSub, Array.replicate_succ, Array.replicate_zero, List.push_toArray, List.append_toArray, List.nil_append, List.cons_append]
  apply wpS_seq
  apply wpS_region
  simp [wpOpsS, go_sem, recoverD, hu, Exit.thenS]
  refine wpS_of_wp ?_
  clear hu
  go_wp2_with fail
  simp [bodyPostS, results, Try.results35]

set_option maxRecDepth 100000 in
set_option maxHeartbeats 400000 in
theorem caught_none (p : Addr) (w : World) :
    CallsD Try.prog 35 #[.pointer (some p)] .returning w fun r u' w' => r = .returned (.tuple #[]) ∧ u' = .returning ∧ w = w' := by
  refine callsD_of_wpS Try.func35 rfl fun c₀ cs hu => ?_
  simp only [Try.ntmps35, List.size_toArray, List.length_cons, List.length_nil, Nat.reduceAdd, Nat.reduceSub, Array.replicate_succ, Array.replicate_zero, List.push_toArray, List.append_toArray, List.nil_append, List.cons_append]
  apply wpS_seq
  apply wpS_region
  simp [wpOpsS, go_sem, recoverD, hu, Exit.thenS]
  refine wpS_of_wp ?_
  go_wp2_with fail
  cases c₀
  simp_all [bodyPostS, results, Try.results35]
theorem door_ret {fn : Func} {tmps : Array Value} {R : Ending → World → Prop} {b : Nat} {w : World} (h : ∃ v, (results fn tmps).run Try.prog w = .ok v w ∧ R (.returned v) w) :
    Leaves Try.prog fn tmps R [{ target := .fn (.func 35) #[], args := #[.pointer (some ⟨b, 0, none⟩)] }] .returning w := by
  refine leaves_cons (f := 35) (args := #[.pointer (some ⟨b, 0, none⟩)]) (by simp) (by simp [go_sem]) ?_
  refine (caught_none ⟨b, 0, none⟩ _).mono ?_
  rintro e u' w3 ⟨rfl, rfl, rfl⟩
  exact h

theorem door_fault {fn : Func} {tmps : Array Value} {R : Ending → World → Prop} {b : Nat} {w : World} {x e : Int} (hE : w.heap[b]? = some (.cells #[.int .i64 x] 29 (0, 0)))
    (h : ∃ v, (results fn tmps).run Try.prog (w.setCell ⟨b, 0, none⟩ (.int .i64 e)) = .ok v (w.setCell ⟨b, 0, none⟩ (.int .i64 e)) ∧ R (.returned v) (w.setCell ⟨b, 0, none⟩ (.int .i64 e))) :
    Leaves Try.prog fn tmps R [{ target := .fn (.func 35) #[], args := #[.pointer (some ⟨b, 0, none⟩)] }] (.panicking [{ v := .iface 110 (.int .i64 e), recovered := false }]) w := by
  refine leaves_cons (f := 35) (args := #[.pointer (some ⟨b, 0, none⟩)]) (by simp) (by simp [go_sem]) ?_
  refine (caught_fault ⟨b, 0, none⟩ x e _ (cell_of_one hE) (free_of_one hE)).mono ?_
  rintro e u' w3 ⟨rfl, rfl, rfl⟩
  exact h

set_option maxRecDepth 100000 in
set_option maxHeartbeats 400000 in
theorem caughtIn_fault (n : Nat) (p : Addr) (x e : Int) (w : World) (hc : w.cell? p = some (.int .i64 x)) (hz : w.frozen? p = false) :
    CallsDIn Fence.wide n Try.prog 35 #[.pointer (some p)] (.panicking [{ v := .iface 110 (.int .i64 e), recovered := false }]) w fun r u' w' =>
      r = .returned (.tuple #[]) ∧ u' = .panicking [{ v := .iface 110 (.int .i64 e), recovered := true }] ∧ w' = w.setCell p (.int .i64 e) := by
  have hta : ∀ (e : Int) (w : World), (Instr.typeAssert (.iface 110 (.int .i64 e)) 20 110 true).run Try.prog w = .ok (.tuple #[.int .i64 e, .bool true]) w := fun _ _ => by kernel_rfl
  refine callsDIn_of_wpSIn Try.func35 rfl trivial fun c₀ cs hu => ?_
  simp only [Try.ntmps35, List.size_toArray, List.length_cons, List.length_nil, Nat.reduceAdd, Nat.reduceSub, Array.replicate_succ, Array.replicate_zero, List.push_toArray, List.append_toArray, List.nil_append, List.cons_append]
  apply wpSIn_seq
  apply wpSIn_region
  simp [wpOpsSIn, go_sem, recoverD, hu, Exit.thenS]
  refine wpSIn_of_wpIn rfl ?_
  clear hu
  gi_wp2_with fail
  simp [bodyPostS, results, Try.results35]

set_option maxRecDepth 100000 in
set_option maxHeartbeats 400000 in
theorem caughtIn_none (n : Nat) (p : Addr) (w : World) :
    CallsDIn Fence.wide n Try.prog 35 #[.pointer (some p)] .returning w fun r u' w' => r = .returned (.tuple #[]) ∧ u' = .returning ∧ w = w' := by
  refine callsDIn_of_wpSIn Try.func35 rfl trivial fun c₀ cs hu => ?_
  simp only [Try.ntmps35, List.size_toArray, List.length_cons, List.length_nil, Nat.reduceAdd, Nat.reduceSub, Array.replicate_succ, Array.replicate_zero, List.push_toArray, List.append_toArray, List.nil_append, List.cons_append]
  apply wpSIn_seq
  apply wpSIn_region
  simp [wpOpsSIn, go_sem, recoverD, hu, Exit.thenS]
  refine wpSIn_of_wpIn rfl ?_
  gi_wp2_with fail
  cases c₀
  simp_all [bodyPostS, results, Try.results35]
theorem doorM_ret {n : Nat} {fn : Func} {tmps : Array Value} {R : Ending → World → Prop} {b : Nat} {w : World} (h : ∃ v, (results fn tmps).run Try.prog w = .ok v w ∧ R (.returned v) w) :
    LeavesInM Fence.wide n Try.prog fn tmps R [{ target := .fn (.func 35) #[], args := #[.pointer (some ⟨b, 0, none⟩)] }] .returning w := by
  refine ⟨by simp, .inr ⟨fun h => by simp [Fence.wide] at h, _, _, 35, #[.pointer (some ⟨b, 0, none⟩)], rfl, by simp [go_sem], fun _ _ => trivial, ?_⟩⟩
  refine (caughtIn_none _ ⟨b, 0, none⟩ _).mono ?_
  rintro e u' w3 ⟨rfl, rfl, rfl⟩
  exact h

theorem doorM_fault {n : Nat} {fn : Func} {tmps : Array Value} {R : Ending → World → Prop} {b : Nat} {w : World} {x e : Int} (hE : w.heap[b]? = some (.cells #[.int .i64 x] 29 (0, 0)))
    (h : ∃ v, (results fn tmps).run Try.prog (w.setCell ⟨b, 0, none⟩ (.int .i64 e)) = .ok v (w.setCell ⟨b, 0, none⟩ (.int .i64 e)) ∧ R (.returned v) (w.setCell ⟨b, 0, none⟩ (.int .i64 e))) :
    LeavesInM Fence.wide n Try.prog fn tmps R [{ target := .fn (.func 35) #[], args := #[.pointer (some ⟨b, 0, none⟩)] }] (.panicking [{ v := .iface 110 (.int .i64 e), recovered := false }]) w := by
  refine ⟨by simp, .inr ⟨fun h => by simp [Fence.wide] at h, _, _, 35, #[.pointer (some ⟨b, 0, none⟩)], rfl, by simp [go_sem], fun _ _ => trivial, ?_⟩⟩
  refine (caughtIn_fault _ ⟨b, 0, none⟩ x e _ (cell_of_one hE) (free_of_one hE)).mono ?_
  rintro e u' w3 ⟨rfl, rfl, rfl⟩
  exact h

theorem info54 : (Try.prog.info? 54).map (fun i => (i.zero, i.size, i.bytes)) = some (some (.agg #[.int .i64 0, .int .i64 0]), 2, 16) := by kernel_rfl
theorem info46 : (Try.prog.info? 46).map (fun i => (i.zero, i.size, i.bytes)) = some (some (.agg #[.int .i64 0, .slice none 0 0]), 2, 32) := by kernel_rfl

/-- the cells xs lie at A -/
def SrcC (w : World) (A : Option Addr) (n : Nat) (xs : List Value) : Prop :=
  xs.length = n * 2 ∧ (∀ u ∈ xs, u.oneCell' = true) ∧ (n = 0 ∨ ∃ b o, A = some ⟨b, o, none⟩ ∧ ∀ j u, xs[j]? = some u → w.cell? ⟨b, o + j, none⟩ = some u)

def ClonePost (t : TypeId) (n : Nat) (xs : List Value) (w : World) (e : Ending) (w' : World) : Prop :=
  (∃ A c, e = .returned (.slice A n c) ∧ w'.ownsRow w.heap.size t 2 (.slice A n c) n xs) ∧ Below w.heap.size w w'

set_option maxRecDepth 100000 in
set_option maxHeartbeats 400000 in
theorem clone89_any (n : Nat) (xs : List Value) (A : Option Addr) (c : Nat) (w : World) (hn : n ≤ 1099511627776) (hs : SrcC w A n xs) :
    Calls Try.prog 89 #[.slice A n c] w (ClonePost 54 n xs w) := by
  obtain ⟨i0, hi, hz0, hz1, hz2⟩ := info_parts info54
  obtain ⟨h1, h2, h3⟩ := hs
  cases A with
  | none =>
    obtain rfl : n = 0 := by
      rcases h3 with h | ⟨b, o, h, _⟩
      · exact h
      · cases h
    have hq : ∀ (c : Nat) (w : World), (binOp .eql 22 (.slice none 0 c) (.slice none 0 0)).run Try.prog w = .ok (.bool true) w := fun _ _ => by kernel_rfl
    go_enter Try.func89, Try.ntmps89
    go_wp2_with fail
    go_ret
    exact ⟨⟨none, 0, rfl, by simpa [List.length_eq_zero_iff.1 (by simpa using h1)] using World.ownsRow_nil _ _ _ _⟩, Below.refl _ _⟩
  | some a =>
    have H3 := Lib.hid h3; clear h3
    have hq : ∀ (a : Addr) (n c : Nat) (w : World), (binOp .eql 22 (.slice (some a) n c) (.slice none 0 0)).run Try.prog w = .ok (.bool false) w := fun _ _ _ _ => by kernel_rfl
    go_enter Try.func89, Try.ntmps89
    go_wp2_with ((at_builtin; refine wpList_append_own _ rfl _ _ 22 rfl w.heap.size 54 i0 (.agg #[.int .i64 0, .int .i64 0]) 2 16 Try.underlying22 hi hz0 hz1 hz2 rfl (by decide) _ 0 [] rfl (World.ownsRow_made w #[] 0 (Nat.le_refl _) (by simp) (by simp)) a n c xs rfl h1 ?c1 h2 ?c3 ?c4 ?c5 ?_))
    case c1 =>
      intro j u hu
      rcases H3.out with rfl | ⟨b, o, ha, hcell⟩
      · simp only [List.length_eq_zero_iff.1 (by simpa using h1)] at hu; simp at hu
      · cases ha
        have hadd : (⟨b, o, none⟩ : Addr).add j = ⟨b, o + j, none⟩ := by unfold Addr.add; split <;> simp_all
        rw [hadd]
        exact cell_below (hcell j u hu) ((Below.refl _ _).alloc (Nat.le_refl _) _)
    case c3 => simp only [maxLen]; omega
    case c4 => omega
    case c5 => simp
    intro v' w1 hown hg hf0
    obtain ⟨A', c', rfl⟩ := ownsRow_shape hown
    have hB : Below w.heap.size w w1 := ((Below.refl _ _).alloc (Nat.le_refl _) _).grown hg (by simp) (fun k e => by cases e; simp)
    have Hown := Lib.hid hown; clear hown hf0 hg
    go_wp2_with fail
    go_ret
    exact ⟨⟨A', c', rfl, Hown.out⟩, hB⟩

set_option maxRecDepth 100000 in
set_option maxHeartbeats 400000 in
theorem clone90_any (n : Nat) (xs : List Value) (A : Option Addr) (c : Nat) (w : World) (hn : n ≤ 1099511627776) (hs : SrcC w A n xs) :
    Calls Try.prog 90 #[.slice A n c] w (ClonePost 46 n xs w) := by
  obtain ⟨i0, hi, hz0, hz1, hz2⟩ := info_parts info46
  obtain ⟨h1, h2, h3⟩ := hs
  cases A with
  | none =>
    obtain rfl : n = 0 := by
      rcases h3 with h | ⟨b, o, h, _⟩
      · exact h
      · cases h
    have hq : ∀ (c : Nat) (w : World), (binOp .eql 23 (.slice none 0 c) (.slice none 0 0)).run Try.prog w = .ok (.bool true) w := fun _ _ => by kernel_rfl
    go_enter Try.func90, Try.ntmps90
    go_wp2_with fail
    go_ret
    exact ⟨⟨none, 0, rfl, by simpa [List.length_eq_zero_iff.1 (by simpa using h1)] using World.ownsRow_nil _ _ _ _⟩, Below.refl _ _⟩
  | some a =>
    have H3 := Lib.hid h3; clear h3
    have hq : ∀ (a : Addr) (n c : Nat) (w : World), (binOp .eql 23 (.slice (some a) n c) (.slice none 0 0)).run Try.prog w = .ok (.bool false) w := fun _ _ _ _ => by kernel_rfl
    go_enter Try.func90, Try.ntmps90
    go_wp2_with ((at_builtin; refine wpList_append_own _ rfl _ _ 23 rfl w.heap.size 46 i0 (.agg #[.int .i64 0, .slice none 0 0]) 2 32 Try.underlying23 hi hz0 hz1 hz2 rfl (by decide) _ 0 [] rfl (World.ownsRow_made w #[] 0 (Nat.le_refl _) (by simp) (by simp)) a n c xs rfl h1 ?c1 h2 ?c3 ?c4 ?c5 ?_))
    case c1 =>
      intro j u hu
      rcases H3.out with rfl | ⟨b, o, ha, hcell⟩
      · simp only [List.length_eq_zero_iff.1 (by simpa using h1)] at hu; simp at hu
      · cases ha
        have hadd : (⟨b, o, none⟩ : Addr).add j = ⟨b, o + j, none⟩ := by unfold Addr.add; split <;> simp_all
        rw [hadd]
        exact cell_below (hcell j u hu) ((Below.refl _ _).alloc (Nat.le_refl _) _)
    case c3 => simp only [maxLen]; omega
    case c4 => omega
    case c5 => simp
    intro v' w1 hown hg hf0
    obtain ⟨A', c', rfl⟩ := ownsRow_shape hown
    have hB : Below w.heap.size w w1 := ((Below.refl _ _).alloc (Nat.le_refl _) _).grown hg (by simp) (fun k e => by cases e; simp)
    have Hown := Lib.hid hown; clear hown hf0 hg
    go_wp2_with fail
    go_ret
    exact ⟨⟨A', c', rfl, Hown.out⟩, hB⟩

set_option maxRecDepth 100000 in
set_option maxHeartbeats 400000 in
theorem clone91_any (n : Nat) (xs : List Value) (A : Option Addr) (c : Nat) (w : World) (hn : n ≤ 1099511627776) (hs : SrcC w A n xs) :
    Calls Try.prog 91 #[.slice A n c] w (ClonePost 52 n xs w) := by
  obtain ⟨i0, hi, hz0, hz1, hz2⟩ := info_parts info52
  obtain ⟨h1, h2, h3⟩ := hs
  cases A with
  | none =>
    obtain rfl : n = 0 := by
      rcases h3 with h | ⟨b, o, h, _⟩
      · exact h
      · cases h
    have hq : ∀ (c : Nat) (w : World), (binOp .eql 44 (.slice none 0 c) (.slice none 0 0)).run Try.prog w = .ok (.bool true) w := fun _ _ => by kernel_rfl
    go_enter Try.func91, Try.ntmps91
    go_wp2_with fail
    go_ret
    exact ⟨⟨none, 0, rfl, by simpa [List.length_eq_zero_iff.1 (by simpa using h1)] using World.ownsRow_nil _ _ _ _⟩, Below.refl _ _⟩
  | some a =>
    have H3 := Lib.hid h3; clear h3
    have hq : ∀ (a : Addr) (n c : Nat) (w : World), (binOp .eql 44 (.slice (some a) n c) (.slice none 0 0)).run Try.prog w = .ok (.bool false) w := fun _ _ _ _ => by kernel_rfl
    go_enter Try.func91, Try.ntmps91
    go_wp2_with ((at_builtin; refine wpList_append_own _ rfl _ _ 44 rfl w.heap.size 52 i0 (.agg #[.int .i64 0, .int .i64 0]) 2 16 Try.underlying44 hi hz0 hz1 hz2 rfl (by decide) _ 0 [] rfl (World.ownsRow_made w #[] 0 (Nat.le_refl _) (by simp) (by simp)) a n c xs rfl h1 ?c1 h2 ?c3 ?c4 ?c5 ?_))
    case c1 =>
      intro j u hu
      rcases H3.out with rfl | ⟨b, o, ha, hcell⟩
      · simp only [List.length_eq_zero_iff.1 (by simpa using h1)] at hu; simp at hu
      · cases ha
        have hadd : (⟨b, o, none⟩ : Addr).add j = ⟨b, o + j, none⟩ := by unfold Addr.add; split <;> simp_all
        rw [hadd]
        exact cell_below (hcell j u hu) ((Below.refl _ _).alloc (Nat.le_refl _) _)
    case c3 => simp only [maxLen]; omega
    case c4 => omega
    case c5 => simp
    intro v' w1 hown hg hf0
    obtain ⟨A', c', rfl⟩ := ownsRow_shape hown
    have hB : Below w.heap.size w w1 := ((Below.refl _ _).alloc (Nat.le_refl _) _).grown hg (by simp) (fun k e => by cases e; simp)
    have Hown := Lib.hid hown; clear hown hf0 hg
    go_wp2_with fail
    go_ret
    exact ⟨⟨A', c', rfl, Hown.out⟩, hB⟩

end Go.Proofs.Yteipclnlfanfeaa

/- move: what a space holds; no code here. -/
namespace Go.Proofs.Yteipclnlfanfeaa
open Go.RowKit

structure Fil where
  no : Int
  runs : List Run
deriving DecidableEq

structure Step where
  no : Int
  from_ : Int
  to : Int
  many : Int
deriving DecidableEq

structure Pic where
  size : Int
  fixed : List Ext
  files : List Fil
deriving DecidableEq

structure Spc where
  pic : Pic
  tk : List Bool
  steps : List Step
deriving DecidableEq

def flatE : List Ext → List Value
  | [] => []
  | r :: l => .int .i64 r.page :: .int .i64 r.many :: flatE l
def flatS : List Step → List Value
  | [] => []
  | r :: l => .int .i64 r.no :: .int .i64 r.from_ :: .int .i64 r.to :: .int .i64 r.many :: flatS l

theorem flatE_length (l : List Ext) : (flatE l).length = l.length * 2 := by
  induction l with
  | nil => rfl
  | cons r l ih => simp [flatE, ih]; omega
theorem flatE_append (a b : List Ext) : flatE (a ++ b) = flatE a ++ flatE b := by
  induction a with
  | nil => rfl
  | cons r l ih => simp [flatE, ih]
theorem flatE_get (l : List Ext) (k : Nat) (h : k < l.length) : (flatE l)[k * 2]? = some (.int .i64 l[k].page) ∧ (flatE l)[k * 2 + 1]? = some (.int .i64 l[k].many) := by
  induction l generalizing k with
  | nil => simp at h
  | cons r l ih =>
    cases k with
    | zero => simp [flatE]
    | succ k =>
      have := ih k (by simpa using h)
      rw [show (k + 1) * 2 = k * 2 + 1 + 1 by omega]
      simpa [flatE] using this
theorem flatS_length (l : List Step) : (flatS l).length = l.length * 4 := by
  induction l with
  | nil => rfl
  | cons r l ih => simp [flatS, ih]; omega
theorem flatS_append (a b : List Step) : flatS (a ++ b) = flatS a ++ flatS b := by
  induction a with
  | nil => rfl
  | cons r l ih => simp [flatS, ih]

/-- the cells of a slice of extents -/
def ExtC (w : World) (A : Option Addr) (l : List Ext) : Prop :=
  ∀ k (h : k < l.length), ∃ b o, A = some ⟨b, o, none⟩ ∧ w.cell? ⟨b, o + k * 2, none⟩ = some (.int .i64 l[k].page) ∧ w.cell? ⟨b, o + k * 2 + 1, none⟩ = some (.int .i64 l[k].many)
/-- the cells of a slice of files -/
def FilC (w : World) (A : Option Addr) (l : List Fil) : Prop :=
  ∀ k (h : k < l.length), ∃ b o A' c', A = some ⟨b, o, none⟩ ∧ w.cell? ⟨b, o + k * 2, none⟩ = some (.int .i64 l[k].no) ∧ w.cell? ⟨b, o + k * 2 + 1, none⟩ = some (.slice A' l[k].runs.length c') ∧ RunsC w A' l[k].runs
/-- a picture's value -/
def PicC (w : World) (v : Value) (p : Pic) : Prop :=
  ∃ Ax cx Fa cf, v = .agg #[.int .i64 p.size, .slice Ax p.fixed.length cx, .slice Fa p.files.length cf] ∧ ExtC w Ax p.fixed ∧ FilC w Fa p.files

theorem ExtC.below {w w' : World} {A : Option Addr} {l : List Ext} (h : ExtC w A l) (hB : Below w.heap.size w w') : ExtC w' A l := by
  intro k hk
  obtain ⟨b, o, hA, h0, h1⟩ := h k hk
  exact ⟨b, o, hA, cell_below h0 hB, cell_below h1 hB⟩
theorem FilC.below {w w' : World} {A : Option Addr} {l : List Fil} (h : FilC w A l) (hB : Below w.heap.size w w') : FilC w' A l := by
  intro k hk
  obtain ⟨b, o, A', c', hA, h0, h1, h2⟩ := h k hk
  exact ⟨b, o, A', c', hA, cell_below h0 hB, cell_below h1 hB, h2.below hB⟩
theorem PicC.below {w w' : World} {v : Value} {p : Pic} (h : PicC w v p) (hB : Below w.heap.size w w') : PicC w' v p := by
  obtain ⟨Ax, cx, Fa, cf, h0, h1, h2⟩ := h
  exact ⟨Ax, cx, Fa, cf, h0, h1.below hB, h2.below hB⟩

/-- runs in a block of their own type -/
def RunsT (w : World) (A : Option Addr) (l : List Run) : Prop :=
  l = [] ∨ ∃ b cs, A = some ⟨b, 0, none⟩ ∧ w.heap[b]? = some (.cells cs 52 (0, 0)) ∧ ∀ k (h : k < l.length), cs[k * 2]? = some (.int .i64 l[k].to) ∧ cs[k * 2 + 1]? = some (.int .i64 l[k].many)
def ExtT (w : World) (A : Option Addr) (l : List Ext) : Prop :=
  l = [] ∨ ∃ b cs, A = some ⟨b, 0, none⟩ ∧ w.heap[b]? = some (.cells cs 54 (0, 0)) ∧ ∀ k (h : k < l.length), cs[k * 2]? = some (.int .i64 l[k].page) ∧ cs[k * 2 + 1]? = some (.int .i64 l[k].many)

theorem RunsT.c {w : World} {A : Option Addr} {l : List Run} (h : RunsT w A l) : RunsC w A l := by
  intro k hk
  rcases h with rfl | ⟨b, cs, rfl, hb, hc⟩
  · simp at hk
  · exact ⟨b, 0, rfl, by simp [World.cell?, hb, (hc k hk).1], by simp [World.cell?, hb, (hc k hk).2]⟩
theorem ExtT.c {w : World} {A : Option Addr} {l : List Ext} (h : ExtT w A l) : ExtC w A l := by
  intro k hk
  rcases h with rfl | ⟨b, cs, rfl, hb, hc⟩
  · simp at hk
  · exact ⟨b, 0, rfl, by simp [World.cell?, hb, (hc k hk).1], by simp [World.cell?, hb, (hc k hk).2]⟩

theorem ownsRow_block {w : World} {base : Nat} {e : TypeId} {size : Nat} {A : Option Addr} {n c : Nat} {xs : List Value} (h : w.ownsRow base e size (.slice A n c) n xs) :
    n = 0 ∨ ∃ (b : Nat) (cs : Array Value), A = some ⟨b, 0, none⟩ ∧ base ≤ b ∧ w.heap[b]? = some (.cells cs e (0, 0)) ∧ ∀ (j : Nat) u, xs[j]? = some u → cs[j]? = some u := by
  rcases h.2 with ⟨_, h0⟩ | ⟨g, cap, cur, he, hb, hg, _, _, _, ht⟩
  · exact .inl h0
  · cases he
    refine .inr ⟨g, cur, rfl, hb, hg, fun j u hu => ?_⟩
    rw [← ht, List.getElem?_take] at hu
    split at hu
    · simpa using hu
    · cases hu

theorem RunsT.of_owns {w : World} {base : Nat} {A : Option Addr} {c : Nat} {l : List Run} (h : w.ownsRow base 52 2 (.slice A l.length c) l.length (flatR l)) : RunsT w A l := by
  rcases ownsRow_block h with h0 | ⟨b, cs, hA, _, hb, hx⟩
  · exact .inl (List.length_eq_zero_iff.1 h0)
  · exact .inr ⟨b, cs, hA, hb, fun k hk => ⟨hx _ _ (flatR_get l k hk).1, hx _ _ (flatR_get l k hk).2⟩⟩
theorem ExtT.of_owns {w : World} {base : Nat} {A : Option Addr} {c : Nat} {l : List Ext} (h : w.ownsRow base 54 2 (.slice A l.length c) l.length (flatE l)) : ExtT w A l := by
  rcases ownsRow_block h with h0 | ⟨b, cs, hA, _, hb, hx⟩
  · exact .inl (List.length_eq_zero_iff.1 h0)
  · exact .inr ⟨b, cs, hA, hb, fun k hk => ⟨hx _ _ (flatE_get l k hk).1, hx _ _ (flatE_get l k hk).2⟩⟩

/-- files in the block F -/
def FilT (w : World) (F : Nat) (A : Option Addr) (l : List Fil) : Prop :=
  l = [] ∨ (A = some ⟨F, 0, none⟩ ∧ ∃ vs, w.heap[F]? = some (.cells vs 46 (0, 0)) ∧ ∀ k (h : k < l.length), vs[k * 2]? = some (.int .i64 l[k].no) ∧ ∃ A' c', vs[k * 2 + 1]? = some (.slice A' l[k].runs.length c') ∧ RunsT w A' l[k].runs)
theorem FilT.c {w : World} {F : Nat} {A : Option Addr} {l : List Fil} (h : FilT w F A l) : FilC w A l := by
  intro k hk
  rcases h with rfl | ⟨rfl, vs, hb, hc⟩
  · simp at hk
  · obtain ⟨h1, A', c', h2, h3⟩ := hc k hk
    exact ⟨F, 0, A', c', rfl, by simp [World.cell?, hb, h1], by simp [World.cell?, hb, h2], h3.c⟩

/-- the space s, in its blocks P, F, T -/
def SpC (n0 P F T : Nat) (s : Spc) (w : World) : Prop :=
  n0 ≤ P ∧ n0 ≤ F ∧ n0 ≤ T ∧ ∃ Ax cx Fa cf cT st,
    w.heap[P]? = some (.cells #[.int .i64 s.pic.size, .slice Ax s.pic.fixed.length cx, .slice Fa s.pic.files.length cf, .slice (some ⟨T, 0, none⟩) s.tk.length cT, st] 72 (0, 0)) ∧
    ExtT w Ax s.pic.fixed ∧ FilT w F Fa s.pic.files ∧ w.heap[T]? = some (.cells (s.tk.map .bool).toArray 4 (0, 0)) ∧ w.ownsRow n0 35 4 st s.steps.length (flatS s.steps)

/-- all blocks of cells stay -/
def CellsKept (w w' : World) : Prop := ∀ (k : Nat) c t f, w.heap[k]? = some (.cells c t f) → w'.heap[k]? = some (.cells c t f)

theorem CellsKept.of_below {w w' : World} (h : Below w.heap.size w w') : CellsKept w w' := fun _ _ _ _ hk => block_below hk h

theorem RunsT.kept {w w' : World} {A : Option Addr} {l : List Run} (h : RunsT w A l) (hk : ∀ (k : Nat) c f, w.heap[k]? = some (.cells c 52 f) → w'.heap[k]? = some (.cells c 52 f)) : RunsT w' A l := by
  rcases h with h | ⟨b, cs, hA, hb, hc⟩
  · exact .inl h
  · exact .inr ⟨b, cs, hA, hk _ _ _ hb, hc⟩
theorem ExtT.kept {w w' : World} {A : Option Addr} {l : List Ext} (h : ExtT w A l) (hk : ∀ (k : Nat) c f, w.heap[k]? = some (.cells c 54 f) → w'.heap[k]? = some (.cells c 54 f)) : ExtT w' A l := by
  rcases h with h | ⟨b, cs, hA, hb, hc⟩
  · exact .inl h
  · exact .inr ⟨b, cs, hA, hk _ _ _ hb, hc⟩
theorem FilT.kept {w w' : World} {F : Nat} {A : Option Addr} {l : List Fil} (h : FilT w F A l) (hk : ∀ (k : Nat) c f, w.heap[k]? = some (.cells c 52 f) → w'.heap[k]? = some (.cells c 52 f))
    (hF : ∀ c f, w.heap[F]? = some (.cells c 46 f) → w'.heap[F]? = some (.cells c 46 f)) : FilT w' F A l := by
  rcases h with h | ⟨hA, vs, hb, hc⟩
  · exact .inl h
  · refine .inr ⟨hA, vs, hF _ _ hb, fun k hk' => ?_⟩
    obtain ⟨h1, A', c', h2, h3⟩ := hc k hk'
    exact ⟨h1, A', c', h2, h3.kept hk⟩
theorem ownsRow_kept {w w' : World} {base : Nat} {e : TypeId} {size : Nat} {v : Value} {n : Nat} {xs : List Value} (h : w.ownsRow base e size v n xs) (hk : ∀ (k : Nat) c f, w.heap[k]? = some (.cells c e f) → w'.heap[k]? = some (.cells c e f)) : w'.ownsRow base e size v n xs := by
  refine ⟨h.1, ?_⟩
  rcases h.2 with hn | ⟨g, cap, cur, rfl, hb, hgg, rest⟩
  · exact .inl hn
  · exact .inr ⟨g, cap, cur, rfl, hb, hk _ _ _ hgg, rest⟩

theorem SpC.kept {n0 P F T : Nat} {s : Spc} {w w' : World} (h : SpC n0 P F T s w) (hk : CellsKept w w') : SpC n0 P F T s w' := by
  obtain ⟨a1, a2, a3, Ax, cx, Fa, cf, cT, st, h1, h2, h3, h4, h5⟩ := h
  exact ⟨a1, a2, a3, Ax, cx, Fa, cf, cT, st, hk _ _ _ _ h1, h2.kept (fun _ _ _ => hk _ _ _ _), h3.kept (fun _ _ _ => hk _ _ _ _) (fun _ _ => hk _ _ _ _), hk _ _ _ _ h4, ownsRow_kept h5 (fun _ _ _ => hk _ _ _ _)⟩
theorem SpC.below {n0 P F T : Nat} {s : Spc} {w w' : World} (h : SpC n0 P F T s w) (hB : Below w.heap.size w w') : SpC n0 P F T s w' := h.kept (.of_below hB)

/-- a box of another type is written -/
theorem SpC.setBox {n0 P F T : Nat} {s : Spc} {w : World} (h : SpC n0 P F T s w) {p : Addr} {c : Array Value} {t : TypeId} {f : Nat × Nat} (hp : w.heap[p.block]? = some (.cells c t f))
    (ht : t ≠ 72 ∧ t ≠ 46 ∧ t ≠ 35 ∧ t ≠ 52 ∧ t ≠ 54 ∧ (t = 4 → p.block ≠ T)) (v : Value) : SpC n0 P F T s (w.setCell p v) := by
  have hne : ∀ (k : Nat) c' t' f', w.heap[k]? = some (.cells c' t' f') → t' ≠ t → (w.setCell p v).heap[k]? = some (.cells c' t' f') := fun k c' t' f' hk hne =>
    (Below.heap_setCell _ _ _ _ (fun e => by subst e; rw [hp] at hk; cases hk; exact hne rfl)).trans hk
  obtain ⟨a1, a2, a3, Ax, cx, Fa, cf, cT, st, h1, h2, h3, h4, h5⟩ := h
  obtain ⟨t1, t2, t3, t4, t5, t6⟩ := ht
  refine ⟨a1, a2, a3, Ax, cx, Fa, cf, cT, st, hne _ _ _ _ h1 (fun e => t1 e.symm), h2.kept (fun _ _ _ hk => hne _ _ _ _ hk (fun e => t5 e.symm)), h3.kept (fun _ _ _ hk => hne _ _ _ _ hk (fun e => t4 e.symm)) (fun _ _ hk => hne _ _ _ _ hk (fun e => t2 e.symm)), ?_, ownsRow_kept h5 (fun _ _ _ hk => hne _ _ _ _ hk (fun e => t3 e.symm))⟩
  by_cases e : t = 4
  · exact (Below.heap_setCell _ _ _ _ (fun e' => t6 e e'.symm)).trans h4
  · exact hne _ _ _ _ h4 (fun e' => e e'.symm)

/-- but for the blocks of a space and lists of steps, all stays -/
def KeepS (P F T : Nat) (w w' : World) : Prop :=
  ∀ (k : Nat) (o : Obj), w.heap[k]? = some o → k ≠ P → k ≠ F → k ≠ T → (∀ c f, o ≠ .cells c 35 f) → w'.heap[k]? = some o
theorem KeepS.refl (P F T : Nat) (w : World) : KeepS P F T w w := fun _ _ h _ _ _ _ => h
theorem KeepS.trans {P F T : Nat} {w1 w2 w3 : World} (h : KeepS P F T w1 w2) (k : KeepS P F T w2 w3) : KeepS P F T w1 w3 :=
  fun i o hi h1 h2 h3 h4 => k i o (h i o hi h1 h2 h3 h4) h1 h2 h3 h4
theorem KeepS.of_below {P F T : Nat} {w w' : World} (h : Below w.heap.size w w') : KeepS P F T w w' := fun _ _ hk _ _ _ _ => block_below hk h

/-- what a call on a space leaves -/
def FrS (n0 P F T : Nat) (w w' : World) : Prop := Below n0 w w' ∧ KeepS P F T w w'
theorem FrS.refl (n0 P F T : Nat) (w : World) : FrS n0 P F T w w := ⟨Below.refl _ _, KeepS.refl _ _ _ _⟩
theorem FrS.trans {n0 P F T : Nat} {w1 w2 w3 : World} (h : FrS n0 P F T w1 w2) (k : FrS n0 P F T w2 w3) : FrS n0 P F T w1 w3 := ⟨h.1.trans k.1, h.2.trans k.2⟩
theorem FrS.below {n0 P F T : Nat} {w1 w2 w3 : World} (h : FrS n0 P F T w1 w2) (hB : Below w2.heap.size w2 w3) (hn : n0 ≤ w2.heap.size) : FrS n0 P F T w1 w3 :=
  h.trans ⟨hB.mono hn, KeepS.of_below hB⟩

/-- a box outside the space stays -/
theorem FrS.box {n0 P F T : Nat} {w w' : World} {s : Spc} (h : FrS n0 P F T w w') (hs : SpC n0 P F T s w) {k : Nat} {c : Array Value} {t : TypeId} {f : Nat × Nat} (hk : w.heap[k]? = some (.cells c t f))
    (ht : t ≠ 72 ∧ t ≠ 35 ∧ k ≠ F ∧ (t = 4 → k ≠ T)) : w'.heap[k]? = some (.cells c t f) := by
  obtain ⟨a1, a2, a3, Ax, cx, Fa, cf, cT, st, h1, h2, h3, h4, h5⟩ := hs
  refine h.2 k _ hk (fun e => ?_) ht.2.2.1 (fun e => ?_) (fun c f e => ?_)
  · subst e; rw [hk] at h1; cases h1; exact ht.1 rfl
  · subst e; rw [hk] at h4; cases h4; exact ht.2.2.2 rfl rfl
  · cases e; exact ht.2.1 rfl

/-- n pages from a on made taken, or free; none if one was so -/
def takeL (tk : List Bool) (a : Nat) (is : Bool) : Nat → Option (List Bool)
  | 0 => some tk
  | n + 1 => match takeL tk a is n with
    | none => none
    | some t => if t[a + n]? = some (!is) then some (t.set (a + n) is) else none
theorem takeL_length {tk t : List Bool} {a n : Nat} {is : Bool} (h : takeL tk a is n = some t) : t.length = tk.length := by
  induction n generalizing t with
  | zero => simp [takeL] at h; subst h; rfl
  | succ n ih =>
    simp only [takeL] at h
    split at h
    · cases h
    · rename_i t' ht
      split at h
      · cases h; simpa using ih ht
      · cases h
theorem takeL_none {tk : List Bool} {a k n : Nat} {is : Bool} (h : takeL tk a is k = none) (hk : k ≤ n) : takeL tk a is n = none := by
  induction n with
  | zero => obtain rfl : k = 0 := by omega
            exact h
  | succ n ih =>
    by_cases e : k = n + 1
    · subst e; exact h
    · simp only [takeL]; rw [ih (by omega)]

theorem SpC.cellP {n0 P F T : Nat} {s : Spc} {w : World} (h : SpC n0 P F T s w) : ∃ Ax cx Fa cf cT st,
    w.cell? ⟨P, 0, none⟩ = some (.int .i64 s.pic.size) ∧ w.cell? ⟨P, 1, none⟩ = some (.slice Ax s.pic.fixed.length cx) ∧ w.cell? ⟨P, 2, none⟩ = some (.slice Fa s.pic.files.length cf) ∧
    w.cell? ⟨P, 3, none⟩ = some (.slice (some ⟨T, 0, none⟩) s.tk.length cT) ∧ w.cell? ⟨P, 4, none⟩ = some st ∧ ExtT w Ax s.pic.fixed ∧ FilT w F Fa s.pic.files ∧ w.ownsRow n0 35 4 st s.steps.length (flatS s.steps) := by
  obtain ⟨a1, a2, a3, Ax, cx, Fa, cf, cT, st, h1, h2, h3, h4, h5⟩ := h
  exact ⟨Ax, cx, Fa, cf, cT, st, by simp [World.cell?, h1], by simp [World.cell?, h1], by simp [World.cell?, h1], by simp [World.cell?, h1], by simp [World.cell?, h1], h2, h3, h5⟩
theorem SpC.cellT {n0 P F T : Nat} {s : Spc} {w : World} (h : SpC n0 P F T s w) {i : Nat} (hi : i < s.tk.length) : w.cell? ⟨T, i, none⟩ = some (.bool s.tk[i]) ∧ w.frozen? ⟨T, i, none⟩ = false := by
  obtain ⟨a1, a2, a3, Ax, cx, Fa, cf, cT, st, h1, h2, h3, h4, h5⟩ := h
  exact ⟨by simp [World.cell?, h4, hi], by simp [World.frozen?, h4]⟩

theorem heap_setCell_at {w : World} {b o : Nat} {c : Array Value} {t : TypeId} {f : Nat × Nat} (h : w.heap[b]? = some (.cells c t f)) (v : Value) :
    (w.setCell ⟨b, o, none⟩ v).heap[b]? = some (.cells (c.setIfInBounds o v) t f) := by
  obtain ⟨hlt, hb⟩ := Array.getElem?_eq_some_iff.1 h
  simp [World.setCell, Array.getElem?_modify, h]

theorem SpC.setTk {n0 P F T : Nat} {s : Spc} {w : World} (h : SpC n0 P F T s w) (i : Nat) (b : Bool) :
    SpC n0 P F T { s with tk := s.tk.set i b } (w.setCell ⟨T, i, none⟩ (.bool b)) := by
  obtain ⟨a1, a2, a3, Ax, cx, Fa, cf, cT, st, h1, h2, h3, h4, h5⟩ := h
  have hne : ∀ (k : Nat) c' t' f', w.heap[k]? = some (.cells c' t' f') → t' ≠ 4 → (w.setCell ⟨T, i, none⟩ (.bool b)).heap[k]? = some (.cells c' t' f') := fun k c' t' f' hk hne =>
    (Below.heap_setCell _ _ _ _ (fun e => by dsimp only at e; subst e; rw [h4] at hk; cases hk; exact hne rfl)).trans hk
  refine ⟨a1, a2, a3, Ax, cx, Fa, cf, cT, st, ?_, h2.kept (fun _ _ _ hk => hne _ _ _ _ hk (by decide)), h3.kept (fun _ _ _ hk => hne _ _ _ _ hk (by decide)) (fun _ _ hk => hne _ _ _ _ hk (by decide)), ?_, ownsRow_kept h5 (fun _ _ _ hk => hne _ _ _ _ hk (by decide))⟩
  · simpa using hne _ _ _ _ h1 (by decide)
  · rw [heap_setCell_at h4]; simp [List.map_set]

theorem FrS.setTk {n0 P F T : Nat} {s : Spc} {w : World} (h : SpC n0 P F T s w) (i : Nat) (v : Value) : FrS n0 P F T w (w.setCell ⟨T, i, none⟩ v) :=
  ⟨(Below.refl _ _).setCell (p := ⟨T, i, none⟩) h.2.2.1 _, fun k o hk _ _ hT _ => (Below.heap_setCell _ _ _ _ hT).trans hk⟩

end Go.Proofs.Yteipclnlfanfeaa

/- move: take. -/
namespace Go.Proofs.Yteipclnlfanfeaa
open Go.RowKit

def TakePost (n0 P F T : Nat) (s : Spc) (a : Nat) (is : Bool) (n : Nat) (w : World) (e : Ending) (w' : World) : Prop :=
  ((∃ t, takeL s.tk a is n = some t ∧ e = .returned (.tuple #[]) ∧ SpC n0 P F T { s with tk := t } w') ∨ (takeL s.tk a is n = none ∧ e = faulted 110 9)) ∧ FrS n0 P F T w w'

/-- the block T alone turns -/
def OnlyT (T : Nat) (w w' : World) : Prop := ∀ (k : Nat) (o : Obj), w.heap[k]? = some o → k ≠ T → w'.heap[k]? = some o
theorem OnlyT.refl (T : Nat) (w : World) : OnlyT T w w := fun _ _ h _ => h
theorem OnlyT.trans {T : Nat} {w1 w2 w3 : World} (h : OnlyT T w1 w2) (k : OnlyT T w2 w3) : OnlyT T w1 w3 := fun i o hi hT => k i o (h i o hi hT) hT
theorem OnlyT.set (T : Nat) (w : World) (i : Nat) (v : Value) : OnlyT T w (w.setCell ⟨T, i, none⟩ v) := fun k o hk hT => (Below.heap_setCell _ _ _ _ hT).trans hk

set_option maxRecDepth 100000 in
set_option maxHeartbeats 1000000 in
theorem take_only (n0 P F T : Nat) (s : Spc) (page many : Nat) (is : Bool) (w : World) (hs : SpC n0 P F T s w) (hlen : s.tk.length ≤ 1000000) (hpm : page + many ≤ s.tk.length) :
    Calls Try.prog 72 #[.pointer (some ⟨P, 0, none⟩), .int .i64 page, .int .i64 many, .bool is] w (fun e w' => TakePost n0 P F T s page is many w e w' ∧ OnlyT T w w') := by
  go_enter Try.func72, Try.ntmps72
  go_wp2_with fail
  go_loopw [8] (fun i wr => ∃ (k : Nat) (t : List Bool), k ≤ many ∧ i = .int .i64 ((page : Int) + k) ∧ takeL s.tk page is k = some t ∧ SpC n0 P F T { s with tk := t } wr ∧ FrS n0 P F T w wr ∧ OnlyT T w wr) (fun i _ => (page + many - (intOf i)).toNat)
  case atStart => exact ⟨0, s.tk, by omega, by simp, rfl, hs, FrS.refl _ _ _ _ _, OnlyT.refl _ _⟩
  case round =>
    obtain ⟨k, t, hk, rfl, ht, hS, hFr, hO⟩ := hrel
    by_cases hlt : k < many
    · have hlt' : page + k < t.length := by rw [takeL_length ht]; omega
      obtain ⟨Ax, cx, Fa, cf, cT, st, -, -, -, hc3, -⟩ := hS.cellP
      obtain ⟨hcT, hzT⟩ := hS.cellT hlt'
      dsimp only at hc3 hcT
      have HS := Lib.hid hS; clear hS
      have HFr := Lib.hid hFr; clear hFr
      have Ht := Lib.hid ht; clear ht
      by_cases hb : t[page + k] = !is
      · have hq : (!(t[page + k] == is)) = true := by rw [hb]; cases is <;> rfl
        go_wp2_with fail
        refine (need_yes _ _).mono ?_
        rintro e w' ⟨rfl, rfl⟩
        go_wp2_with fail
        refine ⟨⟨k + 1, t.set (page + k) is, by omega, by simp; omega, ?_, HS.out.setTk _ _, HFr.out.trans (FrS.setTk HS.out _ _), hO.trans (OnlyT.set _ _ _ _)⟩, ?_⟩
        · simp only [takeL]; rw [Ht.out]; simp only; rw [List.getElem?_eq_getElem hlt', hb]; simp
        · simp [intOf]; omega
      · have hq : (!(t[page + k] == is)) = false := by
          cases h1 : t[page + k] <;> cases is <;> simp_all
        go_wp2_with fail
        refine (need_no _ _).mono ?_
        rintro e w' ⟨rfl, rfl⟩
        go_wp2_with fail
        refine ⟨rfl, ⟨.inr ⟨?_, rfl⟩, HFr.out⟩, hO⟩
        refine takeL_none (k := k + 1) ?_ (by omega)
        simp only [takeL]; rw [Ht.out]; simp only; rw [List.getElem?_eq_getElem hlt', if_neg]
        intro e; exact hb (by simpa using e)
    · obtain rfl : k = many := by omega
      go_wp2_with fail
      go_end0
      exact ⟨⟨.inl ⟨t, ht, rfl, hS⟩, hFr⟩, hO⟩
theorem take_any (n0 P F T : Nat) (s : Spc) (page many : Nat) (is : Bool) (w : World) (hs : SpC n0 P F T s w) (hlen : s.tk.length ≤ 1000000) (hpm : page + many ≤ s.tk.length) :
    Calls Try.prog 72 #[.pointer (some ⟨P, 0, none⟩), .int .i64 page, .int .i64 many, .bool is] w (TakePost n0 P F T s page is many w) :=
  (take_only n0 P F T s page many is w hs hlen hpm).mono fun _ _ h => h.1

theorem take_int2 (n0 P F T : Nat) (s : Spc) (page many : Int) (is : Bool) (w : World) (hp : 0 ≤ page) (hm : 0 ≤ many) (hs : SpC n0 P F T s w) (hlen : s.tk.length ≤ 1000000) (hpm : page + many ≤ s.tk.length) :
    Calls Try.prog 72 #[.pointer (some ⟨P, 0, none⟩), .int .i64 page, .int .i64 many, .bool is] w (fun e w' => TakePost n0 P F T s page.toNat is many.toNat w e w' ∧ OnlyT T w w') := by
  obtain ⟨a, rfl⟩ := Int.eq_ofNat_of_zero_le hp
  obtain ⟨b, rfl⟩ := Int.eq_ofNat_of_zero_le hm
  simpa using take_only n0 P F T s a b is w hs hlen (by omega)

end Go.Proofs.Yteipclnlfanfeaa

/- A region that draws its order, whose last operation writes what others read. -/
namespace Go.Proofs.Yteipclnlfanfeaa
section
variable {F : Fence} {n : Nat} {P : Program} {ops : Array Oper} {Q : Exit → Act → World → Prop} {md : Region.Mode} {C : World → Prop}

/-- what is listed has all that it waits for listed -/
def closedB (md : Region.Mode) (ops : Array Oper) (listed : Array Bool) : Bool :=
  (List.range ops.size).all fun j => match ops[j]? with
    | some o => !(listed.getD j true) || o.after.all fun e => !(Region.binds md e) || listed.getD e.on false
    | none => true
/-- operation x waits for operation i, by at most f steps -/
def waitsB (md : Region.Mode) (ops : Array Oper) (i : Nat) : Nat → Nat → Bool
  | 0, _ => false
  | f + 1, x => match ops[x]? with
    | some o => o.after.any fun e => Region.binds md e && (e.on == i || waitsB md ops i f e.on)
    | none => false

theorem closed_spec {md : Region.Mode} {ops : Array Oper} {listed : Array Bool} (h : closedB md ops listed = true) {j : Nat} {o : Oper} (ho : ops[j]? = some o) (hj : listed.getD j true = true) {e : Edge} (he : e ∈ o.after) (hb : Region.binds md e = true) : listed.getD e.on false = true := by
  have hlt : j < ops.size := (Array.getElem?_eq_some_iff.1 ho).1
  have := List.all_eq_true.1 h j (List.mem_range.2 hlt)
  simp only [ho, hj, Bool.not_true, Bool.false_or] at this
  have := Array.all_eq_true_iff_forall_mem.1 this e he
  simpa [hb] using this

theorem closed_set {md : Region.Mode} {ops : Array Oper} {listed : Array Bool} (h : closedB md ops listed = true) {j : Nat} (hj : j ∈ Region.ready md ops listed) : closedB md ops (listed.setIfInBounds j true) = true := by
  obtain ⟨hun, oj, hoj, hall⟩ := mem_ready.1 hj
  have up : ∀ k, listed.getD k false = true → (listed.setIfInBounds j true).getD k false = true := fun k hk => by
    by_cases e : j = k
    · subst e
      by_cases hl : j < listed.size
      · simp [hl]
      · simp [hl] at hk
    · rw [getD_set_ne false e]; exact hk
  refine List.all_eq_true.2 fun k hk => ?_
  cases hok : ops[k]? with
  | none => rfl
  | some o =>
    dsimp only
    by_cases hlk : (listed.setIfInBounds j true).getD k true = true
    · rw [hlk]
      simp only [Bool.not_true, Bool.false_or]
      refine Array.all_eq_true_iff_forall_mem.2 fun e he => ?_
      by_cases hb : Region.binds md e = true
      · rw [hb]
        simp only [Bool.not_true, Bool.false_or]
        refine up _ ?_
        by_cases ejk : j = k
        · subst ejk; rw [hoj] at hok; cases hok; exact hall e he hb
        · rw [getD_set_ne true ejk] at hlk; exact closed_spec h hok hlk he hb
      · simp [hb]
    · simp [hlk]

theorem waits_listed {md : Region.Mode} {ops : Array Oper} {listed : Array Bool} (h : closedB md ops listed = true) {i : Nat} : ∀ (f x : Nat) (o : Oper), ops[x]? = some o →
    (∀ e ∈ o.after, Region.binds md e = true → listed.getD e.on false = true) → waitsB md ops i f x = true → listed.getD i false = true := by
  intro f
  induction f with
  | zero => intro x o _ _ hw; simp [waitsB] at hw
  | succ f ih =>
    intro x o ho hall hw
    simp only [waitsB, ho, Array.any_eq_true', Bool.and_eq_true, Bool.or_eq_true, beq_iff_eq] at hw
    obtain ⟨e, he, hb, hw⟩ := hw
    have hl := hall e he hb
    rcases hw with rfl | hw
    · exact hl
    · cases hoe : ops[e.on]? with
      | none => cases f <;> simp [waitsB, hoe] at hw
      | some oe =>
        refine ih e.on oe hoe (fun e' he' hb' => closed_spec h hoe ?_ he' hb') hw
        rcases Nat.lt_or_ge e.on listed.size with h' | h'
        · simp [h'] at hl ⊢; exact hl
        · simp [Array.getElem?_eq_none h'] at hl

/-- whatever order is picked; every world on the way, but behind operation L, is one of the class -/
def anyL (F : Fence) (n : Nat) (P : Program) (md : Region.Mode) (ops : Array Oper) (L : Nat) (C : World → Prop) (Q : Exit → Act → World → Prop) : Nat → Array Bool → Act → World → Prop
  | 0, listed, a, w => Region.ready md ops listed = [] ∧ Q .normal a w
  | f + 1, listed, a, w =>
    (Region.ready md ops listed = [] → Q .normal a w) ∧
    ∀ i ∈ Region.ready md ops listed, wpOpIn F n P ops Q i (fun a' w' => (i ≠ L → C w') ∧ anyL F n P md ops L C Q f (listed.setIfInBounds i true) a' w') a w

theorem wpAnyIn_of_anyL {L : Nat} : ∀ (f : Nat) (listed : Array Bool) (a : Act) (w : World), anyL F n P md ops L C Q f listed a w → wpAnyIn F n P md ops Q f listed a w
  | 0, _, _, _, h => h
  | f + 1, _, _, _, h => ⟨h.1, fun i hi => wpOpIn_mono (fun a' w' h' => wpAnyIn_of_anyL f _ a' w' h'.2) (h.2 i hi)⟩

theorem anyL_first {L : Nat} {i : Nat} {oi : Oper} {v : Value} (hro : F.round = none) (hi : ops[i]? = some oi) (hsel : ∀ (j : Nat) (o : Oper) cs b, ops[j]? = some o → o.op ≠ .select cs b)
    (hQ : ∀ c a w, Q (.panic c) (a.put oi.dst v) w → Q (.panic c) a w) (g : Nat) (hwt : waitsB md ops i g L = true) :
    ∀ (fuel : Nat) (listed : Array Bool) (a : Act) (w : World), C w → closedB md ops listed = true →
      (∀ j oj, ops[j]? = some oj → j ≠ i → listed.getD j true = false → (∀ e ∈ oj.after, Region.binds md e = true → e.on ≠ i) → oi.apart ops oj = true) →
      i ∈ Region.ready md ops listed → YieldsC P ops C oi v a →
      anyL F n P md ops L C Q fuel (listed.setIfInBounds i true) (a.put oi.dst v) w → anyL F n P md ops L C Q (fuel + 1) listed a w := by
  intro fuel
  induction fuel with
  | zero =>
    intro listed a w hw _ _ hr hy H
    refine ⟨fun h => (by rw [h] at hr; cases hr), fun j hj => ?_⟩
    by_cases hji : j = i
    · subst hji; exact hy.wpOpIn hro hi hw ⟨fun _ => hw, H⟩
    · have := ready_mono hj hji
      rw [H.1] at this
      cases this
  | succ fuel ih =>
    intro listed a w hw hcl hfree hr hy H
    refine ⟨fun h => (by rw [h] at hr; cases hr), fun j hj => ?_⟩
    by_cases hji : j = i
    · subst hji; exact hy.wpOpIn hro hi hw ⟨fun _ => hw, H⟩
    · have hjL : j ≠ L := fun e => by
        subst e
        obtain ⟨_, oj, hoj, hall⟩ := mem_ready.1 hj
        have h1 := waits_listed hcl g j oj hoj hall hwt
        have h0 := (mem_ready.1 hr).1
        rcases Nat.lt_or_ge i listed.size with h' | h'
        · simp [h'] at h0 h1; rw [h0] at h1; cases h1
        · simp [Array.getElem?_eq_none h'] at h1
      have h1 := H.2 j (ready_mono hj hji)
      obtain ⟨hjun, oj, hoj, hall⟩ := mem_ready.1 hj
      have hnot : ∀ e ∈ oj.after, Region.binds md e = true → e.on ≠ i := fun e he hb heq => by
        have h1 := hall e he hb
        have h0 := (mem_ready.1 hr).1
        rw [heq] at h1
        rcases Nat.lt_or_ge i listed.size with h' | h'
        · simp [h'] at h0 h1; rw [h0] at h1; cases h1
        · simp [Array.getElem?_eq_none h'] at h1
      have h2 := wpOpIn_putC hro hoj (hfree j oj hoj hji hjun hnot) (fun cs b => hsel i oi cs b hi) (fun cs b => hsel j oj cs b hoj) hQ hy h1
      have hfree' : ∀ k ok, ops[k]? = some ok → k ≠ i → (listed.setIfInBounds j true).getD k true = false →
          (∀ e ∈ ok.after, Region.binds md e = true → e.on ≠ i) → oi.apart ops ok = true := fun k ok hk hki hun hno => by
        refine hfree k ok hk hki ?_ hno
        by_cases hjk : j = k
        · subst hjk; exact hjun
        · rw [getD_set_ne true hjk] at hun; exact hun
      refine wpOpIn_mono (fun a' w' h3 => ⟨h3.2.1, ih (listed.setIfInBounds j true) a' w' (h3.2.1 hjL) (closed_set hcl hj) hfree' (ready_mono hr (Ne.symm hji)) h3.1 ?_⟩) h2
      rw [Array.setIfInBounds_comm _ _ hji]
      exact h3.2.2

/-- one operation is taken first -/
theorem anyL_take {L : Nat} {i : Nat} {oi : Oper} {fuel : Nat} {listed : Array Bool} {a : Act} {w : World} (v : Value) (hro : F.round = none) (hi : ops[i]? = some oi)
    (hs : Region.noSelect ops = true) (hf : Region.free md ops listed i = true) (hr : (Region.ready md ops listed).contains i = true) (hcl : closedB md ops listed = true) (hwt : waitsB md ops i ops.size L = true)
    (hQ : ∀ c a w, Q (.panic c) (a.put oi.dst v) w → Q (.panic c) a w) (hw : C w) (hy : YieldsC P ops C oi v a)
    (h : anyL F n P md ops L C Q fuel (listed.setIfInBounds i true) (a.put oi.dst v) w) : anyL F n P md ops L C Q (fuel + 1) listed a w :=
  anyL_first hro hi (Region.noSelect_spec hs) hQ _ hwt fuel listed a w hw hcl (Region.free_spec hi hf) (by simpa using hr) hy h

/-- one operation alone may come up -/
theorem anyL_only {L : Nat} {i : Nat} {fuel : Nat} {listed : Array Bool} {a : Act} {w : World} (hr : Region.ready md ops listed = [i])
    (h : wpOpIn F n P ops Q i (fun a' w' => (i ≠ L → C w') ∧ anyL F n P md ops L C Q fuel (listed.setIfInBounds i true) a' w') a w) : anyL F n P md ops L C Q (fuel + 1) listed a w :=
  ⟨fun h0 => (by rw [hr] at h0; cases h0), fun j hj => (by rw [hr, List.mem_singleton] at hj; subst hj; exact h)⟩

/-- one of two may come up -/
theorem anyL_two {L : Nat} {i j : Nat} {fuel : Nat} {listed : Array Bool} {a : Act} {w : World} (hr : Region.ready md ops listed = [i, j])
    (h1 : wpOpIn F n P ops Q i (fun a' w' => (i ≠ L → C w') ∧ anyL F n P md ops L C Q fuel (listed.setIfInBounds i true) a' w') a w)
    (h2 : wpOpIn F n P ops Q j (fun a' w' => (j ≠ L → C w') ∧ anyL F n P md ops L C Q fuel (listed.setIfInBounds j true) a' w') a w) : anyL F n P md ops L C Q (fuel + 1) listed a w :=
  ⟨fun h0 => (by rw [hr] at h0; cases h0), fun k hk => (by
    rw [hr] at hk
    simp only [List.mem_cons, List.not_mem_nil, or_false] at hk
    rcases hk with rfl | rfl
    · exact h1
    · exact h2)⟩

/-- the last operation -/
theorem anyL_last {L : Nat} {fuel : Nat} {listed : Array Bool} {a : Act} {w : World} (hr : Region.ready md ops listed = [L]) (hl : Region.ready md ops (listed.setIfInBounds L true) = [])
    (h : wpOpIn F n P ops Q L (fun a' w' => Q .normal a' w') a w) : anyL F n P md ops L C Q (fuel + 1) listed a w :=
  anyL_only hr (wpOpIn_mono (fun a' w' h3 => ⟨fun hne => absurd rfl hne, (by
    cases fuel with
    | zero => exact ⟨hl, h3⟩
    | succ f => exact ⟨fun _ => h3, fun k hk => by rw [hl] at hk; cases hk⟩)⟩) h)

theorem anyL_done {L : Nat} {fuel : Nat} {listed : Array Bool} {a : Act} {w : World} (hr : Region.ready md ops listed = []) (h : Q .normal a w) : anyL F n P md ops L C Q fuel listed a w := by
  cases fuel with
  | zero => exact ⟨hr, h⟩
  | succ f => exact ⟨fun _ => h, fun i hi => by rw [hr] at hi; cases hi⟩

theorem wpIn_region_anyL {L : Nat} {id : Nat} {a : Act} {w : World} (hm : P.follows .mixedOrders = true)
    (h : anyL F n P .any ops L C Q ops.size (Array.replicate ops.size false) a w.drew) : (Code.region id ops true).wpIn F n P Q a w :=
  wpIn_region_any hm (wpAnyIn_of_anyL _ _ _ _ h)

theorem wp_region_anyL {L : Nat} {id : Nat} {a : Act} {w : World} (hm : P.follows .mixedOrders = true)
    (h : anyL Fence.wide 0 P .any ops L C Q ops.size (Array.replicate ops.size false) a w.drew) : (Code.region id ops true).wp P Q a w :=
  wpIn_wide.1 (wpIn_region_anyL hm h)
end
end Go.Proofs.Yteipclnlfanfeaa
