/- ref36: Apply, given owners. -/
import Derived.Test.YteipclnlfanfeaaRefE
import Derived.Test.YteipclnlfanfeaaRefG
import Derived.Test.YteipclnlfanfeaaPureY
set_option linter.unusedVariables false
set_option linter.unusedSimpArgs false
namespace Go.Proofs.Yteipclnlfanfeaa
open Go.RowKit

/-- a block that the call's own boxes are not -/
def SafeB (n0 : Nat) (W : World) (b : Nat) : Prop := b < n0 ∨ ∃ c t f, W.heap[b]? = some (.cells c t f) ∧ t ≠ 25
/-- what is no box of the call's own stays -/
def KeepN (n0 : Nat) (W W' : World) : Prop := ∀ k, SafeB n0 W k → W'.heap[k]? = W.heap[k]?
theorem SafeB.kept {n0 : Nat} {W W' : World} {b : Nat} (h : SafeB n0 W b) (k : KeepN n0 W W') : SafeB n0 W' b := by
  rcases h with h | ⟨c, t, f, h1, h2⟩
  · exact .inl h
  · exact .inr ⟨c, t, f, (k b (.inr ⟨c, t, f, h1, h2⟩)).trans h1, h2⟩
theorem KeepN.trans {n0 : Nat} {W1 W2 W3 : World} (h : KeepN n0 W1 W2) (k : KeepN n0 W2 W3) : KeepN n0 W1 W3 := fun b hb => (k b (hb.kept h)).trans (h b hb)
theorem KeepN.of_below {n0 : Nat} {W W' : World} (hn : n0 ≤ W.heap.size) (h : Below W.heap.size W W') : KeepN n0 W W' := fun b hb => h.block b (by
  rcases hb with hb | ⟨c, t, f, h1, _⟩
  · omega
  · exact lt_of_block h1)
theorem KeepN.set {n0 : Nat} {W : World} {b : Nat} {c : Array Value} {f : Nat × Nat} (h : W.heap[b]? = some (.cells c 25 f)) (hn : n0 ≤ b) (i : Nat) (v : Value) : KeepN n0 W (W.setCell ⟨b, i, none⟩ v) := fun k hk =>
  Below.heap_setCell _ _ _ _ (fun e => by
    dsimp only at e
    subst e
    rcases hk with hk | ⟨c', t', f', h1, h2⟩
    · omega
    · rw [h] at h1; cases h1; exact h2 rfl)
theorem keepN_cell {n0 : Nat} {W W' : World} (k : KeepN n0 W W') {b o : Nat} {x : Value} (hs : SafeB n0 W b) (h : W.cell? ⟨b, o, none⟩ = some x) : W'.cell? ⟨b, o, none⟩ = some x := (World.cell?_of_block (a := ⟨b, o, none⟩) (k b hs)).trans h
def RunsN (n0 : Nat) (w : World) (A : Option Addr) (l : List Run) : Prop := RunsC w A l ∧ ∀ a, l ≠ [] → A = some a → SafeB n0 w a.block
theorem RunsN.kept {n0 : Nat} {w w' : World} {A : Option Addr} {l : List Run} (h : RunsN n0 w A l) (k : KeepN n0 w w') : RunsN n0 w' A l := by
  refine ⟨fun j hj => ?_, fun a hl ha => (h.2 a hl ha).kept k⟩
  obtain ⟨b, o, hA, h0, h1⟩ := h.1 j hj
  have hs := h.2 ⟨b, o, none⟩ (by intro e; subst e; simp at hj) hA
  exact ⟨b, o, hA, keepN_cell k hs h0, keepN_cell k hs h1⟩
theorem RunsN.of_t {n0 : Nat} {w : World} {A : Option Addr} {l : List Run} (h : RunsT w A l) : RunsN n0 w A l := by
  refine ⟨h.c, fun a hl ha => ?_⟩
  rcases h with h | ⟨b, cs, hA, hb, _⟩
  · exact absurd h hl
  · rw [ha] at hA; cases hA
    exact .inr ⟨_, _, _, hb, by decide⟩
def ExtN (n0 : Nat) (w : World) (A : Option Addr) (l : List Ext) : Prop := ExtC w A l ∧ ∀ a, l ≠ [] → A = some a → SafeB n0 w a.block
theorem ExtN.kept {n0 : Nat} {w w' : World} {A : Option Addr} {l : List Ext} (h : ExtN n0 w A l) (k : KeepN n0 w w') : ExtN n0 w' A l := by
  refine ⟨fun j hj => ?_, fun a hl ha => (h.2 a hl ha).kept k⟩
  obtain ⟨b, o, hA, h0, h1⟩ := h.1 j hj
  have hs := h.2 ⟨b, o, none⟩ (by intro e; subst e; simp at hj) hA
  exact ⟨b, o, hA, keepN_cell k hs h0, keepN_cell k hs h1⟩
def FilN (n0 : Nat) (w : World) (A : Option Addr) (l : List Fil) : Prop :=
  ∀ k (h : k < l.length), ∃ b o A' c', A = some ⟨b, o, none⟩ ∧ w.cell? ⟨b, o + k * 2, none⟩ = some (.int .i64 l[k].no) ∧ w.cell? ⟨b, o + k * 2 + 1, none⟩ = some (.slice A' l[k].runs.length c') ∧ RunsN n0 w A' l[k].runs ∧ SafeB n0 w b
theorem FilN.c {n0 : Nat} {w : World} {A : Option Addr} {l : List Fil} (h : FilN n0 w A l) : FilC w A l := fun k hk => by
  obtain ⟨b, o, A', c', h1, h2, h3, h4, _⟩ := h k hk
  exact ⟨b, o, A', c', h1, h2, h3, h4.1⟩
theorem FilN.kept {n0 : Nat} {w w' : World} {A : Option Addr} {l : List Fil} (h : FilN n0 w A l) (k : KeepN n0 w w') : FilN n0 w' A l := by
  intro j hj
  obtain ⟨b, o, A', c', h1, h2, h3, h4, h5⟩ := h j hj
  exact ⟨b, o, A', c', h1, keepN_cell k h5 h2, keepN_cell k h5 h3, h4.kept k, h5.kept k⟩
/-- a picture's value that stays while boxes turn -/
def PicN (n0 : Nat) (w : World) (v : Value) (p : Pic) : Prop :=
  ∃ Ax cx Fa cf, v = .agg #[.int .i64 p.size, .slice Ax p.fixed.length cx, .slice Fa p.files.length cf] ∧ ExtN n0 w Ax p.fixed ∧ FilN n0 w Fa p.files
theorem PicN.c {n0 : Nat} {w : World} {v : Value} {p : Pic} (h : PicN n0 w v p) : PicC w v p := by
  obtain ⟨Ax, cx, Fa, cf, h0, h1, h2⟩ := h
  exact ⟨Ax, cx, Fa, cf, h0, h1.1, h2.c⟩
theorem PicN.kept {n0 : Nat} {w w' : World} {v : Value} {p : Pic} (h : PicN n0 w v p) (k : KeepN n0 w w') : PicN n0 w' v p := by
  obtain ⟨Ax, cx, Fa, cf, h0, h1, h2⟩ := h
  exact ⟨Ax, cx, Fa, cf, h0, h1.kept k, h2.kept k⟩
theorem PicN.of_c {w : World} {v : Value} {p : Pic} (h : PicC w v p) : PicN w.heap.size w v p := by
  obtain ⟨Ax, cx, Fa, cf, h0, h1, h2⟩ := h
  refine ⟨Ax, cx, Fa, cf, h0, ⟨h1, fun a hl ha => ?_⟩, fun k hk => ?_⟩
  · obtain ⟨b, o, hA, hq, _⟩ := h1 0 (List.length_pos_iff.2 hl)
    rw [ha] at hA; cases hA
    exact .inl (World.block_lt_of_cell? w _ hq)
  · obtain ⟨b, o, A', c', h3, h4, h5, h6⟩ := h2 k hk
    refine ⟨b, o, A', c', h3, h4, h5, ⟨h6, fun a hl ha => ?_⟩, .inl (World.block_lt_of_cell? w _ h4)⟩
    obtain ⟨b', o', hA, hq, _⟩ := h6 0 (List.length_pos_iff.2 hl)
    rw [ha] at hA; cases hA
    exact .inl (World.block_lt_of_cell? w _ hq)
theorem PicN.zero (n0 : Nat) (w : World) : PicN n0 w (.agg #[.int .i64 0, .slice none 0 0, .slice none 0 0]) picZ :=
  ⟨none, 0, none, 0, rfl, ⟨fun k hk => by simp [picZ] at hk, fun a hl => absurd rfl hl⟩, fun k hk => by simp [picZ] at hk⟩
theorem FilN.src {n0 : Nat} {w : World} {A : Option Addr} {l : List Fil} (h : FilN n0 w A l) : ∃ m : List (Fil × Option Addr × Nat), m.map Prod.fst = l ∧ (∀ z ∈ m, RunsN n0 w z.2.1 z.1.runs) ∧ SrcC w A l.length (flatF m) := by
  have h' : ∀ k (hk : k < l.length), ∃ y : Option Addr × Nat, ∃ b o, A = some ⟨b, o, none⟩ ∧ w.cell? ⟨b, o + k * 2, none⟩ = some (.int .i64 l[k].no) ∧ w.cell? ⟨b, o + k * 2 + 1, none⟩ = some (.slice y.1 l[k].runs.length y.2) ∧ RunsN n0 w y.1 l[k].runs := by
    intro k hk
    obtain ⟨b, o, A', c', hA, h1, h2, h3, _⟩ := h k hk
    exact ⟨(A', c'), b, o, hA, h1, h2, h3⟩
  obtain ⟨m, hm, hp⟩ := choose_get l h'
  subst hm
  have hlen : (m.map Prod.fst).length = m.length := by simp
  refine ⟨m, rfl, ?_, ?_⟩
  · intro z hz
    obtain ⟨k, hk, rfl⟩ := List.getElem_of_mem hz
    obtain ⟨b, o, _, _, _, h4⟩ := hp k (by simpa using hk)
    simpa using h4
  · rw [hlen]
    refine ⟨flatF_length m, oneCell_F m, ?_⟩
    by_cases h0 : m.length = 0
    · exact .inl h0
    · obtain ⟨b, o, hA, _⟩ := hp 0 (by simp; omega)
      refine .inr ⟨b, o, hA, ?_⟩
      intro j u hu
      have hj : j < (flatF m).length := (List.getElem?_eq_some_iff.1 hu).1
      rw [flatF_length] at hj
      rcases Nat.mod_two_eq_zero_or_one j with hm' | hm'
      · obtain ⟨k, rfl⟩ : ∃ k, j = k * 2 := ⟨j / 2, by omega⟩
        have hk : k < m.length := by omega
        obtain ⟨b', o', hA', c0, c1, _⟩ := hp k (by simpa using hk)
        rw [hA] at hA'; cases hA'
        rw [(flatF_get m k hk).1] at hu; cases hu; simpa using c0
      · obtain ⟨k, rfl⟩ : ∃ k, j = k * 2 + 1 := ⟨j / 2, by omega⟩
        have hk : k < m.length := by omega
        obtain ⟨b', o', hA', c0, c1, _⟩ := hp k (by simpa using hk)
        rw [hA] at hA'; cases hA'
        rw [(flatF_get m k hk).2] at hu; cases hu; rw [← Nat.add_assoc]; simpa using c1
theorem FilN.of_owns {n0 : Nat} {w : World} {base c : Nat} {A : Option Addr} {m : List (Fil × Option Addr × Nat)} (h : w.ownsRow base 46 2 (.slice A m.length c) m.length (flatF m)) (hr : ∀ z ∈ m, RunsN n0 w z.2.1 z.1.runs) : FilN n0 w A (m.map Prod.fst) := by
  intro k hk
  have hk' : k < m.length := by simpa using hk
  rcases ownsRow_block h with h0 | ⟨b, cs, hA, -, hb, hx⟩
  · omega
  · obtain ⟨g1, g2⟩ := flatF_get m k hk'
    refine ⟨b, 0, m[k].2.1, m[k].2.2, hA, ?_, ?_, ?_, .inr ⟨_, _, _, hb, by decide⟩⟩
    · rw [Nat.zero_add, cell_at hb, hx _ _ g1]; simp
    · rw [Nat.zero_add, cell_at hb, hx _ _ g2]; simp
    · simpa using hr _ (List.getElem_mem hk')
/-- a picture and an error, told so that boxes may turn -/
def RetPicN (n0 : Nat) (q : Pic × Int) (w : World) (e : Ending) (w' : World) : Prop :=
  (∃ u, e = .returned (.tuple #[u, .int .i64 q.2]) ∧ PicN n0 w' u q.1) ∧ Below w.heap.size w w'
theorem cell_other {W : World} {b o g i : Nat} {v x : Value} (hne : b ≠ g) (h : W.cell? ⟨b, o, none⟩ = some x) : (W.setCell ⟨g, i, none⟩ v).cell? ⟨b, o, none⟩ = some x := (World.cell?_of_block (a := ⟨b, o, none⟩) (Below.heap_setCell _ _ _ _ hne)).trans h
theorem flatF_set (m : List (Fil × Option Addr × Nat)) (k : Nat) (h : k < m.length) (r : List Run) (A : Option Addr) (c : Nat) :
    (flatF m).set (k * 2 + 1) (.slice A r.length c) = flatF (m.set k (⟨m[k].1.no, r⟩, A, c)) := by
  induction m generalizing k with
  | nil => simp at h
  | cons x m ih =>
    cases k with
    | zero => simp [flatF]
    | succ k =>
      have := ih k (by simpa using h)
      rw [show (k + 1) * 2 + 1 = (k * 2 + 1) + 1 + 1 by omega]
      simpa [flatF] using this

/-- what stands while Apply runs -/
structure ApB (n0 : Nat) (v1 v2 : Value) (p : Pic) (no fr tt mn : Int) (W : World) : Prop where
  bp : W.heap[n0]? = some (.cells #[.int .i64 p.size, v1, v2] 25 (0, 0))
  bx : W.heap[n0 + 1]? = some (.cells #[.int .i64 no, .int .i64 fr, .int .i64 tt, .int .i64 mn] 35 (0, 0))
  br : W.heap[n0 + 1 + 1]? = some (.cells #[.int .i64 0, .slice none 0 0, .slice none 0 0] 25 (0, 0))
  pic : PicC W (.agg #[.int .i64 p.size, v1, v2]) p
section
variable {n0 : Nat} {v1 v2 : Value} {p : Pic} {no fr tt mn : Int} {W W' : World}
theorem ApB.below (h : ApB n0 v1 v2 p no fr tt mn W) (hB : Below W.heap.size W W') : ApB n0 v1 v2 p no fr tt mn W' := ⟨block_below h.bp hB, block_below h.bx hB, block_below h.br hB, h.pic.below hB⟩
theorem ApB.p0 (h : ApB n0 v1 v2 p no fr tt mn W) : W.cell? ⟨n0, 0, none⟩ = some (.int .i64 p.size) := by simpa using cell_at h.bp 0
theorem ApB.p1 (h : ApB n0 v1 v2 p no fr tt mn W) : W.cell? ⟨n0, 1, none⟩ = some v1 := by simpa using cell_at h.bp 1
theorem ApB.p2 (h : ApB n0 v1 v2 p no fr tt mn W) : W.cell? ⟨n0, 2, none⟩ = some v2 := by simpa using cell_at h.bp 2
theorem ApB.x0 (h : ApB n0 v1 v2 p no fr tt mn W) : W.cell? ⟨n0 + 1, 0, none⟩ = some (.int .i64 no) := by simpa using cell_at h.bx 0
theorem ApB.x1 (h : ApB n0 v1 v2 p no fr tt mn W) : W.cell? ⟨n0 + 1, 1, none⟩ = some (.int .i64 fr) := by simpa using cell_at h.bx 1
theorem ApB.x2 (h : ApB n0 v1 v2 p no fr tt mn W) : W.cell? ⟨n0 + 1, 2, none⟩ = some (.int .i64 tt) := by simpa using cell_at h.bx 2
theorem ApB.x3 (h : ApB n0 v1 v2 p no fr tt mn W) : W.cell? ⟨n0 + 1, 3, none⟩ = some (.int .i64 mn) := by simpa using cell_at h.bx 3
end

section
attribute [local go_sem] undef
set_option maxRecDepth 100000 in
set_option maxHeartbeats 16000000 in
theorem refApply_of (H : OwnWalk) (n0 : Nat) (p : Pic) (no fr tt mn : Int) (v : Value) (w : World) (hpN : PicN n0 w v p) (hn0 : n0 ≤ w.heap.size) (hn : PicOk p) :
    Calls Try.prog 14 #[v, .agg #[.int .i64 no, .int .i64 fr, .int .i64 tt, .int .i64 mn]] w (RetPicN n0 (runP p [⟨no, fr, tt, mn⟩]) w) := by
  have hp := hpN.c
  have HpN := Lib.hid hpN
  clear hpN
  have hmx : Try.prog.follows .mixedOrders = true := by kernel_rfl
  obtain ⟨i0, hi, hz0, hz1, hz2⟩ := info_parts info46
  have hp0 := hp
  obtain ⟨Ax, cx, Fa, cf, rfl, hx, hf⟩ := hp
  have hB := below_alloc (below_alloc (below_alloc (Below.refl _ w) (.cells #[.int .i64 p.size, .slice Ax p.fixed.length cx, .slice Fa p.files.length cf] 25)) (.cells #[.int .i64 no, .int .i64 fr, .int .i64 tt, .int .i64 mn] 35)) (.cells #[.int .i64 0, .slice none 0 0, .slice none 0 0] 25)
  have hA : ApB w.heap.size (.slice Ax p.fixed.length cx) (.slice Fa p.files.length cf) p no fr tt mn (((w.alloc (.cells #[.int .i64 p.size, .slice Ax p.fixed.length cx, .slice Fa p.files.length cf] 25)).alloc (.cells #[.int .i64 no, .int .i64 fr, .int .i64 tt, .int .i64 mn] 35)).alloc (.cells #[.int .i64 0, .slice none 0 0, .slice none 0 0] 25)) :=
    ⟨heap_alloc_old' (heap_alloc_old' (World.alloc_heap_new w _) _) _, heap_alloc_old' (heap_new (w.alloc (.cells #[.int .i64 p.size, .slice Ax p.fixed.length cx, .slice Fa p.files.length cf] 25)) _ (by simp)) _, heap_new ((w.alloc (.cells #[.int .i64 p.size, .slice Ax p.fixed.length cx, .slice Fa p.files.length cf] 25)).alloc (.cells #[.int .i64 no, .int .i64 fr, .int .i64 tt, .int .i64 mn] 35)) _ (by simp), hp0.below hB⟩
  have HA := Lib.hid hA
  have HH := Lib.hid H
  have Hn := Lib.hid hn
  have Hp0 := Lib.hid hp0
  clear hA H hn hx hf hp0
  go_enter Try.func14, Try.ntmps14
  go_wp2_with fail
  refine (HH.out p _ _ HA.out.pic Hn.out).mono ?_
  rintro e w1 ⟨⟨t, A, c, ho, rfl, ht⟩ | ⟨ho, rfl⟩, hB1⟩
  rotate_left
  · have hq : runP p [⟨no, fr, tt, mn⟩] = (picZ, 9) := by unfold runP; rw [(own_open p).1 ho]
    have HQ := Lib.hid hq
    have hA1 := HA.out.below hB1
    have hBw := below_then hB hB1
    clear ho hq hB hB1 HA
    have hR := hA1.br
    have zR0 := free_at hR 0; have zR1 := free_at hR 1; have zR2 := free_at hR 2
    have yR0 := cell_at hR 0; have yR1 := cell_at hR 1; have yR2 := cell_at hR 2
    simp only [List.getElem?_toArray, List.getElem?_cons_zero, List.getElem?_cons_succ] at yR0 yR1 yR2
    have hfin := cells3z hR (.int .i64 0) (.slice none 0 0) (.slice none 0 0)
    have HBf := Lib.hid (((hBw.setCell (p := ⟨w.heap.size + 1 + 1, 0, none⟩) (by dsimp only; omega) (.int .i64 0)).setCell (p := ⟨w.heap.size + 1 + 1, 1, none⟩) (by dsimp only; omega) (.slice none 0 0)).setCell (p := ⟨w.heap.size + 1 + 1, 2, none⟩) (by dsimp only; omega) (.slice none 0 0))
    have k0 := cell_at hfin 0; have k1 := cell_at hfin 1; have k2 := cell_at hfin 2
    simp only [List.getElem?_toArray, List.getElem?_cons_zero, List.getElem?_cons_succ] at k0 k1 k2
    clear hR hfin
    go_wp2_with fail
    refine bodyPost_ret (v := .tuple #[.agg #[.int .i64 0, .slice none 0 0, .slice none 0 0], .int .i64 9]) (by first | (simp [results, Try.results14, go_sem, k0, k1, k2]; done) | (simp [results, Try.results14, go_sem, k0, k1, k2]; rfl)) rfl ⟨⟨_, by rw [HQ.out], by rw [HQ.out]; exact PicN.zero _ _⟩, HBf.out⟩
  obtain ⟨s, hs⟩ : ∃ s, openL p = some s := by
    cases ho' : openL p with
    | none => rw [(own_open p).2 ho'] at ho; cases ho
    | some s => exact ⟨s, rfl⟩
  obtain ⟨hinv, hpic, -⟩ := inv_open hs
  have hok := ok_of_open hs
  obtain ⟨t', ht1, ht2⟩ := own_ok hok
  rw [ho] at ht1
  cases ht1
  subst hpic
  have hsz := hok.size
  have htl : t.length = s.pic.size.toNat := ht2.1
  have hrp := fun e (h : applyL s ⟨no, fr, tt, mn⟩ = .error e) => runP_error hs h
  have hro := fun s1 (h : applyL s ⟨no, fr, tt, mn⟩ = .ok s1) => runP_ok hs h
  have Hrp := Lib.hid hrp; have Hro := Lib.hid hro; have Hinv := Lib.hid hinv; have Ht := Lib.hid ht; have Ht2 := Lib.hid ht2; have Htl := Lib.hid htl
  have hA1 := HA.out.below hB1
  have hBw1 := below_then hB hB1
  have HA1 := Lib.hid hA1
  have htl768 : t.length ≤ 768 := by omega
  have hnf : s.pic.files.length ≤ 200 := hok.nfil
  clear HA hB hB1 ho hs hok ht2 htl hrp hro hinv ht hA1
  have p0 := HA1.out.p0; have p1 := HA1.out.p1; have p2 := HA1.out.p2; have x0 := HA1.out.x0; have x1 := HA1.out.x1; have x2 := HA1.out.x2; have x3 := HA1.out.x3
  go_wp2_with fail
  refine (refFile_any s.pic no _ _ HA1.out.pic (by omega)).mono ?_
  rintro e w2 ⟨rfl, hB2⟩
  have HA2 := Lib.hid (HA1.out.below hB2)
  have hBw2 := below_then hBw1 hB2
  have Ht2w := Lib.hid (show IntsC w2 A t from Ht.out.below hB2)
  clear HA1 Ht hB2
  clear p0 p1 p2 x0 x1 x2 x3
  have p0 := HA2.out.p0; have p1 := HA2.out.p1; have p2 := HA2.out.p2; have x0 := HA2.out.x0; have x1 := HA2.out.x1; have x2 := HA2.out.x2; have x3 := HA2.out.x3
  by_cases h0 : 0 ≤ fileI s.pic.files no
  rotate_left
  · have q0 : decide (fileI s.pic.files no < 0) = true := by simp; omega
    have HQ := Lib.hid (Hrp.out 3 (ap1 h0))
    clear h0
    have hBw := hBw2
    have hR := HA2.out.br
    have zR0 := free_at hR 0; have zR1 := free_at hR 1; have zR2 := free_at hR 2
    have yR0 := cell_at hR 0; have yR1 := cell_at hR 1; have yR2 := cell_at hR 2
    simp only [List.getElem?_toArray, List.getElem?_cons_zero, List.getElem?_cons_succ] at yR0 yR1 yR2
    have hfin := cells3z hR (.int .i64 0) (.slice none 0 0) (.slice none 0 0)
    have HBf := Lib.hid (((hBw.setCell (p := ⟨w.heap.size + 1 + 1, 0, none⟩) (by dsimp only; omega) (.int .i64 0)).setCell (p := ⟨w.heap.size + 1 + 1, 1, none⟩) (by dsimp only; omega) (.slice none 0 0)).setCell (p := ⟨w.heap.size + 1 + 1, 2, none⟩) (by dsimp only; omega) (.slice none 0 0))
    have k0 := cell_at hfin 0; have k1 := cell_at hfin 1; have k2 := cell_at hfin 2
    simp only [List.getElem?_toArray, List.getElem?_cons_zero, List.getElem?_cons_succ] at k0 k1 k2
    clear hR hfin
    go_wp2_with fail
    refine bodyPost_ret (v := .tuple #[.agg #[.int .i64 0, .slice none 0 0, .slice none 0 0], .int .i64 3]) (by first | (simp [results, Try.results14, go_sem, k0, k1, k2]; done) | (simp [results, Try.results14, go_sem, k0, k1, k2]; rfl)) rfl ⟨⟨_, by rw [HQ.out], by rw [HQ.out]; exact PicN.zero _ _⟩, HBf.out⟩
  have HT := Lib.hid h0
  obtain ⟨k, hk, hki, hR, hmu, hno⟩ := stR_facts (x := ⟨no, fr, tt, mn⟩) Hinv.out h0
  dsimp only at hki
  rw [hki]
  have Hki := Lib.hid hki; have HR := Lib.hid hR; have Hmu := Lib.hid hmu
  clear h0 hki hR hmu hno
  have hmu' : mustE s.pic.files[k].runs = 0 := by rw [← HR.out]; exact Hmu.out
  have Hmu' := Lib.hid hmu'
  clear hmu'
  obtain ⟨Ax', cx', Fa', cf', he, hX, hF⟩ := HA2.out.pic
  cases he
  have HF := Lib.hid hF
  obtain ⟨b, o, A', c', rfl, g0, g1, g2⟩ := hF k hk
  have Hg2 := Lib.hid g2
  clear hF hX g2 g0
  go_wp2_with fail
  refine (refSize_any s.pic.files[k].runs A' c' _ Hg2.out (fair_of_must Hmu'.out)).mono ?_
  rintro e w' ⟨rfl, rfl⟩
  obtain ⟨N, hN⟩ : ∃ N, pagesL s.pic.files[k].runs = N := ⟨_, rfl⟩
  rw [hN]
  have hNb : 0 ≤ N ∧ N ≤ 1073741824 := by rw [← hN]; exact ⟨pagesL_nonneg (fun r hr => (ok0_of_must Hmu'.out r hr).2), (mustE_zero Hmu'.out).2.2⟩
  have hT : (rapT s ⟨no, fr, tt, mn⟩) ↔ (mn < 1 ∨ fr < 0 ∨ N ≤ fr ∨ N - fr < mn ∨ tt < 3 ∨ s.pic.size ≤ tt ∨ s.pic.size - tt < mn) := by
    unfold rapT; rw [HR.out, hN]
  have HTT := Lib.hid hT
  have HN := Lib.hid hN
  clear hN hT
  have Harg := Lib.hid (fun h => Hrp.out 1 (rap_arg Hinv.out HT.out (HTT.out.2 h)))
  by_cases c1 : mn < 1
  · have qc1 : decide (mn < 1) = true := by simpa using c1
    have HQ := Lib.hid (Harg.out (.inl c1))
    have hBw := hBw2
    clear c1
    have hR := HA2.out.br
    have zR0 := free_at hR 0; have zR1 := free_at hR 1; have zR2 := free_at hR 2
    have yR0 := cell_at hR 0; have yR1 := cell_at hR 1; have yR2 := cell_at hR 2
    simp only [List.getElem?_toArray, List.getElem?_cons_zero, List.getElem?_cons_succ] at yR0 yR1 yR2
    have hfin := cells3z hR (.int .i64 0) (.slice none 0 0) (.slice none 0 0)
    have HBf := Lib.hid (((hBw.setCell (p := ⟨w.heap.size + 1 + 1, 0, none⟩) (by dsimp only; omega) (.int .i64 0)).setCell (p := ⟨w.heap.size + 1 + 1, 1, none⟩) (by dsimp only; omega) (.slice none 0 0)).setCell (p := ⟨w.heap.size + 1 + 1, 2, none⟩) (by dsimp only; omega) (.slice none 0 0))
    have k0 := cell_at hfin 0; have k1 := cell_at hfin 1; have k2 := cell_at hfin 2
    simp only [List.getElem?_toArray, List.getElem?_cons_zero, List.getElem?_cons_succ] at k0 k1 k2
    clear hR hfin
    go_wp2_with fail
    refine bodyPost_ret (v := .tuple #[.agg #[.int .i64 0, .slice none 0 0, .slice none 0 0], .int .i64 1]) (by first | (simp [results, Try.results14, go_sem, k0, k1, k2]; done) | (simp [results, Try.results14, go_sem, k0, k1, k2]; rfl)) rfl ⟨⟨_, by rw [HQ.out], by rw [HQ.out]; exact PicN.zero _ _⟩, HBf.out⟩
  have qc1 : decide (mn < 1) = false := by simpa using c1
  by_cases c2 : fr < 0
  · have qc2 : decide (fr < 0) = true := by simpa using c2
    have HQ := Lib.hid (Harg.out (.inr (.inl c2)))
    have hBw := hBw2
    clear c2
    have hR := HA2.out.br
    have zR0 := free_at hR 0; have zR1 := free_at hR 1; have zR2 := free_at hR 2
    have yR0 := cell_at hR 0; have yR1 := cell_at hR 1; have yR2 := cell_at hR 2
    simp only [List.getElem?_toArray, List.getElem?_cons_zero, List.getElem?_cons_succ] at yR0 yR1 yR2
    have hfin := cells3z hR (.int .i64 0) (.slice none 0 0) (.slice none 0 0)
    have HBf := Lib.hid (((hBw.setCell (p := ⟨w.heap.size + 1 + 1, 0, none⟩) (by dsimp only; omega) (.int .i64 0)).setCell (p := ⟨w.heap.size + 1 + 1, 1, none⟩) (by dsimp only; omega) (.slice none 0 0)).setCell (p := ⟨w.heap.size + 1 + 1, 2, none⟩) (by dsimp only; omega) (.slice none 0 0))
    have k0 := cell_at hfin 0; have k1 := cell_at hfin 1; have k2 := cell_at hfin 2
    simp only [List.getElem?_toArray, List.getElem?_cons_zero, List.getElem?_cons_succ] at k0 k1 k2
    clear hR hfin
    go_wp2_with fail
    refine bodyPost_ret (v := .tuple #[.agg #[.int .i64 0, .slice none 0 0, .slice none 0 0], .int .i64 1]) (by first | (simp [results, Try.results14, go_sem, k0, k1, k2]; done) | (simp [results, Try.results14, go_sem, k0, k1, k2]; rfl)) rfl ⟨⟨_, by rw [HQ.out], by rw [HQ.out]; exact PicN.zero _ _⟩, HBf.out⟩
  have qc2 : decide (fr < 0) = false := by simpa using c2
  by_cases c3 : N ≤ fr
  · have qc3 : decide (N ≤ fr) = true := by simpa using c3
    have HQ := Lib.hid (Harg.out (.inr (.inr (.inl c3))))
    have hBw := hBw2
    clear c3
    have hR := HA2.out.br
    have zR0 := free_at hR 0; have zR1 := free_at hR 1; have zR2 := free_at hR 2
    have yR0 := cell_at hR 0; have yR1 := cell_at hR 1; have yR2 := cell_at hR 2
    simp only [List.getElem?_toArray, List.getElem?_cons_zero, List.getElem?_cons_succ] at yR0 yR1 yR2
    have hfin := cells3z hR (.int .i64 0) (.slice none 0 0) (.slice none 0 0)
    have HBf := Lib.hid (((hBw.setCell (p := ⟨w.heap.size + 1 + 1, 0, none⟩) (by dsimp only; omega) (.int .i64 0)).setCell (p := ⟨w.heap.size + 1 + 1, 1, none⟩) (by dsimp only; omega) (.slice none 0 0)).setCell (p := ⟨w.heap.size + 1 + 1, 2, none⟩) (by dsimp only; omega) (.slice none 0 0))
    have k0 := cell_at hfin 0; have k1 := cell_at hfin 1; have k2 := cell_at hfin 2
    simp only [List.getElem?_toArray, List.getElem?_cons_zero, List.getElem?_cons_succ] at k0 k1 k2
    clear hR hfin
    go_wp2_with fail
    refine bodyPost_ret (v := .tuple #[.agg #[.int .i64 0, .slice none 0 0, .slice none 0 0], .int .i64 1]) (by first | (simp [results, Try.results14, go_sem, k0, k1, k2]; done) | (simp [results, Try.results14, go_sem, k0, k1, k2]; rfl)) rfl ⟨⟨_, by rw [HQ.out], by rw [HQ.out]; exact PicN.zero _ _⟩, HBf.out⟩
  have qc3 : decide (N ≤ fr) = false := by simpa using c3
  by_cases c4 : N - fr < mn
  · have qc4 : decide (N - fr < mn) = true := by simpa using c4
    have HQ := Lib.hid (Harg.out (.inr (.inr (.inr (.inl c4)))))
    have hBw := hBw2
    clear c4
    have hR := HA2.out.br
    have zR0 := free_at hR 0; have zR1 := free_at hR 1; have zR2 := free_at hR 2
    have yR0 := cell_at hR 0; have yR1 := cell_at hR 1; have yR2 := cell_at hR 2
    simp only [List.getElem?_toArray, List.getElem?_cons_zero, List.getElem?_cons_succ] at yR0 yR1 yR2
    have hfin := cells3z hR (.int .i64 0) (.slice none 0 0) (.slice none 0 0)
    have HBf := Lib.hid (((hBw.setCell (p := ⟨w.heap.size + 1 + 1, 0, none⟩) (by dsimp only; omega) (.int .i64 0)).setCell (p := ⟨w.heap.size + 1 + 1, 1, none⟩) (by dsimp only; omega) (.slice none 0 0)).setCell (p := ⟨w.heap.size + 1 + 1, 2, none⟩) (by dsimp only; omega) (.slice none 0 0))
    have k0 := cell_at hfin 0; have k1 := cell_at hfin 1; have k2 := cell_at hfin 2
    simp only [List.getElem?_toArray, List.getElem?_cons_zero, List.getElem?_cons_succ] at k0 k1 k2
    clear hR hfin
    go_wp2_with fail
    refine bodyPost_ret (v := .tuple #[.agg #[.int .i64 0, .slice none 0 0, .slice none 0 0], .int .i64 1]) (by first | (simp [results, Try.results14, go_sem, k0, k1, k2]; done) | (simp [results, Try.results14, go_sem, k0, k1, k2]; rfl)) rfl ⟨⟨_, by rw [HQ.out], by rw [HQ.out]; exact PicN.zero _ _⟩, HBf.out⟩
  have qc4 : decide (N - fr < mn) = false := by simpa using c4
  by_cases c5 : tt < 3
  · have qc5 : decide (tt < 3) = true := by simpa using c5
    have HQ := Lib.hid (Harg.out (.inr (.inr (.inr (.inr (.inl c5))))))
    have hBw := hBw2
    clear c5
    have hR := HA2.out.br
    have zR0 := free_at hR 0; have zR1 := free_at hR 1; have zR2 := free_at hR 2
    have yR0 := cell_at hR 0; have yR1 := cell_at hR 1; have yR2 := cell_at hR 2
    simp only [List.getElem?_toArray, List.getElem?_cons_zero, List.getElem?_cons_succ] at yR0 yR1 yR2
    have hfin := cells3z hR (.int .i64 0) (.slice none 0 0) (.slice none 0 0)
    have HBf := Lib.hid (((hBw.setCell (p := ⟨w.heap.size + 1 + 1, 0, none⟩) (by dsimp only; omega) (.int .i64 0)).setCell (p := ⟨w.heap.size + 1 + 1, 1, none⟩) (by dsimp only; omega) (.slice none 0 0)).setCell (p := ⟨w.heap.size + 1 + 1, 2, none⟩) (by dsimp only; omega) (.slice none 0 0))
    have k0 := cell_at hfin 0; have k1 := cell_at hfin 1; have k2 := cell_at hfin 2
    simp only [List.getElem?_toArray, List.getElem?_cons_zero, List.getElem?_cons_succ] at k0 k1 k2
    clear hR hfin
    go_wp2_with fail
    refine bodyPost_ret (v := .tuple #[.agg #[.int .i64 0, .slice none 0 0, .slice none 0 0], .int .i64 1]) (by first | (simp [results, Try.results14, go_sem, k0, k1, k2]; done) | (simp [results, Try.results14, go_sem, k0, k1, k2]; rfl)) rfl ⟨⟨_, by rw [HQ.out], by rw [HQ.out]; exact PicN.zero _ _⟩, HBf.out⟩
  have qc5 : decide (tt < 3) = false := by simpa using c5
  by_cases c6 : s.pic.size ≤ tt
  · have qc6 : decide (s.pic.size ≤ tt) = true := by simpa using c6
    have HQ := Lib.hid (Harg.out (.inr (.inr (.inr (.inr (.inr (.inl c6)))))))
    have hBw := hBw2
    clear c6
    have hR := HA2.out.br
    have zR0 := free_at hR 0; have zR1 := free_at hR 1; have zR2 := free_at hR 2
    have yR0 := cell_at hR 0; have yR1 := cell_at hR 1; have yR2 := cell_at hR 2
    simp only [List.getElem?_toArray, List.getElem?_cons_zero, List.getElem?_cons_succ] at yR0 yR1 yR2
    have hfin := cells3z hR (.int .i64 0) (.slice none 0 0) (.slice none 0 0)
    have HBf := Lib.hid (((hBw.setCell (p := ⟨w.heap.size + 1 + 1, 0, none⟩) (by dsimp only; omega) (.int .i64 0)).setCell (p := ⟨w.heap.size + 1 + 1, 1, none⟩) (by dsimp only; omega) (.slice none 0 0)).setCell (p := ⟨w.heap.size + 1 + 1, 2, none⟩) (by dsimp only; omega) (.slice none 0 0))
    have k0 := cell_at hfin 0; have k1 := cell_at hfin 1; have k2 := cell_at hfin 2
    simp only [List.getElem?_toArray, List.getElem?_cons_zero, List.getElem?_cons_succ] at k0 k1 k2
    clear hR hfin
    go_wp2_with fail
    refine bodyPost_ret (v := .tuple #[.agg #[.int .i64 0, .slice none 0 0, .slice none 0 0], .int .i64 1]) (by first | (simp [results, Try.results14, go_sem, k0, k1, k2]; done) | (simp [results, Try.results14, go_sem, k0, k1, k2]; rfl)) rfl ⟨⟨_, by rw [HQ.out], by rw [HQ.out]; exact PicN.zero _ _⟩, HBf.out⟩
  have qc6 : decide (s.pic.size ≤ tt) = false := by simpa using c6
  by_cases c7 : s.pic.size - tt < mn
  · have qc7 : decide (s.pic.size - tt < mn) = true := by simpa using c7
    have HQ := Lib.hid (Harg.out (.inr (.inr (.inr (.inr (.inr (.inr c7)))))))
    have hBw := hBw2
    clear c7
    have hR := HA2.out.br
    have zR0 := free_at hR 0; have zR1 := free_at hR 1; have zR2 := free_at hR 2
    have yR0 := cell_at hR 0; have yR1 := cell_at hR 1; have yR2 := cell_at hR 2
    simp only [List.getElem?_toArray, List.getElem?_cons_zero, List.getElem?_cons_succ] at yR0 yR1 yR2
    have hfin := cells3z hR (.int .i64 0) (.slice none 0 0) (.slice none 0 0)
    have HBf := Lib.hid (((hBw.setCell (p := ⟨w.heap.size + 1 + 1, 0, none⟩) (by dsimp only; omega) (.int .i64 0)).setCell (p := ⟨w.heap.size + 1 + 1, 1, none⟩) (by dsimp only; omega) (.slice none 0 0)).setCell (p := ⟨w.heap.size + 1 + 1, 2, none⟩) (by dsimp only; omega) (.slice none 0 0))
    have k0 := cell_at hfin 0; have k1 := cell_at hfin 1; have k2 := cell_at hfin 2
    simp only [List.getElem?_toArray, List.getElem?_cons_zero, List.getElem?_cons_succ] at k0 k1 k2
    clear hR hfin
    go_wp2_with fail
    refine bodyPost_ret (v := .tuple #[.agg #[.int .i64 0, .slice none 0 0, .slice none 0 0], .int .i64 1]) (by first | (simp [results, Try.results14, go_sem, k0, k1, k2]; done) | (simp [results, Try.results14, go_sem, k0, k1, k2]; rfl)) rfl ⟨⟨_, by rw [HQ.out], by rw [HQ.out]; exact PicN.zero _ _⟩, HBf.out⟩
  have qc7 : decide (s.pic.size - tt < mn) = false := by simpa using c7
  have hnT : ¬ rapT s ⟨no, fr, tt, mn⟩ := fun h => by have := HTT.out.1 h; omega
  have HnT := Lib.hid hnT
  clear hnT Harg
  go_wp2_with fail
  have hpart := rap_part Hinv.out HT.out HnT.out
  dsimp only at hpart
  rw [HR.out] at hpart
  have Hpart := Lib.hid hpart
  clear hpart
  go_cut [11] from 85 to 95 (fun q wx => ∃ A3 c3, q = .slice A3 (partL s.pic.files[k].runs fr (fr + mn)).length c3 ∧ Hid (RunsC wx A3 (partL s.pic.files[k].runs fr (fr + mn))) ∧ Below w2.heap.size w2 wx)
  case first =>
    refine wp_region_anyN (C := (fun W' : World => Below w2.heap.size w2 W')) 12 (by kernel_rfl) hmx ?_
    have hC0 : (fun W' : World => Below w2.heap.size w2 W') w2.drew := (Below.refl _ _).drew
    refine anyC_take (i := 0) ?v0r rfl rfl (by kernel_rfl) (by kernel_rfl) (by kernel_rfl) (fun _ _ _ h => h) hC0 ⟨.inl ⟨by kernel_rfl, fun W' hW' => ?y0r⟩, fun _ => rfl⟩ ?_
    case y0r => (have p2 := cell_below p2 hW'; have x1 := cell_below x1 hW'; have x3 := cell_below x3 hW'; have g1 := cell_below g1 hW'; go_simp; rfl)
    simp only [Act.put, List.setIfInBounds_toArray, List.set_cons_succ, List.set_cons_zero]
    refine anyC_take (i := 1) ?v1r rfl rfl (by kernel_rfl) (by kernel_rfl) (by kernel_rfl) (fun _ _ _ h => h) hC0 ⟨.inl ⟨by kernel_rfl, fun W' hW' => ?y1r⟩, fun _ => rfl⟩ ?_
    case y1r => (have p2 := cell_below p2 hW'; have x1 := cell_below x1 hW'; have x3 := cell_below x3 hW'; have g1 := cell_below g1 hW'; go_simp; rfl)
    simp only [Act.put, List.setIfInBounds_toArray, List.set_cons_succ, List.set_cons_zero]
    refine anyC_take (i := 2) ?v2r rfl rfl (by kernel_rfl) (by kernel_rfl) (by kernel_rfl) (fun _ _ _ h => h) hC0 ⟨.inl ⟨by kernel_rfl, fun W' hW' => ?y2r⟩, fun _ => rfl⟩ ?_
    case y2r => (have p2 := cell_below p2 hW'; have x1 := cell_below x1 hW'; have x3 := cell_below x3 hW'; have g1 := cell_below g1 hW'; go_simp; rfl)
    simp only [Act.put, List.setIfInBounds_toArray, List.set_cons_succ, List.set_cons_zero]
    refine anyC_take (i := 3) ?v3r rfl rfl (by kernel_rfl) (by kernel_rfl) (by kernel_rfl) (fun _ _ _ h => h) hC0 ⟨.inl ⟨by kernel_rfl, fun W' hW' => ?y3r⟩, fun _ => rfl⟩ ?_
    case y3r => (have p2 := cell_below p2 hW'; have x1 := cell_below x1 hW'; have x3 := cell_below x3 hW'; have g1 := cell_below g1 hW'; go_simp; rfl)
    simp only [Act.put, List.setIfInBounds_toArray, List.set_cons_succ, List.set_cons_zero]
    refine anyC_take (i := 4) ?v4r rfl rfl (by kernel_rfl) (by kernel_rfl) (by kernel_rfl) (fun _ _ _ h => h) hC0 ⟨.inl ⟨by kernel_rfl, fun W' hW' => ?y4r⟩, fun _ => rfl⟩ ?_
    case y4r => (have p2 := cell_below p2 hW'; have x1 := cell_below x1 hW'; have x3 := cell_below x3 hW'; have g1 := cell_below g1 hW'; go_simp; rfl)
    simp only [Act.put, List.setIfInBounds_toArray, List.set_cons_succ, List.set_cons_zero]
    refine anyC_take (i := 5) ?v5r rfl rfl (by kernel_rfl) (by kernel_rfl) (by kernel_rfl) (fun _ _ _ h => h) hC0 ⟨.inl ⟨by kernel_rfl, fun W' hW' => ?y5r⟩, fun _ => rfl⟩ ?_
    case y5r => (have p2 := cell_below p2 hW'; have x1 := cell_below x1 hW'; have x3 := cell_below x3 hW'; have g1 := cell_below g1 hW'; go_simp; rfl)
    simp only [Act.put, List.setIfInBounds_toArray, List.set_cons_succ, List.set_cons_zero]
    refine anyC_take (i := 6) ?v6r rfl rfl (by kernel_rfl) (by kernel_rfl) (by kernel_rfl) (fun _ _ _ h => h) hC0 ⟨.inl ⟨by kernel_rfl, fun W' hW' => ?y6r⟩, fun _ => rfl⟩ ?_
    case y6r => (have p2 := cell_below p2 hW'; have x1 := cell_below x1 hW'; have x3 := cell_below x3 hW'; have g1 := cell_below g1 hW'; go_simp; rfl)
    simp only [Act.put, List.setIfInBounds_toArray, List.set_cons_succ, List.set_cons_zero]
    refine anyC_take (i := 7) ?v7r rfl rfl (by kernel_rfl) (by kernel_rfl) (by kernel_rfl) (fun _ _ _ h => h) hC0 ⟨.inl ⟨by kernel_rfl, fun W' hW' => ?y7r⟩, fun _ => rfl⟩ ?_
    case y7r => (have p2 := cell_below p2 hW'; have x1 := cell_below x1 hW'; have x3 := cell_below x3 hW'; have g1 := cell_below g1 hW'; go_simp; rfl)
    simp only [Act.put, List.setIfInBounds_toArray, List.set_cons_succ, List.set_cons_zero]
    refine anyC_take (i := 8) ?v8r rfl rfl (by kernel_rfl) (by kernel_rfl) (by kernel_rfl) (fun _ _ _ h => h) hC0 ⟨.inl ⟨by kernel_rfl, fun W' hW' => ?y8r⟩, fun _ => rfl⟩ ?_
    case y8r => (have p2 := cell_below p2 hW'; have x1 := cell_below x1 hW'; have x3 := cell_below x3 hW'; have g1 := cell_below g1 hW'; go_simp; rfl)
    simp only [Act.put, List.setIfInBounds_toArray, List.set_cons_succ, List.set_cons_zero]
    refine anyC_take (i := 9) ?v9r rfl rfl (by kernel_rfl) (by kernel_rfl) (by kernel_rfl) (fun _ _ _ h => h) hC0 ⟨.inl ⟨by kernel_rfl, fun W' hW' => ?y9r⟩, fun _ => rfl⟩ ?_
    case y9r => (have p2 := cell_below p2 hW'; have x1 := cell_below x1 hW'; have x3 := cell_below x3 hW'; have g1 := cell_below g1 hW'; go_simp; rfl)
    simp only [Act.put, List.setIfInBounds_toArray, List.set_cons_succ, List.set_cons_zero]
    refine anyC_only (i := 10) (by kernel_rfl) (wpOpIn_step rfl (fun K' hK' => ?_))
    go_simp
    refine ⟨trivial, rfl, (callsIn_wide.2 (refPart_any s.pic.files[k].runs A' c' fr mn _ (Hg2.out.below hC0) (fair_of_must Hmu'.out) (by omega) (by omega))).mono ?_⟩
    rintro e x1 ⟨⟨A3, c3, rfl, hr3⟩, hx1⟩
    have hC1 : (fun W' : World => Below w2.heap.size w2 W') x1 := hC0.trans (hx1.mono hC0.size)
    refine hK' _ _ ⟨hC1, ?_⟩
    clear hK' K'
    have Hr3 := Lib.hid hr3
    clear hr3
    refine anyC_take (i := 11) ?v11r rfl rfl (by kernel_rfl) (by kernel_rfl) (by kernel_rfl) (fun _ _ _ h => h) hC1 ⟨.inl ⟨by kernel_rfl, fun W' hW' => ?y11r⟩, fun _ => rfl⟩ ?_
    case y11r => (skip; go_simp; rfl)
    simp only [Act.put, List.setIfInBounds_toArray, List.set_cons_succ, List.set_cons_zero]
    refine anyC_done (by kernel_rfl) ?_
    go_wp2_with fail
    go_meet
    exact ⟨A3, c3, rfl, Hr3, hC1⟩
  case rest =>
  obtain ⟨A3, c3, rfl, Hr3, hB3⟩ := hcut
  obtain ⟨w3, rfl⟩ : ∃ w3 : World, w3 = wc := ⟨_, rfl⟩
  have HA3 := Lib.hid (HA2.out.below hB3)
  have hBw3 := below_then hBw2 hB3
  have Ht3 := Lib.hid (Ht2w.out.below hB3)
  have HF3 := Lib.hid (HF.out.below hB3)
  have Hg3 := Lib.hid (Hg2.out.below hB3)
  have g13 := cell_below g1 hB3
  clear p0 p1 p2 x0 x1 x2 x3
  clear HA2 hBw2 Ht2w HF Hg2 g1 hB3
  rcases Hpart.out with ⟨f, m, hm1, hm2, hm3, hm4⟩ | ⟨hbad, hbr⟩
  rotate_left
  · have HQ := Lib.hid (Hrp.out 1 hbad)
    have hBw := hBw3
    clear hbad Hpart
    by_cases hl1 : (partL s.pic.files[k].runs fr (fr + mn)).length = 1
    · obtain ⟨r, hr⟩ := List.length_eq_one_iff.1 hl1
      have hrt := hbr r hr
      rw [hr] at Hr3 ⊢
      obtain ⟨b3, o3, rfl, r0, r1⟩ := Hr3.out 0 (by simp)
      simp only [List.getElem_cons_zero, Nat.zero_mul, Nat.add_zero] at r0
      rw [hrt] at r0
      clear hl1 hr hrt hbr
      have p0 := HA3.out.p0; have p1 := HA3.out.p1; have p2 := HA3.out.p2; have x0 := HA3.out.x0; have x1 := HA3.out.x1; have x2 := HA3.out.x2; have x3 := HA3.out.x3
      have hR := HA3.out.br
      have zR0 := free_at hR 0; have zR1 := free_at hR 1; have zR2 := free_at hR 2
      have yR0 := cell_at hR 0; have yR1 := cell_at hR 1; have yR2 := cell_at hR 2
      simp only [List.getElem?_toArray, List.getElem?_cons_zero, List.getElem?_cons_succ] at yR0 yR1 yR2
      have hfin := cells3z hR (.int .i64 0) (.slice none 0 0) (.slice none 0 0)
      have HBf := Lib.hid (((hBw.setCell (p := ⟨w.heap.size + 1 + 1, 0, none⟩) (by dsimp only; omega) (.int .i64 0)).setCell (p := ⟨w.heap.size + 1 + 1, 1, none⟩) (by dsimp only; omega) (.slice none 0 0)).setCell (p := ⟨w.heap.size + 1 + 1, 2, none⟩) (by dsimp only; omega) (.slice none 0 0))
      have k0 := cell_at hfin 0; have k1 := cell_at hfin 1; have k2 := cell_at hfin 2
      simp only [List.getElem?_toArray, List.getElem?_cons_zero, List.getElem?_cons_succ] at k0 k1 k2
      clear hR hfin
      go_wp2_with fail
      refine bodyPost_ret (v := .tuple #[.agg #[.int .i64 0, .slice none 0 0, .slice none 0 0], .int .i64 1]) (by first | (simp [results, Try.results14, go_sem, k0, k1, k2]; done) | (simp [results, Try.results14, go_sem, k0, k1, k2]; rfl)) rfl ⟨⟨_, by rw [HQ.out], by rw [HQ.out]; exact PicN.zero _ _⟩, HBf.out⟩
    · have ql : (((partL s.pic.files[k].runs fr (fr + mn)).length : Int) != 1) = true := by simp; omega
      clear hl1 hbr
      have p0 := HA3.out.p0; have p1 := HA3.out.p1; have p2 := HA3.out.p2; have x0 := HA3.out.x0; have x1 := HA3.out.x1; have x2 := HA3.out.x2; have x3 := HA3.out.x3
      have hR := HA3.out.br
      have zR0 := free_at hR 0; have zR1 := free_at hR 1; have zR2 := free_at hR 2
      have yR0 := cell_at hR 0; have yR1 := cell_at hR 1; have yR2 := cell_at hR 2
      simp only [List.getElem?_toArray, List.getElem?_cons_zero, List.getElem?_cons_succ] at yR0 yR1 yR2
      have hfin := cells3z hR (.int .i64 0) (.slice none 0 0) (.slice none 0 0)
      have HBf := Lib.hid (((hBw.setCell (p := ⟨w.heap.size + 1 + 1, 0, none⟩) (by dsimp only; omega) (.int .i64 0)).setCell (p := ⟨w.heap.size + 1 + 1, 1, none⟩) (by dsimp only; omega) (.slice none 0 0)).setCell (p := ⟨w.heap.size + 1 + 1, 2, none⟩) (by dsimp only; omega) (.slice none 0 0))
      have k0 := cell_at hfin 0; have k1 := cell_at hfin 1; have k2 := cell_at hfin 2
      simp only [List.getElem?_toArray, List.getElem?_cons_zero, List.getElem?_cons_succ] at k0 k1 k2
      clear hR hfin
      go_wp2_with fail
      refine bodyPost_ret (v := .tuple #[.agg #[.int .i64 0, .slice none 0 0, .slice none 0 0], .int .i64 1]) (by first | (simp [results, Try.results14, go_sem, k0, k1, k2]; done) | (simp [results, Try.results14, go_sem, k0, k1, k2]; rfl)) rfl ⟨⟨_, by rw [HQ.out], by rw [HQ.out]; exact PicN.zero _ _⟩, HBf.out⟩
  rw [hm4] at Hr3 ⊢
  obtain ⟨b3, o3, rfl, r0, r1⟩ := Hr3.out 0 (by simp)
  simp only [List.getElem_cons_zero, Nat.zero_mul, Nat.add_zero] at r0
  have hm1' : mapL (stR s ⟨no, fr, tt, mn⟩) fr = some (f, m) := by rw [HR.out]; exact hm1
  have qf : (f == -1) = false := by simpa using hm2
  have Hbusy := Lib.hid (fun (q : Nat) (h1 : tt ≤ (q : Int)) (h2 : (q : Int) < tt + mn) (hb : t[q]? ≠ some 0) => Hrp.out 13 (rap_busy (x := ⟨no, fr, tt, mn⟩) Hinv.out HT.out Ht2.out HnT.out hm1' hm2 hm3 h1 h2 hb))
  have Hdone := Lib.hid (fun (hb : ∀ k : Nat, tt ≤ (k : Int) → (k : Int) < tt + mn → t[k]? = some 0) => rap_done (x := ⟨no, fr, tt, mn⟩) Hinv.out HT.out Ht2.out HnT.out hm1' hm2 hm3 hb)
  clear hm1 hm1' hm2 hm3 hm4 Hpart
  have p0 := HA3.out.p0; have p1 := HA3.out.p1; have p2 := HA3.out.p2; have x0 := HA3.out.x0; have x1 := HA3.out.x1; have x2 := HA3.out.x2; have x3 := HA3.out.x3
  go_wp2_with fail
  obtain ⟨a, rfl⟩ := Int.eq_ofNat_of_zero_le (show 0 ≤ tt by omega)
  obtain ⟨m, rfl⟩ := Int.eq_ofNat_of_zero_le (show 0 ≤ mn by omega)
  have hszt : a + m ≤ t.length := by rw [Htl.out]; omega
  go_loopw [12] (fun i wx => ∃ j : Nat, j ≤ m ∧ i = .int .i64 ((a : Int) + j) ∧ Hid (∀ q : Nat, (a : Int) ≤ q → (q : Int) < a + j → t[q]? = some 0) ∧ wx = w3) (fun i _ => (a + m - (intOf i)).toNat)
  case atStart => exact ⟨0, by omega, by simp, Lib.hid (fun q _ _ => by omega), rfl⟩
  case round =>
    obtain ⟨j, hj, rfl, HJ, rfl⟩ := hrel
    by_cases hlj : j < m
    · have hin : a + j < t.length := by omega
      obtain ⟨b4, o4, rfl, h4⟩ := Ht3.out (a + j) hin
      obtain ⟨tv, htv⟩ : ∃ tv, t[a + j] = tv := ⟨_, rfl⟩
      rw [htv] at h4
      by_cases g5 : tv = 0
      · have q5 : (tv != 0) = false := by simpa using g5
        have HN : Hid (∀ q : Nat, (a : Int) ≤ q → (q : Int) < a + (j + 1 : Nat) → t[q]? = some 0) := Lib.hid (fun q h1 h2 => by
          by_cases e : q = a + j
          · subst e; rw [List.getElem?_eq_getElem hin, htv, g5]
          · exact HJ.out q h1 (by omega))
        clear g5 htv
        go_wp2_with fail
        exact ⟨⟨j + 1, by omega, by go_num, HN, (by first | rfl | trivial)⟩, by simp [intOf]; omega⟩
      · have q5 : (tv != 0) = true := by simpa using g5
        have HQ := Lib.hid (Hbusy.out (a + j) (by omega) (by omega) (by rw [List.getElem?_eq_getElem hin, htv]; intro e; exact g5 (by injection e)))
        have hBw := hBw3
        clear g5 htv Hbusy
        have hR := HA3.out.br
        have zR0 := free_at hR 0; have zR1 := free_at hR 1; have zR2 := free_at hR 2
        have yR0 := cell_at hR 0; have yR1 := cell_at hR 1; have yR2 := cell_at hR 2
        simp only [List.getElem?_toArray, List.getElem?_cons_zero, List.getElem?_cons_succ] at yR0 yR1 yR2
        have hfin := cells3z hR (.int .i64 0) (.slice none 0 0) (.slice none 0 0)
        have HBf := Lib.hid (((hBw.setCell (p := ⟨w.heap.size + 1 + 1, 0, none⟩) (by dsimp only; omega) (.int .i64 0)).setCell (p := ⟨w.heap.size + 1 + 1, 1, none⟩) (by dsimp only; omega) (.slice none 0 0)).setCell (p := ⟨w.heap.size + 1 + 1, 2, none⟩) (by dsimp only; omega) (.slice none 0 0))
        have k0 := cell_at hfin 0; have k1 := cell_at hfin 1; have k2 := cell_at hfin 2
        simp only [List.getElem?_toArray, List.getElem?_cons_zero, List.getElem?_cons_succ] at k0 k1 k2
        clear hR hfin
        go_wp2_with fail
        refine bodyPost_ret (v := .tuple #[.agg #[.int .i64 0, .slice none 0 0, .slice none 0 0], .int .i64 13]) (by first | (simp [results, Try.results14, go_sem, k0, k1, k2]; done) | (simp [results, Try.results14, go_sem, k0, k1, k2]; rfl)) rfl ⟨⟨_, by rw [HQ.out], by rw [HQ.out]; exact PicN.zero _ _⟩, HBf.out⟩
    obtain rfl : m = j := by omega
    clear Hbusy
    obtain ⟨s1, hs1, hs2⟩ := Hdone.out (fun q h1 h2 => HJ.out q h1 h2)
    have Hfin := Lib.hid (Hro.out s1 hs1)
    have Hs2 := Lib.hid hs2
    clear hs1 hs2 Hdone HJ Hrp Hro
    obtain ⟨mm, hmm1, hmm2, hsr⟩ := (show FilN n0 w (some ⟨b, o, none⟩) s.pic.files from by
      obtain ⟨_, _, _, _, he9, _, hF9⟩ := HpN.out
      cases he9
      exact hF9).src
    obtain ⟨hs1, hs2', hs3⟩ := hsr
    have Hmm1 := Lib.hid hmm1; have Hmm2 := Lib.hid hmm2; have Hs3 := Lib.hid hs3
    clear hmm1 hmm2 hs3
    obtain ⟨wq, hwq⟩ : ∃ wq : World, wq = wr := ⟨_, rfl⟩
    have HBq := Lib.hid (show Below w.heap.size w wr from hBw3)
    have HAq := Lib.hid HA3.out
    have hwl := HBq.out.size
    have hn2 : w.heap.size + 1 + 1 < wr.heap.size := lt_of_block HAq.out.br
    clear hwq
    have p2a := cell_below p2 (below_alloc (Below.refl wr.heap.size wr) (.cells #[.int .i64 s.pic.size, .slice Ax s.pic.fixed.length cx, .slice (some ⟨b, o, none⟩) s.pic.files.length cf] 25))
    have p2b := cell_below p2 (below_alloc (below_alloc (Below.refl wr.heap.size wr) (.cells #[.int .i64 s.pic.size, .slice Ax s.pic.fixed.length cx, .slice (some ⟨b, o, none⟩) s.pic.files.length cf] 25)) (.cells #[] 46))
    go_wp2_with ((at_builtin; refine wpList_append_own _ rfl _ _ 23 rfl (wr.heap.size + 1) 46 i0 (.agg #[.int .i64 0, .slice none 0 0]) 2 32 Try.underlying23 hi hz0 hz1 hz2 rfl (by decide) _ 0 [] rfl ?cr ⟨b, o, none⟩ s.pic.files.length cf (flatF mm) rfl hs1 ?c1 hs2' ?c3 ?c4 ?c5 ?_))
    case cr => (have h9 := World.ownsRow_made (base := wr.heap.size + 1) (e := 46) (size := 2) (wr.alloc (.cells #[.int .i64 s.pic.size, .slice Ax s.pic.fixed.length cx, .slice (some ⟨b, o, none⟩) s.pic.files.length cf] 25)) #[] 0 (by simp) (by simp [maxLen]) (by simp); simp only [World.size_alloc] at h9; exact h9)
    case c1 =>
      intro j u hu
      rcases Hs3.out with h | ⟨b9, o9, ha9, hcell⟩
      · omega
      · cases ha9
        have hadd : (⟨b, o, none⟩ : Addr).add j = ⟨b, o + j, none⟩ := by unfold Addr.add; split <;> simp_all
        rw [hadd]
        exact cell_below (hcell j u hu) (below_alloc (below_alloc HBq.out _) _)
    case c3 => simp only [maxLen]; omega
    case c4 => omega
    case c5 => simp
    intro v7 w5 hown hg hf0
    obtain ⟨A7, c7, rfl⟩ := ownsRow_shape hown
    try simp only [Nat.zero_add, List.nil_append] at hown
    try simp only [Nat.zero_add]
    obtain ⟨g7, rfl⟩ : ∃ g7, A7 = some ⟨g7, 0, none⟩ := by
      rcases hown.2 with ⟨h, h'⟩ | ⟨g, cap, cur, h, _⟩
      · omega
      · cases h; exact ⟨g, rfl⟩
    have hD4 := heap_alloc_old' (World.alloc_heap_new wr (.cells #[.int .i64 s.pic.size, .slice Ax s.pic.fixed.length cx, .slice (some ⟨b, o, none⟩) s.pic.files.length cf] 25)) (.cells #[] 46)
    have hD5 : w5.heap[wr.heap.size]? = some (.cells #[.int .i64 s.pic.size, .slice Ax s.pic.fixed.length cx, .slice (some ⟨b, o, none⟩) s.pic.files.length cf] 25 (0, 0)) := (hg.block _ (by simp; omega) (fun e => absurd (Option.some.inj (show some wr.heap.size = some (wr.heap.size + 1) from e)) (by omega))).trans hD4
    have hB5 : Below wr.heap.size wr w5 := (below_alloc (below_alloc (Below.refl _ wr) _) _).grown hg (by simp; omega) (fun q e => by have e' : some (wr.heap.size + 1) = some q := e; injection e' with e'; omega)
    have hd2 := cell_at hD5 2
    have hdz := free_at hD5 2
    simp only [List.getElem?_toArray, List.getElem?_cons_zero, List.getElem?_cons_succ] at hd2
    have hg7 := (hown.lt g7 rfl)
    have HD5 := Lib.hid hD5; have HB5 := Lib.hid hB5; have Hown := Lib.hid hown
    clear hD4 hD5 hB5 hown hg hf0 p0 p1 p2 p2a p2b x0 x1 x2 x3
    go_wp2_with fail
    obtain ⟨D, hD⟩ : ∃ D, wr.heap.size = D := ⟨_, rfl⟩
    obtain ⟨w8, hw8⟩ : ∃ w8, w5.setCell ⟨wr.heap.size, 2, none⟩ (.slice (some ⟨g7, 0, none⟩) s.pic.files.length c7) = w8 := ⟨_, rfl⟩
    have hB8 : Below wr.heap.size wr w8 := by rw [← hw8]; exact HB5.out.setCell (p := ⟨wr.heap.size, 2, none⟩) (Nat.le_refl _) _
    have hD8 : w8.heap[wr.heap.size]? = some (.cells #[.int .i64 s.pic.size, .slice Ax s.pic.fixed.length cx, .slice (some ⟨g7, 0, none⟩) s.pic.files.length c7] 25 (0, 0)) := by
      rw [← hw8, heap_setCell_at HD5.out]; simp
    have hown8 : w8.ownsRow (wr.heap.size + 1) 46 2 (.slice (some ⟨g7, 0, none⟩) s.pic.files.length c7) s.pic.files.length (flatF mm) := by
      rw [← hw8]
      exact ownsRow_kept Hown.out (fun q c f hq => (Below.heap_setCell _ _ _ _ (fun e => by dsimp only at e; subst e; rw [HD5.out] at hq; cases hq)).trans hq)
    have hg78 : g7 < w8.heap.size := by rw [← hw8]; simpa using hg7.2
    have HA8 := Lib.hid (HAq.out.below hB8)
    have HBw8 := Lib.hid (below_then HBq.out hB8)
    have Hg8 := Lib.hid (Hg3.out.below hB8)
    have g18 := cell_below g13 hB8
    rw [hD] at hD8 hown8 hg7 hn2 hwl
    rw [hw8, hD]
    have HD8 := Lib.hid hD8; have Hown8 := Lib.hid hown8
    have d2 := cell_at hD8 2
    simp only [List.getElem?_toArray, List.getElem?_cons_zero, List.getElem?_cons_succ] at d2
    have p2 := HA8.out.p2; have x1 := HA8.out.x1; have x2 := HA8.out.x2; have x3 := HA8.out.x3
    clear hw8 hD hB8 hD8 hown8 hd2 hdz HD5 HB5 Hown g13 Hg3 HA3 HF3 Ht3 hs1 hs2' Hs3
    have hCof : ∀ W' : World, Below w8.heap.size w8 W' → (fun W' : World => W'.cell? ⟨w.heap.size, 2, none⟩ = some (.slice (some ⟨b, o, none⟩) s.pic.files.length cf) ∧ W'.cell? ⟨D, 2, none⟩ = some (.slice (some ⟨g7, 0, none⟩) s.pic.files.length c7) ∧ W'.cell? ⟨b, o + k * 2 + 1, none⟩ = some (.slice A' s.pic.files[k].runs.length c') ∧ W'.cell? ⟨w.heap.size + 1, 1, none⟩ = some (.int .i64 fr) ∧ W'.cell? ⟨w.heap.size + 1, 2, none⟩ = some (.int .i64 a) ∧ W'.cell? ⟨w.heap.size + 1, 3, none⟩ = some (.int .i64 m)) W' := fun W' h => ⟨cell_below p2 h, cell_below d2 h, cell_below g18 h, cell_below x1 h, cell_below x2 h, cell_below x3 h⟩
    have HCof := Lib.hid hCof
    have hbw : b < w.heap.size := by
      obtain ⟨_, _, _, _, he9, _, hF9⟩ := Hp0.out
      cases he9
      obtain ⟨b9, o9, _, _, he, hq, -, -⟩ := hF9 k hk
      cases he
      exact World.block_lt_of_cell? w ⟨b, _, none⟩ hq
    clear hCof
    refine wp_region_anyN (C := (fun W' : World => W'.cell? ⟨w.heap.size, 2, none⟩ = some (.slice (some ⟨b, o, none⟩) s.pic.files.length cf) ∧ W'.cell? ⟨D, 2, none⟩ = some (.slice (some ⟨g7, 0, none⟩) s.pic.files.length c7) ∧ W'.cell? ⟨b, o + k * 2 + 1, none⟩ = some (.slice A' s.pic.files[k].runs.length c') ∧ W'.cell? ⟨w.heap.size + 1, 1, none⟩ = some (.int .i64 fr) ∧ W'.cell? ⟨w.heap.size + 1, 2, none⟩ = some (.int .i64 a) ∧ W'.cell? ⟨w.heap.size + 1, 3, none⟩ = some (.int .i64 m))) 24 (by kernel_rfl) hmx ?_
    have hC0 : (fun W' : World => W'.cell? ⟨w.heap.size, 2, none⟩ = some (.slice (some ⟨b, o, none⟩) s.pic.files.length cf) ∧ W'.cell? ⟨D, 2, none⟩ = some (.slice (some ⟨g7, 0, none⟩) s.pic.files.length c7) ∧ W'.cell? ⟨b, o + k * 2 + 1, none⟩ = some (.slice A' s.pic.files[k].runs.length c') ∧ W'.cell? ⟨w.heap.size + 1, 1, none⟩ = some (.int .i64 fr) ∧ W'.cell? ⟨w.heap.size + 1, 2, none⟩ = some (.int .i64 a) ∧ W'.cell? ⟨w.heap.size + 1, 3, none⟩ = some (.int .i64 m)) w8.drew := HCof.out _ (Below.refl _ _).drew
    refine anyC_take (i := 0) ?v0z rfl rfl (by kernel_rfl) (by kernel_rfl) (by kernel_rfl) (fun _ _ _ h => h) hC0 ⟨.inl ⟨by kernel_rfl, fun W' hW' => ?y0z⟩, fun _ => rfl⟩ ?_
    case y0z => (obtain ⟨p2, d2, gg, x1, x2, x3⟩ := hW'; go_simp; rfl)
    simp only [Act.put, List.setIfInBounds_toArray, List.set_cons_succ, List.set_cons_zero]
    refine anyC_take (i := 1) ?v1z rfl rfl (by kernel_rfl) (by kernel_rfl) (by kernel_rfl) (fun _ _ _ h => h) hC0 ⟨.inl ⟨by kernel_rfl, fun W' hW' => ?y1z⟩, fun _ => rfl⟩ ?_
    case y1z => (obtain ⟨p2, d2, gg, x1, x2, x3⟩ := hW'; go_simp; rfl)
    simp only [Act.put, List.setIfInBounds_toArray, List.set_cons_succ, List.set_cons_zero]
    refine anyC_take (i := 2) ?v2z rfl rfl (by kernel_rfl) (by kernel_rfl) (by kernel_rfl) (fun _ _ _ h => h) hC0 ⟨.inl ⟨by kernel_rfl, fun W' hW' => ?y2z⟩, fun _ => rfl⟩ ?_
    case y2z => (obtain ⟨p2, d2, gg, x1, x2, x3⟩ := hW'; go_simp; rfl)
    simp only [Act.put, List.setIfInBounds_toArray, List.set_cons_succ, List.set_cons_zero]
    refine anyC_take (i := 3) ?v3z rfl rfl (by kernel_rfl) (by kernel_rfl) (by kernel_rfl) (fun _ _ _ h => h) hC0 ⟨.inl ⟨by kernel_rfl, fun W' hW' => ?y3z⟩, fun _ => rfl⟩ ?_
    case y3z => (obtain ⟨p2, d2, gg, x1, x2, x3⟩ := hW'; go_simp; rfl)
    simp only [Act.put, List.setIfInBounds_toArray, List.set_cons_succ, List.set_cons_zero]
    refine anyC_take (i := 4) ?v4z rfl rfl (by kernel_rfl) (by kernel_rfl) (by kernel_rfl) (fun _ _ _ h => h) hC0 ⟨.inl ⟨by kernel_rfl, fun W' hW' => ?y4z⟩, fun _ => rfl⟩ ?_
    case y4z => (obtain ⟨p2, d2, gg, x1, x2, x3⟩ := hW'; go_simp; rfl)
    simp only [Act.put, List.setIfInBounds_toArray, List.set_cons_succ, List.set_cons_zero]
    refine anyC_take (i := 5) ?v5z rfl rfl (by kernel_rfl) (by kernel_rfl) (by kernel_rfl) (fun _ _ _ h => h) hC0 ⟨.inl ⟨by kernel_rfl, fun W' hW' => ?y5z⟩, fun _ => rfl⟩ ?_
    case y5z => (obtain ⟨p2, d2, gg, x1, x2, x3⟩ := hW'; go_simp; rfl)
    simp only [Act.put, List.setIfInBounds_toArray, List.set_cons_succ, List.set_cons_zero]
    refine anyC_take (i := 6) ?v6z rfl rfl (by kernel_rfl) (by kernel_rfl) (by kernel_rfl) (fun _ _ _ h => h) hC0 ⟨.inl ⟨by kernel_rfl, fun W' hW' => ?y6z⟩, fun _ => rfl⟩ ?_
    case y6z => (obtain ⟨p2, d2, gg, x1, x2, x3⟩ := hW'; go_simp; rfl)
    simp only [Act.put, List.setIfInBounds_toArray, List.set_cons_succ, List.set_cons_zero]
    refine anyC_take (i := 7) ?v7z rfl rfl (by kernel_rfl) (by kernel_rfl) (by kernel_rfl) (fun _ _ _ h => h) hC0 ⟨.inl ⟨by kernel_rfl, fun W' hW' => ?y7z⟩, fun _ => rfl⟩ ?_
    case y7z => (obtain ⟨p2, d2, gg, x1, x2, x3⟩ := hW'; go_simp; rfl)
    simp only [Act.put, List.setIfInBounds_toArray, List.set_cons_succ, List.set_cons_zero]
    refine anyC_take (i := 8) ?v8z rfl rfl (by kernel_rfl) (by kernel_rfl) (by kernel_rfl) (fun _ _ _ h => h) hC0 ⟨.inl ⟨by kernel_rfl, fun W' hW' => ?y8z⟩, fun _ => rfl⟩ ?_
    case y8z => (obtain ⟨p2, d2, gg, x1, x2, x3⟩ := hW'; go_simp; rfl)
    simp only [Act.put, List.setIfInBounds_toArray, List.set_cons_succ, List.set_cons_zero]
    refine anyC_take (i := 9) ?v9z rfl rfl (by kernel_rfl) (by kernel_rfl) (by kernel_rfl) (fun _ _ _ h => h) hC0 ⟨.inl ⟨by kernel_rfl, fun W' hW' => ?y9z⟩, fun _ => rfl⟩ ?_
    case y9z => (obtain ⟨p2, d2, gg, x1, x2, x3⟩ := hW'; go_simp; rfl)
    simp only [Act.put, List.setIfInBounds_toArray, List.set_cons_succ, List.set_cons_zero]
    refine anyC_take (i := 10) ?v10z rfl rfl (by kernel_rfl) (by kernel_rfl) (by kernel_rfl) (fun _ _ _ h => h) hC0 ⟨.inl ⟨by kernel_rfl, fun W' hW' => ?y10z⟩, fun _ => rfl⟩ ?_
    case y10z => (obtain ⟨p2, d2, gg, x1, x2, x3⟩ := hW'; go_simp; rfl)
    simp only [Act.put, List.setIfInBounds_toArray, List.set_cons_succ, List.set_cons_zero]
    refine anyC_take (i := 11) ?v11z rfl rfl (by kernel_rfl) (by kernel_rfl) (by kernel_rfl) (fun _ _ _ h => h) hC0 ⟨.inl ⟨by kernel_rfl, fun W' hW' => ?y11z⟩, fun _ => rfl⟩ ?_
    case y11z => (obtain ⟨p2, d2, gg, x1, x2, x3⟩ := hW'; go_simp; rfl)
    simp only [Act.put, List.setIfInBounds_toArray, List.set_cons_succ, List.set_cons_zero]
    refine anyC_take (i := 12) ?v12z rfl rfl (by kernel_rfl) (by kernel_rfl) (by kernel_rfl) (fun _ _ _ h => h) hC0 ⟨.inl ⟨by kernel_rfl, fun W' hW' => ?y12z⟩, fun _ => rfl⟩ ?_
    case y12z => (obtain ⟨p2, d2, gg, x1, x2, x3⟩ := hW'; go_simp; rfl)
    simp only [Act.put, List.setIfInBounds_toArray, List.set_cons_succ, List.set_cons_zero]
    refine anyC_take (i := 13) ?v13z rfl rfl (by kernel_rfl) (by kernel_rfl) (by kernel_rfl) (fun _ _ _ h => h) hC0 ⟨.inl ⟨by kernel_rfl, fun W' hW' => ?y13z⟩, fun _ => rfl⟩ ?_
    case y13z => (obtain ⟨p2, d2, gg, x1, x2, x3⟩ := hW'; go_simp; rfl)
    simp only [Act.put, List.setIfInBounds_toArray, List.set_cons_succ, List.set_cons_zero]
    refine anyC_take (i := 14) ?v14z rfl rfl (by kernel_rfl) (by kernel_rfl) (by kernel_rfl) (fun _ _ _ h => h) hC0 ⟨.inl ⟨by kernel_rfl, fun W' hW' => ?y14z⟩, fun _ => rfl⟩ ?_
    case y14z => (obtain ⟨p2, d2, gg, x1, x2, x3⟩ := hW'; go_simp; rfl)
    simp only [Act.put, List.setIfInBounds_toArray, List.set_cons_succ, List.set_cons_zero]
    refine anyC_take (i := 15) ?v15z rfl rfl (by kernel_rfl) (by kernel_rfl) (by kernel_rfl) (fun _ _ _ h => h) hC0 ⟨.inl ⟨by kernel_rfl, fun W' hW' => ?y15z⟩, fun _ => rfl⟩ ?_
    case y15z => (obtain ⟨p2, d2, gg, x1, x2, x3⟩ := hW'; go_simp; rfl)
    simp only [Act.put, List.setIfInBounds_toArray, List.set_cons_succ, List.set_cons_zero]
    refine anyC_only (i := 16) (by kernel_rfl) (wpOpIn_step rfl (fun K' hK' => ?_))
    go_simp
    obtain ⟨y1, hy1⟩ : ∃ y1, (w8.alloc (.cells #[.int .i64 a, .int .i64 m] 52)).drew = y1 := ⟨_, rfl⟩
    have hB1 : Below w8.heap.size w8 y1 := by rw [← hy1]; exact (below_alloc (Below.refl _ _) _).drew
    have hC1 : (fun W' : World => W'.cell? ⟨w.heap.size, 2, none⟩ = some (.slice (some ⟨b, o, none⟩) s.pic.files.length cf) ∧ W'.cell? ⟨D, 2, none⟩ = some (.slice (some ⟨g7, 0, none⟩) s.pic.files.length c7) ∧ W'.cell? ⟨b, o + k * 2 + 1, none⟩ = some (.slice A' s.pic.files[k].runs.length c') ∧ W'.cell? ⟨w.heap.size + 1, 1, none⟩ = some (.int .i64 fr) ∧ W'.cell? ⟨w.heap.size + 1, 2, none⟩ = some (.int .i64 a) ∧ W'.cell? ⟨w.heap.size + 1, 3, none⟩ = some (.int .i64 m)) y1 := HCof.out _ hB1
    have hbk : y1.heap[w8.heap.size]? = some (.cells #[.int .i64 a, .int .i64 m] 52 (0, 0)) := by rw [← hy1]; exact World.alloc_heap_new w8 _
    rw [hy1]
    refine hK' _ _ ⟨hC1, ?_⟩
    clear hK' K' hy1
    have hmore : mustE [(⟨(a : Int), (m : Int)⟩ : Run)] = 0 := by
      have q1 : okRun ⟨(a : Int), (m : Int)⟩ = true := by rw [okRun_iff]; dsimp only; omega
      have q2 : validL [(⟨(a : Int), (m : Int)⟩ : Run)] = true := by simp only [validL, List.all_cons, List.all_nil, q1, pagesL]; simp; omega
      rw [mustE, if_neg (by simp), if_pos q2]
    have hnew : RunsC y1 (some ⟨w8.heap.size, 0, none⟩) [⟨(a : Int), (m : Int)⟩] := by
      intro q hq
      obtain rfl : q = 0 := by simp at hq; omega
      exact ⟨w8.heap.size, 0, rfl, by simpa using cell_at hbk 0, by simpa using cell_at hbk 1⟩
    have Hmore := Lib.hid hmore; have Hnew := Lib.hid hnew
    clear hmore hnew
    refine anyC_only (i := 17) (by kernel_rfl) (wpOpIn_step rfl (fun K' hK' => ?_))
    go_simp
    refine ⟨trivial, rfl, (callsIn_wide.2 (refPut_any s.pic.files[k].runs [⟨(a : Int), (m : Int)⟩] A' (some ⟨w8.heap.size, 0, none⟩) c' 1 fr _ (Hg8.out.below hB1) Hnew.out Hmu'.out Hmore.out (by rw [HN.out]; omega) (by simp [pagesL]; omega))).mono ?_⟩
    rintro e y2 ⟨⟨A9, c9, v9, rfl, hr9⟩, hy2⟩
    have hB2 : Below w8.heap.size w8 y2 := hB1.trans (hy2.mono hB1.size)
    have hC2 : (fun W' : World => W'.cell? ⟨w.heap.size, 2, none⟩ = some (.slice (some ⟨b, o, none⟩) s.pic.files.length cf) ∧ W'.cell? ⟨D, 2, none⟩ = some (.slice (some ⟨g7, 0, none⟩) s.pic.files.length c7) ∧ W'.cell? ⟨b, o + k * 2 + 1, none⟩ = some (.slice A' s.pic.files[k].runs.length c') ∧ W'.cell? ⟨w.heap.size + 1, 1, none⟩ = some (.int .i64 fr) ∧ W'.cell? ⟨w.heap.size + 1, 2, none⟩ = some (.int .i64 a) ∧ W'.cell? ⟨w.heap.size + 1, 3, none⟩ = some (.int .i64 m)) y2 := HCof.out _ hB2
    refine hK' _ _ ⟨hC2, ?_⟩
    clear hK' K' hbk
    have Hr9 := Lib.hid hr9
    clear hr9 hy2
    have hmk : k < mm.length := by have h9 := congrArg List.length Hmm1.out; simp at h9; omega
    have hmk1 : mm[k].1 = s.pic.files[k] := by
      have h9 : (mm.map Prod.fst)[k]? = s.pic.files[k]? := by rw [Hmm1.out]
      rw [List.getElem?_map, List.getElem?_eq_getElem hmk, List.getElem?_eq_getElem hk] at h9
      simpa using h9
    have Hmk1 := Lib.hid hmk1
    have hml : mm.length = s.pic.files.length := by have h9 := congrArg List.length Hmm1.out; simpa using h9
    have Hml := Lib.hid hml
    clear hmk1 hml
    have hrow2 := ownsRow_below Hown8.out hB2
    have hc9 := hrow2.cellAt (k * 2 + 1) (by omega)
    have hz9 := hrow2.frozenAt (k * 2 + 1)
    have hc9' : y2.cell? ⟨g7, k * 2 + 1, none⟩ = some (.slice mm[k].2.1 mm[k].1.runs.length mm[k].2.2) := by rw [hc9]; exact (flatF_get mm k hmk).2
    have hst := hrow2.stored (k * 2 + 1) (.slice A9 (putX s.pic.files[k].runs fr [⟨(a : Int), (m : Int)⟩]).length c9)
    rw [flatF_set mm k hmk] at hst
    have Hst := Lib.hid hst.1
    clear hrow2 hc9 hst
    refine anyC_take (i := 18) ?v18z rfl rfl (by kernel_rfl) (by kernel_rfl) (by kernel_rfl) (fun _ _ _ h => h) hC2 ⟨.inl ⟨by kernel_rfl, fun W' hW' => ?y18z⟩, fun _ => rfl⟩ ?_
    case y18z => (skip; go_simp; rfl)
    simp only [Act.put, List.setIfInBounds_toArray, List.set_cons_succ, List.set_cons_zero]
    refine anyC_take (i := 19) ?v19z rfl rfl (by kernel_rfl) (by kernel_rfl) (by kernel_rfl) (fun _ _ _ h => h) hC2 ⟨.inl ⟨by kernel_rfl, fun W' hW' => ?y19z⟩, fun _ => rfl⟩ ?_
    case y19z => (skip; go_simp; rfl)
    simp only [Act.put, List.setIfInBounds_toArray, List.set_cons_succ, List.set_cons_zero]
    refine anyC_take (i := 20) ?v20z rfl rfl (by kernel_rfl) (by kernel_rfl) (by kernel_rfl) (fun _ _ _ h => h) hC2 ⟨.inl ⟨by kernel_rfl, fun W' hW' => ?y20z⟩, fun _ => rfl⟩ ?_
    case y20z => (skip; go_simp; rfl)
    simp only [Act.put, List.setIfInBounds_toArray, List.set_cons_succ, List.set_cons_zero]
    refine anyC_take (i := 21) ?v21z rfl rfl (by kernel_rfl) (by kernel_rfl) (by kernel_rfl) (fun _ _ _ h => h) hC2 ⟨.inl ⟨by kernel_rfl, fun W' hW' => ?y21z⟩, fun _ => rfl⟩ ?_
    case y21z => (skip; go_simp; rfl)
    simp only [Act.put, List.setIfInBounds_toArray, List.set_cons_succ, List.set_cons_zero]
    refine anyC_take (i := 22) ?v22z rfl rfl (by kernel_rfl) (by kernel_rfl) (by kernel_rfl) (fun _ _ _ h => h) hC2 ⟨.inl ⟨by kernel_rfl, fun W' hW' => ?y22z⟩, fun _ => rfl⟩ ?_
    case y22z => (skip; go_simp; rfl)
    simp only [Act.put, List.setIfInBounds_toArray, List.set_cons_succ, List.set_cons_zero]
    refine anyC_only (i := 23) (by kernel_rfl) (wpOpIn_step rfl (fun K' hK' => ?_))
    go_simp
    obtain ⟨y3, hy3⟩ : ∃ y3, y2.setCell ⟨g7, k * 2 + 1, none⟩ (.slice A9 (putX s.pic.files[k].runs fr [⟨(a : Int), (m : Int)⟩]).length c9) = y3 := ⟨_, rfl⟩
    rw [hy3] at Hst ⊢
    have hC3 : (fun W' : World => W'.cell? ⟨w.heap.size, 2, none⟩ = some (.slice (some ⟨b, o, none⟩) s.pic.files.length cf) ∧ W'.cell? ⟨D, 2, none⟩ = some (.slice (some ⟨g7, 0, none⟩) s.pic.files.length c7) ∧ W'.cell? ⟨b, o + k * 2 + 1, none⟩ = some (.slice A' s.pic.files[k].runs.length c') ∧ W'.cell? ⟨w.heap.size + 1, 1, none⟩ = some (.int .i64 fr) ∧ W'.cell? ⟨w.heap.size + 1, 2, none⟩ = some (.int .i64 a) ∧ W'.cell? ⟨w.heap.size + 1, 3, none⟩ = some (.int .i64 m)) y3 := by
      rw [← hy3]
      obtain ⟨z1, z2, z3, z4, z5, z6⟩ := hC2
      exact ⟨cell_other (by omega) z1, cell_other (by omega) z2, cell_other (by omega) z3, cell_other (by omega) z4, cell_other (by omega) z5, cell_other (by omega) z6⟩
    have HD9 := Lib.hid (show y3.heap[D]? = some (.cells #[.int .i64 s.pic.size, .slice Ax s.pic.fixed.length cx, .slice (some ⟨g7, 0, none⟩) s.pic.files.length c7] 25 (0, 0)) by rw [← hy3]; exact other_set' (block_below HD8.out hB2) (by omega))
    have HR9 := Lib.hid (show y3.heap[w.heap.size + 1 + 1]? = some (.cells #[.int .i64 0, .slice none 0 0, .slice none 0 0] 25 (0, 0)) by rw [← hy3]; exact other_set' (block_below HA8.out.br hB2) (by omega))
    have HT9 := Lib.hid (show RunsT y3 A9 (putX s.pic.files[k].runs fr [⟨(a : Int), (m : Int)⟩]) by
      rw [← hy3]
      exact Hr9.out.kept (fun q c f hq => (Below.heap_setCell _ _ _ _ (fun e => by
        dsimp only at e; subst e
        rcases ownsRow_block (ownsRow_below Hown8.out hB2) with h | ⟨bb, cs, he, -, hb9, -⟩
        · omega
        · cases he; rw [hb9] at hq; cases hq)).trans hq))
    have HB9 := Lib.hid (show Below w.heap.size w y3 by rw [← hy3]; exact (below_then HBw8.out hB2).setCell (p := ⟨g7, _, none⟩) (by dsimp only; omega) _)
    refine hK' _ _ ⟨hC3, ?_⟩
    clear hK' K' hy3 hC0 hC1 hC2 hC3 hc9' hz9 hB1 hB2
    refine anyC_done (by kernel_rfl) ?_
    have d0 := cell_at HD9.out 0; have d1 := cell_at HD9.out 1; have d3 := cell_at HD9.out 2
    have zR0 := free_at HR9.out 0; have zR1 := free_at HR9.out 1; have zR2 := free_at HR9.out 2
    have yR0 := cell_at HR9.out 0; have yR1 := cell_at HR9.out 1; have yR2 := cell_at HR9.out 2
    simp only [List.getElem?_toArray, List.getElem?_cons_zero, List.getElem?_cons_succ] at d0 d1 d3 yR0 yR1 yR2
    have hfin := cells3z HR9.out (.int .i64 s.pic.size) (.slice Ax s.pic.fixed.length cx) (.slice (some ⟨g7, 0, none⟩) s.pic.files.length c7)
    have HBf := Lib.hid (((HB9.out.setCell (p := ⟨w.heap.size + 1 + 1, 0, none⟩) (by dsimp only; omega) (.int .i64 s.pic.size)).setCell (p := ⟨w.heap.size + 1 + 1, 1, none⟩) (by dsimp only; omega) (.slice Ax s.pic.fixed.length cx)).setCell (p := ⟨w.heap.size + 1 + 1, 2, none⟩) (by dsimp only; omega) (.slice (some ⟨g7, 0, none⟩) s.pic.files.length c7))
    have k0 := cell_at hfin 0; have k1 := cell_at hfin 1; have k2 := cell_at hfin 2
    simp only [List.getElem?_toArray, List.getElem?_cons_zero, List.getElem?_cons_succ] at k0 k1 k2
    clear hfin
    go_wp2_with fail
    refine bodyPost_ret (v := .tuple #[.agg #[.int .i64 s.pic.size, .slice Ax s.pic.fixed.length cx, .slice (some ⟨g7, 0, none⟩) s.pic.files.length c7], .int .i64 0]) (by first | (simp [results, Try.results14, go_sem, k0, k1, k2]; done) | (simp [results, Try.results14, go_sem, k0, k1, k2]; rfl)) rfl ⟨⟨_, by rw [Hfin.out], ?_⟩, HBf.out⟩
    rw [Hfin.out]
    dsimp only
    rw [Hs2.out]
    have hkept : ∀ (j : Nat) c t f, y3.heap[j]? = some (.cells c t f) → t ≠ 25 → ((((y3.setCell ⟨w.heap.size + 1 + 1, 0, none⟩ (.int .i64 s.pic.size)).setCell ⟨w.heap.size + 1 + 1, 1, none⟩ (.slice Ax s.pic.fixed.length cx)).setCell ⟨w.heap.size + 1 + 1, 2, none⟩ (.slice (some ⟨g7, 0, none⟩) s.pic.files.length c7))).heap[j]? = some (.cells c t f) := by
      intro j c t f hj ht
      have hne : j ≠ w.heap.size + 1 + 1 := fun e => by subst e; rw [HR9.out] at hj; cases hj; exact ht rfl
      exact ((Below.heap_setCell _ _ _ _ hne).trans ((Below.heap_setCell _ _ _ _ hne).trans (Below.heap_setCell _ _ _ _ hne))).trans hj
    have hml : (mm.set k (⟨mm[k].1.no, putX s.pic.files[k].runs fr [⟨(a : Int), (m : Int)⟩]⟩, A9, c9)).length = s.pic.files.length := by rw [List.length_set]; exact Hml.out
    have hrowf := ownsRow_kept Hst.out (fun q c f hq => hkept q c 46 f hq (by decide))
    have hmap : (mm.set k (⟨mm[k].1.no, putX s.pic.files[k].runs fr [⟨(a : Int), (m : Int)⟩]⟩, A9, c9)).map Prod.fst = setRuns s.pic.files (fileI s.pic.files no).toNat (stX s ⟨no, fr, a, m⟩) := by
      rw [List.map_set, Hmm1.out, Hki.out, Int.toNat_natCast, setRuns_get hk, Hmk1.out, stX, HR.out]
    have hKf := KeepN.of_below hn0 HBf.out
    obtain ⟨Ax9, cx9, Fa9, cf9, he9, hX9, -⟩ := HpN.out.kept hKf
    cases he9
    have hlen9 : (setRuns s.pic.files (fileI s.pic.files no).toNat (stX s ⟨no, fr, a, m⟩)).length = s.pic.files.length := setRuns_length _ _ _
    refine ⟨Ax, cx, some ⟨g7, 0, none⟩, c7, by rw [hlen9], hX9, ?_⟩
    rw [← hmap]
    refine FilN.of_owns (base := D + 1) (c := c7) (by rw [hml]; exact hrowf) ?_
    intro z hz
    rcases List.mem_or_eq_of_mem_set hz with hz | rfl
    · exact (Hmm2.out z hz).kept hKf
    · exact RunsN.of_t (HT9.out.kept (fun q c f hq => hkept q c 52 f hq (by decide)))
end
end Go.Proofs.Yteipclnlfanfeaa
