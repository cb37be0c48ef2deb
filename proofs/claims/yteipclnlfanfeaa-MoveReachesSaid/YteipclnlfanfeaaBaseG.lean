/- MoveY, PureA, PureB, PureC, PureD in one text. -/
import Derived.Test.YteipclnlfanfeaaMoveX
import Derived.Test.YteipclnlfanfeaaBaseE
import Derived.Test.YteipclnlfanfeaaBaseF
set_option linter.unusedVariables false
set_option linter.unusedSimpArgs false
/- move: Collect. -/
namespace Go.Proofs.Yteipclnlfanfeaa
open Go.RowKit
attribute [local go_sem] Oper.semAt_some

/-- the box of AppendSeq holds an own slice of the extents l -/
def XB (W : World) (b : Nat) (l : List Ext) : Prop :=
  ∃ v, W.heap[b]? = some (.cells #[v] 22 (0, 0)) ∧ W.ownsRow (b + 1) 54 2 v l.length (flatE l)

theorem XB.own {β : Type} (b : Nat) (f : β → List Ext) : Own (fun s W => XB W b (f s)) := by
  rintro s X Y row ⟨v, hv, hr⟩ hg hrow
  refine ⟨v, (grownBy_keeps_cells hg hrow hv rfl).trans hv, hr.kept hg ?_⟩
  rcases hr.2 with ⟨rfl, _⟩ | ⟨g, cap, cur, rfl, _, hgb, _⟩
  · exact .inl rfl
  · refine .inr fun e' => ?_
    obtain ⟨o, ho, hc⟩ := hrow g (by simpa [Value.ownBlock] using e'.symm)
    rw [hgb] at ho; cases ho; cases hc
theorem XB.lt {W : World} {b : Nat} {l : List Ext} (h : XB W b l) : b < W.heap.size := lt_of_block h.choose_spec.1
theorem XB.alloc {W : World} {b : Nat} {l : List Ext} (h : XB W b l) (o : Obj) : XB (W.alloc o) b l := by
  obtain ⟨v, hv, hr⟩ := h
  exact ⟨v, heap_alloc_old' hv _, hr.alloc _⟩

theorem xb_done {b : Nat} {l : List Ext} {x : Ext} {v v' : Value} {W W2 w1 : World} (h1 : W.heap[b]? = some (.cells #[v] 22 (0, 0))) (h2 : W.ownsRow (b + 1) 54 2 v l.length (flatE l)) (hB : Below W.heap.size W W2)
    (hown : w1.ownsRow (b + 1) 54 2 v' (l.length + 1) (flatE l ++ [.int .i64 x.page, .int .i64 x.many])) (hg : W2.grownBy w1 v.ownBlock) :
    w1.cell? ⟨b, 0, none⟩ = some v ∧ w1.frozen? ⟨b, 0, none⟩ = false ∧ XB (w1.setCell ⟨b, 0, none⟩ v') b (l ++ [x]) ∧ Below b W (w1.setCell ⟨b, 0, none⟩ v') ∧ KeepsOthers W (w1.setCell ⟨b, 0, none⟩ v') := by
  have hlt := lt_of_block h1
  have hrow : ∀ q, v.ownBlock = some q → b + 1 ≤ q ∧ ∃ c, W2.heap[q]? = some (.cells c 54 (0, 0)) := by
    intro q hq
    rcases (ownsRow_below h2 hB).2 with ⟨rfl, _⟩ | ⟨g, cap, cur, rfl, hb, hgg, _⟩
    · simp [Value.ownBlock] at hq
    · simp [Value.ownBlock] at hq; subst hq; exact ⟨hb, cur, hgg⟩
  have hb1 : w1.heap[b]? = some (.cells #[v] 22 (0, 0)) :=
    (hg.block b (by have := hB.size; omega) (fun e => by have := (hrow b e.symm).1; omega)).trans (block_below h1 hB)
  have hne : v'.ownBlock ≠ some b := by
    intro e
    rcases hown.2 with ⟨rfl, _⟩ | ⟨g, cap, cur, rfl, hb, hgg, _⟩
    · simp [Value.ownBlock] at e
    · simp [Value.ownBlock] at e; subst e; omega
  refine ⟨cell_of_one hb1, free_of_one hb1, ⟨v', one_setCell hb1, ?_⟩, ?_, ?_⟩
  · have := hown.kept (row := some b) (w' := w1.setCell ⟨b, 0, none⟩ v') ⟨rfl, rfl, rfl, by simp, fun k _ hn => Below.heap_setCell _ _ _ _ (fun e => hn (by rw [e]))⟩ (.inr hne)
    simpa [flatE_append, flatE] using this
  · exact ((hB.mono (Nat.le_of_lt hlt)).grown hg (by have := hB.size; omega) (fun k e => by have := (hrow k e).1; omega)).setCell (p := ⟨b, 0, none⟩) (Nat.le_refl _) _
  · refine (others_below hB).trans (KeepsOthers.trans ⟨hg.size, fun i o hi ho => (hg.block i (Array.getElem?_eq_some_iff.1 hi).1 (fun e => ?_)).trans hi⟩ (KeepsOthers.setCell _ _ _))
    obtain ⟨_, c, hc⟩ := hrow i e.symm
    rw [hi] at hc; cases hc; cases ho

def ColPost (l : List Ext) (w : World) (e : Ending) (w' : World) : Prop :=
  (∃ A c, e = .returned (.slice A l.length c) ∧ w'.ownsRow w.heap.size 54 2 (.slice A l.length c) l.length (flatE l)) ∧ Below w.heap.size w w'

theorem freeGo_length (a : Nat) (l : List Bool) (n : Nat) : (freeGo a l n).length ≤ l.length + 1 ∧ (n = 0 → (freeGo a l n).length ≤ l.length) := by
  induction l generalizing a n with
  | nil => cases n <;> simp [freeGo]
  | cons b l ih =>
    cases b with
    | true =>
      cases n with
      | zero => have := (ih (a + 1) 0).2 rfl; simp [freeGo]; omega
      | succ n => have := (ih (a + 1) 0).2 rfl; simp [freeGo]; omega
    | false =>
      cases n with
      | zero => have := (ih (a + 1) 1).1; simp [freeGo]; omega
      | succ n => have := (ih (a + 1) (n + 1 + 1)).1; simp [freeGo]; omega
theorem freeL_length (tk : List Bool) (size : Nat) : (freeL tk size).length ≤ tk.length := by
  have := (freeGo_length 0 (tk.take size) 0).2 rfl
  unfold freeL
  simp at this; omega

set_option maxRecDepth 100000 in
set_option maxHeartbeats 1000000 in
theorem appendSeq_in (Bz Bs P T cT : Nat) (tk : List Bool) (size : Nat) (w : World) (hsz : size ≤ tk.length) (hlen : tk.length ≤ 1000000) (hn : Bz < w.heap.size ∧ Bs < w.heap.size ∧ P < w.heap.size ∧ T < w.heap.size)
    (hc : FreeC Bz Bs P T cT tk size w) :
    CallsIn Fence.wide 5 Try.prog 86 #[.slice none 0 0, .func (.func 80) #[] #[.pointer (some ⟨Bz, 0, none⟩), .pointer (some ⟨Bs, 0, none⟩)]] w (ColPost (freeL tk size) w) := by
  have Hc := Lib.hid hc; clear hc
  obtain ⟨i0, hi, hz0, hz1, hz2⟩ := info_parts info54
  refine callsIn_of_wp_marks Try.func86 rfl trivial ?_ rfl
  simp only [Try.ntmps86, List.size_toArray, List.length_cons, List.length_nil, Nat.reduceAdd, Nat.reduceSub, Array.replicate_succ, Array.replicate_zero, List.push_toArray, List.append_toArray, List.nil_append, List.cons_append]
  gi_wp2_with fail
  obtain ⟨n0, hn0⟩ : ∃ n0, w.heap.size = n0 := ⟨_, rfl⟩
  have HN := Lib.hid hn0
  rw [hn0] at hn ⊢
  obtain ⟨W0, hW0⟩ : ∃ W0, w.alloc (.cells #[.slice none 0 0] 22) = W0 := ⟨_, rfl⟩
  rw [hW0]
  have hBW : Below n0 w W0 := by rw [← hW0]; exact (Below.refl _ w).alloc (by omega) _
  have hszW : W0.heap.size = n0 + 1 := by rw [← hW0]; simp; omega
  have hB0 : XB W0 n0 [] := ⟨_, by rw [← hW0]; exact heap_new w _ hn0, World.ownsRow_nil _ _ _ _⟩
  have hW0c : FreeC Bz Bs P T cT tk size W0 := Hc.out.belowN hn hBW
  refine wpIn_range rfl (by omega) (gf := 80) (lb := #[.pointer (some ⟨Bz, 0, none⟩), .pointer (some ⟨Bs, 0, none⟩)]) rfl trivial (enters_of Try.func80 (by kernel_rfl) rfl)
    (free_stops 4 Bz Bs P T cT n0 tk size hsz hlen hn W0 (by omega) hW0c)
    (fun W1 W l r r' h1 h2 h3 => h3.grown (grownBy_putObj' W l _) (by have := (Array.getElem?_eq_some_iff.1 h2).1; omega) (fun k e => by cases e; omega)) (fun _ => rfl)
    (fun pre W => XB W n0 (pre.map Subtype.val) ∧ Below n0 w W)
    (fun _ _ _ => False) (OwnFrom.and (Own.from (XB.own _ _) _) (ownFrom_below (by omega) (by omega))) (fun _ _ _ _ _ hs _ _ => hs) ⟨hB0, hBW⟩
    (fun x W1 a' W => Below n0 W1 W ∧ ∃ Bx, n0 + 1 ≤ Bx ∧ W.heap[Bx]? = some (.cells #[.int .i64 x.1.page, .int .i64 x.1.many] 54 (0, 0)) ∧ a' = { tmps := #[.slice none 0 0, .func (.func 80) #[] #[.pointer (some ⟨Bz, 0, none⟩), .pointer (some ⟨Bs, 0, none⟩)], .pointer (some ⟨n0, 0, none⟩), undef, .slice none 0 0, .pointer (some ⟨Bx, 0, none⟩), .func (.func 80) #[] #[.pointer (some ⟨Bz, 0, none⟩), .pointer (some ⟨Bs, 0, none⟩)], .agg #[.int .i64 x.1.page, .int .i64 x.1.many], undef, undef, undef, undef, undef], defers := [] }) ?ax ?assign ?body ?done ?stop
  case ax =>
    rintro x W1 a' s X Y row ⟨hs, Bx, hx, h, e⟩ hg hr
    exact ⟨hs.grown hg (by have := (Array.getElem?_eq_some_iff.1 h).1; omega) (fun k e => by have := (hr k e).1; omega), Bx, hx, (grownBy_keeps_cells hg (fun r e => (hr r e).2) h rfl).trans h, e⟩
  case assign =>
    rintro l0 pre ⟨x, hx⟩ W K ⟨hi, hB⟩ hK
    dsimp only at hK ⊢
    gi_wp2
    have hBa := below_alloc (Below.refl _ W) (.cells #[.int .i64 x.page, .int .i64 x.many] 54)
    have hl := hi.lt
    exact hK _ _ ((KeepsOthers.alloc _ _).from _) ⟨hi.alloc _, hB.trans (hBa.mono (by omega))⟩ ⟨hBa.mono (by omega), W.heap.size, by omega, World.alloc_heap_new W _, rfl⟩
  case body =>
    rintro l0 pre ⟨x, hx⟩ W1 a' W hl0 _ ⟨hBB, hB⟩ ⟨hS, Bx, hBx, hR, rfl⟩ hlen2
    dsimp only at hR ⊢
    have r0 : W.cell? ⟨Bx, 0, none⟩ = some (.int .i64 x.page) := by simp [World.cell?, hR]
    have r1 : W.cell? ⟨Bx, 1, none⟩ = some (.int .i64 x.many) := by simp [World.cell?, hR]
    clear hR
    have hlp : (pre.map Subtype.val).length ≤ 1000000 := by have := freeL_length tk size; rw [List.length_map]; omega
    have Hsn := Lib.hid (show (pre ++ [(⟨x, hx⟩ : Ex)]).map Subtype.val = pre.map Subtype.val ++ [x] by rw [List.map_append, List.map_cons, List.map_nil])
    obtain ⟨l, hl⟩ : ∃ l, pre.map Subtype.val = l := ⟨_, rfl⟩
    rw [hl] at hBB hlp Hsn
    clear hl
    obtain ⟨v, hv, hr⟩ := hBB
    have c0 := cell_of_one hv
    have hnB := lt_of_block hv
    have Hv := Lib.hid hv; have Hr := Lib.hid hr; clear hv hr
    gi_wp2_with ((gi_at_builtin; refine wpListIn_append_own _ rfl _ _ 22 rfl (n0 + 1) 54 i0 (.agg #[.int .i64 0, .int .i64 0]) 2 16 Try.underlying22 hi hz0 hz1 hz2 rfl (by decide) _ _ _ rfl (Hr.out.alloc _) ⟨W.heap.size, 0, none⟩ 1 1 [.int .i64 x.page, .int .i64 x.many] rfl rfl ?c1 ?c2 ?c3 ?c4 ?c5 ?_))
    case c1 =>
      intro j u hu
      rcases j with _ | _ | j <;> simp [Addr.add] at hu ⊢ <;> go_simp <;> simp_all
    case c2 => simp [Value.oneCell']
    case c3 => unfold maxLen; omega
    case c4 => omega
    case c5 => simp; omega
    intro v0 w1 hown hg hf0
    obtain ⟨A0, c0, rfl⟩ := ownsRow_shape hown
    obtain ⟨q1, q2, q3, q4, q5⟩ := xb_done (x := x) Hv.out Hr.out (below_alloc (Below.refl _ W) _) hown hg
    have Q3 := Lib.hid q3; have Q4 := Lib.hid q4; have Q5 := Lib.hid q5
    clear q3 q4 q5 hown hg hf0
    gi_wp2_with fail
    exact ⟨Q5.out.from _, hS.trans Q4.out, by rw [Hsn.out]; exact Q3.out, hB.trans Q4.out⟩
  case done =>
    rintro D ys W hD hys ⟨⟨v, hv, hr⟩, hB⟩ hK
    rw [hys] at hr
    obtain ⟨A', c', rfl⟩ := ownsRow_shape hr
    have c0 := cell_of_one hv
    have Hr := Lib.hid hr; clear hr hys hv
    gi_wp2_with fail
    refine ⟨by simp, .inl ⟨_, _, rfl, run_takeDeferred hK, ?_⟩⟩
    have ho := Hr.out
    exact ⟨_, results_tmp rfl _ _ _, ⟨_, _, rfl, ownsRow_putObj (ownsRow_mono ho (by rw [HN.out]; omega)) _ hK rfl⟩, by
      rw [HN.out]; exact hB.grown (grownBy_putObj' W D _) (by have := hB.size; omega) (fun k e => by cases e; omega)⟩
  case stop =>
    rintro D c pre W _ _ h _
    exact h.elim

set_option maxRecDepth 100000 in
theorem collect_any (Bz Bs P T cT : Nat) (tk : List Bool) (size : Nat) (w : World) (hsz : size ≤ tk.length) (hlen : tk.length ≤ 1000000) (hn : Bz < w.heap.size ∧ Bs < w.heap.size ∧ P < w.heap.size ∧ T < w.heap.size)
    (hc : FreeC Bz Bs P T cT tk size w) :
    Calls Try.prog 60 #[.func (.func 80) #[] #[.pointer (some ⟨Bz, 0, none⟩), .pointer (some ⟨Bs, 0, none⟩)]] w (ColPost (freeL tk size) w) := by
  go_enter Try.func60, Try.ntmps60
  go_wp2_with fail
  refine (callsIn_wide.1 (appendSeq_in Bz Bs P T cT tk size w hsz hlen hn hc)).mono ?_
  rintro e w' ⟨⟨A, c, rfl, ho⟩, hB⟩
  have Ho := Lib.hid ho; clear ho
  go_wp2_with fail
  go_ret
  exact ⟨⟨A, c, rfl, Ho.out⟩, hB⟩
end Go.Proofs.Yteipclnlfanfeaa

/- move: what open gives; no code here. -/
namespace Go.Proofs.Yteipclnlfanfeaa

theorem fixL_spec {size : Int} {l : List Ext} {last : Int} {tk t : List Bool} (h : fixL size l last tk = some t) : t.length = tk.length ∧ ∀ x ∈ l, last ≤ x.page ∧ 1 ≤ x.many ∧ x.page + x.many ≤ size := by
  induction l generalizing last tk with
  | nil => simp [fixL] at h; subst h; simp
  | cons x l ih =>
    simp only [fixL] at h
    split at h
    · rename_i hc
      split at h
      · cases h
      · rename_i t1 ht
        have h1 := ih h
        have h2 := takeL_length ht
        refine ⟨by omega, fun y hy => ?_⟩
        rcases List.mem_cons.1 hy with rfl | hy
        · omega
        · have := h1.2 y hy; omega
    · cases h
theorem runsL_spec {size : Int} {l : List Run} {tk t : List Bool} (h : runsL size l tk = some t) : t.length = tk.length ∧ ∀ r ∈ l, r.to = -1 ∨ (3 ≤ r.to ∧ r.to + r.many ≤ size) := by
  induction l generalizing tk with
  | nil => simp [runsL] at h; subst h; simp
  | cons r l ih =>
    simp only [runsL] at h
    split at h
    · rename_i hc
      have h1 := ih h
      refine ⟨h1.1, fun y hy => ?_⟩
      rcases List.mem_cons.1 hy with rfl | hy
      · exact .inl hc
      · exact h1.2 y hy
    · split at h
      · rename_i hc hc2
        split at h
        · cases h
        · rename_i t1 ht
          have h1 := ih h
          have h2 := takeL_length ht
          refine ⟨by omega, fun y hy => ?_⟩
          rcases List.mem_cons.1 hy with rfl | hy
          · exact .inr (by omega)
          · exact h1.2 y hy
      · cases h
/-- the numbers rise -/
def Rising : Int → List Fil → Prop
  | _, [] => True
  | no, f :: l => no < f.no ∧ f.no ≤ 1073741824 ∧ Rising f.no l
theorem filL_spec {size : Int} {l : List Fil} {no : Int} {tk t : List Bool} (h : filL size l no tk = some t) : t.length = tk.length ∧ Rising no l ∧ ∀ f ∈ l, mustE f.runs = 0 ∧ normL f.runs = f.runs ∧ ∀ r ∈ f.runs, r.to = -1 ∨ (3 ≤ r.to ∧ r.to + r.many ≤ size) := by
  induction l generalizing no tk with
  | nil => simp [filL] at h; subst h; simp [Rising]
  | cons f l ih =>
    simp only [filL] at h
    split at h
    · rename_i hc
      split at h
      · cases h
      · rename_i t1 ht
        have h1 := ih h
        have h2 := runsL_spec ht
        refine ⟨by omega, ⟨hc.1, hc.2.1, h1.2.1⟩, fun y hy => ?_⟩
        rcases List.mem_cons.1 hy with rfl | hy
        · exact ⟨hc.2.2.1, hc.2.2.2, h2.2⟩
        · exact h1.2.2 y hy
    · cases h
/-- what is known of an open space -/
structure Opened (p : Pic) (s : Spc) : Prop where
  pic : s.pic = p
  steps : s.steps = []
  size : 4 ≤ p.size ∧ p.size ≤ 768
  nfix : p.fixed.length ≤ 200
  nfil : p.files.length ≤ 200
  tkl : s.tk.length = p.size.toNat
  fix : ∀ x ∈ p.fixed, 0 ≤ x.page ∧ 1 ≤ x.many ∧ x.page + x.many ≤ p.size
  rise : Rising (-1) p.files
  fil : ∀ f ∈ p.files, mustE f.runs = 0 ∧ normL f.runs = f.runs ∧ ∀ r ∈ f.runs, r.to = -1 ∨ (3 ≤ r.to ∧ r.to + r.many ≤ p.size)
theorem openL_spec {p : Pic} {s : Spc} (h : openL p = some s) : Opened p s := by
  unfold openL at h
  split at h
  · rename_i hb
    split at h
    · cases h
    · rename_i t ht
      split at h
      · split at h
        · cases h
        · rename_i t2 ht2
          cases h
          have h1 := fixL_spec ht
          have h2 := filL_spec ht2
          rw [List.length_replicate] at h1
          exact ⟨rfl, rfl, ⟨hb.1, hb.2.1⟩, hb.2.2.1, hb.2.2.2, by dsimp only; omega, h1.2, h2.2.1, h2.2.2⟩
      · cases h
  · cases h
theorem Opened.good {p : Pic} {s : Spc} (h : Opened p s) : Good s := by
  have hs := h.size
  have h1 := h.nfil
  refine ⟨by rw [h.pic]; omega, by rw [h.pic]; omega, by rw [h.pic]; exact h.tkl, by rw [h.pic]; omega, by rw [h.steps]; simp, ?_⟩
  rw [h.pic]; exact h.fil
theorem Good.rb {s : Spc} (h : Good s) : ∀ f ∈ s.pic.files, RB f.runs := fun f hf => RB.of_must (h.2.2.2.2.2 f hf).1
theorem Opened.eb {p : Pic} {s : Spc} (h : Opened p s) : EB s.pic.fixed := by
  intro x hx
  rw [h.pic] at hx
  have := h.fix x hx
  have := h.size
  omega
end Go.Proofs.Yteipclnlfanfeaa

/- move: the stream of a mapping: where each page of a stream lies; no code here. -/
namespace Go.Proofs.Yteipclnlfanfeaa

/-- where the pages of a run lie -/
def strR (r : Run) : List Int := (List.range r.many.toNat).map fun (i : Nat) => if r.to = -1 then -1 else r.to + (i : Int)
def strm (l : List Run) : List Int := l.flatMap strR
/-- the mapping of a stream -/
def runF (s : List Int) : List Run := (s.map fun x => (⟨x, 1⟩ : Run)).foldl addN []

/-- runs that are not wrong -/
def Ok0 (l : List Run) : Prop := ∀ r ∈ l, -1 ≤ r.to ∧ 0 ≤ r.many

theorem strm_nil : strm [] = [] := rfl
theorem strm_cons (r : Run) (l : List Run) : strm (r :: l) = strR r ++ strm l := rfl
theorem strm_append (a b : List Run) : strm (a ++ b) = strm a ++ strm b := by simp [strm]
theorem strR_length (r : Run) : (strR r).length = r.many.toNat := by simp [strR]
theorem strm_length {l : List Run} (h : ∀ r ∈ l, 0 ≤ r.many) : ((strm l).length : Int) = pagesL l := by
  induction l with
  | nil => rfl
  | cons r l ih =>
    have h1 := h r (by simp)
    have h2 := ih (fun r hr => h r (by simp [hr]))
    simp only [strm_cons, List.length_append, pagesL, strR_length]; omega

theorem strR_unit (x : Int) : strR ⟨x, 1⟩ = [x] := by
  by_cases h : x = -1 <;> simp [strR, h]
theorem strR_add (t m n : Int) (ht0 : -1 ≤ t) (hm : 0 ≤ m) (hn : 0 ≤ n) : strR ⟨t, m + n⟩ = strR ⟨t, m⟩ ++ strR ⟨if t = -1 then -1 else t + m, n⟩ := by
  obtain ⟨a, rfl⟩ := Int.eq_ofNat_of_zero_le hm
  obtain ⟨b, rfl⟩ := Int.eq_ofNat_of_zero_le hn
  have e : ((a : Int) + (b : Int)).toNat = a + b := by omega
  have e1 : (a : Int).toNat = a := by omega
  have e2 : (b : Int).toNat = b := by omega
  simp only [strR, Int.ofNat_eq_natCast, e, e1, e2]
  rw [List.range_add, List.map_append, List.map_map]
  congr 1
  apply List.map_congr_left
  intro i _
  by_cases ht : t = -1
  · simp [ht]
  · simp only [Function.comp_apply, if_neg ht]
    rw [if_neg (by omega)]
    omega

theorem dropLast_last {l : List Run} (h : l ≠ []) : l = l.dropLast ++ [l.getLast h] := (List.dropLast_concat_getLast h).symm

theorem strm_addN {l : List Run} {r : Run} (hl : Ok0 l) (hr : -1 ≤ r.to ∧ 0 ≤ r.many) : strm (addN l r) = strm l ++ strR r := by
  unfold addN
  by_cases h0 : r.many = 0
  · rw [if_pos h0]; simp [strR, h0]
  rw [if_neg h0]
  cases hx : l.getLast? with
  | none =>
    have : l = [] := by simpa using hx
    subst this; simp [strm]
  | some x =>
    have hne : l ≠ [] := by rintro rfl; simp at hx
    have hxe : l.getLast hne = x := by rw [List.getLast?_eq_some_getLast hne] at hx; exact Option.some.inj hx
    have hxm : x ∈ l := by rw [← hxe]; exact List.getLast_mem hne
    have hxo := hl x hxm
    dsimp only
    split
    · rename_i hj
      conv => rhs; rw [dropLast_last hne, hxe]
      simp only [strm_append, strm_cons, strm_nil, List.append_nil, List.append_assoc]
      rw [strR_add _ _ _ hxo.1 hxo.2 hr.2]
      congr 2
      rcases hj with ⟨h1, h2⟩ | ⟨h1, h2, h3⟩
      · rw [if_pos h2, ← h1]
      · rw [if_neg h2, ← h3]
    · simp [strm_append, strm_cons, strm_nil]

theorem ok0_addN {l : List Run} {r : Run} (hl : Ok0 l) (hr : -1 ≤ r.to ∧ 0 ≤ r.many) : Ok0 (addN l r) := fun x hx =>
  ⟨mem_addN hx (fun t => -1 ≤ t) (fun y hy => (hl y hy).1) hr.1, many_addN hx (fun y hy => (hl y hy).2) hr.2⟩
theorem strm_foldl {l b : List Run} (hl : Ok0 l) (hb : Ok0 b) : strm (b.foldl addN l) = strm l ++ strm b ∧ Ok0 (b.foldl addN l) := by
  induction b generalizing l with
  | nil => simp [strm_nil, hl]
  | cons r b ih =>
    have hr := hb r (by simp)
    have h1 := ih (ok0_addN hl hr) (fun x hx => hb x (by simp [hx]))
    simp only [List.foldl_cons]
    refine ⟨?_, h1.2⟩
    rw [h1.1, strm_addN hl hr, strm_cons, List.append_assoc]
theorem ok0_nil : Ok0 [] := fun r hr => by simp at hr
theorem strm_normL {l : List Run} (h : Ok0 l) : strm (normL l) = strm l := by
  have := (strm_foldl ok0_nil h).1
  simpa [normL, strm_nil] using this
theorem ok0_normL {l : List Run} (h : Ok0 l) : Ok0 (normL l) := (strm_foldl ok0_nil h).2

theorem strm_runF {s : List Int} (h : ∀ x ∈ s, -1 ≤ x) : strm (runF s) = s := by
  have : Ok0 (s.map fun x => (⟨x, 1⟩ : Run)) := by
    intro r hr
    obtain ⟨x, hx, rfl⟩ := List.mem_map.1 hr
    exact ⟨h x hx, by simp⟩
  have h1 := (strm_foldl ok0_nil this).1
  unfold runF
  rw [h1, strm_nil, List.nil_append]
  clear this h1
  induction s with
  | nil => rfl
  | cons x s ih => rw [List.map_cons, strm_cons, strR_unit, ih (fun y hy => h y (by simp [hy]))]; rfl

/-- one page more at the end of a run -/
theorem addN_grow {l : List Run} {t m : Int} (ht : -1 ≤ t) (hm : 1 ≤ m) : addN (addN l ⟨t, m⟩) ⟨if t = -1 then -1 else t + m, 1⟩ = addN l ⟨t, m + 1⟩ := by
  have hm0 : ¬ m = 0 := by omega
  have hm1 : ¬ m + 1 = 0 := by omega
  have h10 : ¬ (1 : Int) = 0 := by omega
  cases hx : l.getLast? with
  | none =>
    have : l = [] := by simpa using hx
    subst this
    simp only [addN, hm0, hm1, h10, if_false, List.getLast?_nil, List.getLast?_singleton, List.dropLast_singleton, List.nil_append]
    by_cases h : t = -1
    · simp [h]
    · rw [if_neg h, if_pos (.inr ⟨by omega, h, rfl⟩)]
  | some x =>
    simp only [addN, hm0, hm1, h10, if_false, hx]
    by_cases hj : (t = -1 ∧ x.to = -1) ∨ (t ≠ -1 ∧ x.to ≠ -1 ∧ t = x.to + x.many)
    · rw [if_pos hj, if_pos hj]
      simp only [List.getLast?_append, List.getLast?_singleton, Option.some_or, List.dropLast_concat]
      rw [if_pos]
      · congr 3; omega
      · rcases hj with ⟨h1, h2⟩ | ⟨h1, h2, h3⟩
        · exact .inl ⟨by rw [if_pos h1], h2⟩
        · exact .inr ⟨by rw [if_neg h1]; omega, h2, by rw [if_neg h1]; omega⟩
    · rw [if_neg hj, if_neg hj]
      simp only [List.getLast?_append, List.getLast?_singleton, Option.some_or, List.dropLast_concat]
      rw [if_pos]
      by_cases h1 : t = -1
      · exact .inl ⟨by rw [if_pos h1], h1⟩
      · exact .inr ⟨by rw [if_neg h1]; omega, h1, by rw [if_neg h1]⟩

theorem addN_units (l : List Run) (t : Int) (n : Nat) (ht : -1 ≤ t) : addN l ⟨t, n⟩ = ((strR ⟨t, n⟩).map fun x => (⟨x, 1⟩ : Run)).foldl addN l := by
  induction n with
  | zero => simp [addN, strR]
  | succ n ih =>
    have e : strR ⟨t, ((n + 1 : Nat) : Int)⟩ = strR ⟨t, n⟩ ++ [if t = -1 then -1 else t + n] := by
      rw [show ((n + 1 : Nat) : Int) = n + 1 by omega, strR_add _ _ _ ht (by omega) (by omega), strR_unit]
    rw [e, List.map_append, List.foldl_append, ← ih]
    simp only [List.map_cons, List.map_nil, List.foldl_cons, List.foldl_nil]
    cases n with
    | zero =>
      have h0 : addN l ⟨t, ((0 : Nat) : Int)⟩ = l := by simp [addN]
      rw [h0]
      have : (if t = -1 then (-1 : Int) else t + ((0 : Nat) : Int)) = t := by split <;> simp_all
      rw [this]; rfl
    | succ n => rw [addN_grow ht (by omega)]; rfl

theorem normL_runF {l : List Run} (h : Ok0 l) : normL l = runF (strm l) := by
  have key : ∀ (b a : List Run), Ok0 b → b.foldl addN a = ((strm b).map fun x => (⟨x, 1⟩ : Run)).foldl addN a := by
    intro b
    induction b with
    | nil => intro a _; rfl
    | cons r b ih =>
      intro a hb
      have hr := hb r (by simp)
      obtain ⟨n, hn⟩ := Int.eq_ofNat_of_zero_le hr.2
      obtain ⟨t, m⟩ := r
      dsimp only at hn hr
      subst hn
      rw [List.foldl_cons, strm_cons, List.map_append, List.foldl_append, ih _ (fun x hx => hb x (by simp [hx]))]
      congr 1
      exact addN_units a t n hr.1
  exact key l [] h

theorem normL_idem {l : List Run} (h : Ok0 l) : normL (normL l) = normL l := by
  rw [normL_runF (ok0_normL h), strm_normL h, normL_runF h]
/-- a mapping is known by its stream -/
theorem norm_ext {a b : List Run} (ha : Ok0 a) (hb : Ok0 b) (na : normL a = a) (nb : normL b = b) (h : strm a = strm b) : a = b := by
  rw [← na, ← nb, normL_runF ha, normL_runF hb, h]

theorem ok0_of_must {l : List Run} (h : mustE l = 0) : Ok0 l := fun r hr => by
  have := (mustE_zero h).2.1 r hr
  omega

/-- a run that is left has pages -/
theorem pos_normL {l : List Run} (h : Ok0 l) : ∀ r ∈ normL l, 1 ≤ r.many := by
  have key : ∀ (b a : List Run), Ok0 b → (∀ r ∈ a, 1 ≤ r.many) → ∀ r ∈ b.foldl addN a, 1 ≤ r.many := by
    intro b
    induction b with
    | nil => intro a _ ha; exact ha
    | cons r b ih =>
      intro a hb ha
      refine ih _ (fun x hx => hb x (by simp [hx])) ?_
      intro x hx
      have hr := hb r (by simp)
      unfold addN at hx
      by_cases h0 : r.many = 0
      · rw [if_pos h0] at hx; exact ha x hx
      rw [if_neg h0] at hx
      cases hl : a.getLast? with
      | none => rw [hl] at hx; simp at hx; subst hx; omega
      | some y =>
        rw [hl] at hx
        have hy : y ∈ a := List.mem_of_getLast? hl
        have hy1 := ha y hy
        dsimp only at hx
        split at hx
        · rcases List.mem_append.1 hx with hx | hx
          · exact ha x (List.dropLast_subset _ hx)
          · rw [List.mem_singleton.1 hx]; dsimp only; omega
        · rcases List.mem_append.1 hx with hx | hx
          · exact ha x hx
          · rw [List.mem_singleton.1 hx]; omega
  exact key l [] h (by simp)

/-- the pages of a run stand in the stream -/
theorem mem_strm {l : List Run} {r : Run} (hr : r ∈ l) (ht : r.to ≠ -1) {i : Nat} (hi : (i : Int) < r.many) : r.to + i ∈ strm l := by
  refine List.mem_flatMap.2 ⟨r, hr, ?_⟩
  refine List.mem_map.2 ⟨i, List.mem_range.2 (by omega), by rw [if_neg ht]⟩
theorem of_mem_strm {l : List Run} {x : Int} (h : x ∈ strm l) : ∃ r ∈ l, (r.to = -1 ∧ x = -1 ∧ 1 ≤ r.many) ∨ (r.to ≠ -1 ∧ r.to ≤ x ∧ x < r.to + r.many) := by
  obtain ⟨r, hr, hx⟩ := List.mem_flatMap.1 h
  obtain ⟨i, hi, rfl⟩ := List.mem_map.1 hx
  have := List.mem_range.1 hi
  refine ⟨r, hr, ?_⟩
  by_cases ht : r.to = -1
  · rw [if_pos ht]; exact .inl ⟨ht, rfl, by omega⟩
  · rw [if_neg ht]; exact .inr ⟨ht, by omega, by omega⟩
end Go.Proofs.Yteipclnlfanfeaa

/- move: parts, places and steps by the stream; no code here. -/
namespace Go.Proofs.Yteipclnlfanfeaa

theorem strR_get (r : Run) (i : Nat) : (strR r)[i]? = if (i : Int) < r.many then some (if r.to = -1 then -1 else r.to + i) else none := by
  unfold strR
  rw [List.getElem?_map]
  by_cases h : (i : Int) < r.many
  · rw [if_pos h, List.getElem?_range (by omega)]; rfl
  · rw [if_neg h, List.getElem?_eq_none (by simp; omega)]; rfl

theorem strR_slice {r : Run} (h : -1 ≤ r.to) (p q : Nat) : ((strR r).take p).drop q = strR ⟨if r.to = -1 then -1 else r.to + q, min (p : Int) r.many - q⟩ := by
  apply List.ext_getElem?
  intro i
  rw [List.getElem?_drop, List.getElem?_take, strR_get, strR_get]
  dsimp only
  by_cases h1 : q + i < p
  · rw [if_pos h1]
    by_cases h2 : ((q + i : Nat) : Int) < r.many
    · have hc : (i : Int) < min (p : Int) r.many - q := by omega
      rw [if_pos h2, if_pos hc]
      by_cases h3 : r.to = -1
      · simp [h3]
      · rw [if_neg h3, if_neg h3, if_neg (by omega)]; congr 1; omega
    · rw [if_neg h2, if_neg (by omega)]
  · rw [if_neg h1, if_neg (by omega)]

theorem strm_filterPiece (f t : Int) (l : List Run) : ∀ (a : Int), Ok0 l → strm ((startsL a l).filterMap (piece f t)) = ((strm l).take (t - a).toNat).drop (f - a).toNat := by
  induction l with
  | nil => intro a _; simp [startsL, strm]
  | cons r l ih =>
    intro a hl
    have hr := hl r (by simp)
    have ih := ih (a + r.many) (fun x hx => hl x (by simp [hx]))
    have e : strm (List.filterMap (piece f t) (startsL a (r :: l))) = ((strR r).take (t - a).toNat).drop (f - a).toNat ++ strm ((startsL (a + r.many) l).filterMap (piece f t)) := by
      simp only [startsL, List.filterMap_cons]
      rw [strR_slice hr.1]
      by_cases hp : min t (a + r.many) ≤ max f a
      · have : piece f t (a, r) = none := by simp only [piece]; rw [if_pos hp]
        rw [this]
        have : strR ⟨if r.to = -1 then -1 else r.to + ((f - a).toNat : Int), min (((t - a).toNat : Nat) : Int) r.many - ((f - a).toNat : Int)⟩ = [] := by
          apply List.eq_nil_of_length_eq_zero
          rw [strR_length]; dsimp only; omega
        rw [this, List.nil_append]
      · have : piece f t (a, r) = some ⟨if r.to = -1 then -1 else r.to + (max f a - a), min t (a + r.many) - max f a⟩ := by simp only [piece]; rw [if_neg hp]
        rw [this]
        simp only [strm_cons]
        congr 2
        · by_cases h3 : r.to = -1
          · simp [h3]; omega
          · simp only [if_neg h3, Run.mk.injEq]; omega
    rw [e, ih, strm_cons, List.take_append, List.drop_append]
    have hA : (strR r).length = r.many.toNat := strR_length r
    by_cases hn : (t - a).toNat ≤ (strR r).length
    · have e1 : (t - a).toNat - (strR r).length = 0 := by omega
      have e2 : (t - (a + r.many)).toNat = 0 := by omega
      rw [e1, e2]; simp
    · have e1 : (t - a).toNat - (strR r).length = (t - (a + r.many)).toNat := by omega
      have e3 : ((strR r).take (t - a).toNat).length = (strR r).length := by rw [List.length_take]; omega
      have e2 : (f - a).toNat - ((strR r).take (t - a).toNat).length = (f - (a + r.many)).toNat := by rw [e3]; omega
      rw [e1, e2]

theorem ok0_pieces {a f t : Int} {l : List Run} (h : Ok0 l) : Ok0 ((startsL a l).filterMap (piece f t)) := by
  induction l generalizing a with
  | nil => simp [startsL, ok0_nil]
  | cons r l ih =>
    have hr := h r (by simp)
    have ih := ih (a := a + r.many) (fun x hx => h x (by simp [hx]))
    simp only [startsL, List.filterMap_cons]
    intro x hx
    cases hp : piece f t (a, r) with
    | none => rw [hp] at hx; exact ih x hx
    | some y =>
      rw [hp] at hx
      rcases List.mem_cons.1 hx with rfl | hx
      · unfold piece at hp
        split at hp
        · cases hp
        · cases hp
          dsimp only at *
          refine ⟨?_, by omega⟩
          split <;> omega
      · exact ih x hx
theorem strm_partL {l : List Run} (h : Ok0 l) (f t : Int) : strm (partL l f t) = ((strm l).take t.toNat).drop f.toNat := by
  unfold partL
  rw [strm_normL (ok0_pieces h), strm_filterPiece f t l 0 h, Int.sub_zero, Int.sub_zero]
theorem ok0_partL {l : List Run} (h : Ok0 l) (f t : Int) : Ok0 (partL l f t) := ok0_normL (ok0_pieces h)
theorem ok0_append {a b : List Run} (ha : Ok0 a) (hb : Ok0 b) : Ok0 (a ++ b) := fun r hr => by
  rcases List.mem_append.1 hr with hr | hr
  · exact ha r hr
  · exact hb r hr

theorem ok0_putX {l more : List Run} (h : Ok0 l) (hm : Ok0 more) (page : Int) : Ok0 (putX l page more) :=
  ok0_normL (ok0_append (ok0_partL h _ _) (ok0_append hm (ok0_partL h _ _)))
theorem strm_putX {l more : List Run} (h : Ok0 l) (hm : Ok0 more) (page : Int) : strm (putX l page more) = (strm l).take page.toNat ++ (strm more ++ (strm l).drop (page + pagesL more).toNat) := by
  unfold putX
  rw [strm_normL (ok0_append (ok0_partL h _ _) (ok0_append hm (ok0_partL h _ _))), strm_append, strm_append, strm_partL h, strm_partL h]
  congr 2
  rw [List.take_of_length_le]
  have := strm_length (fun r hr => (h r hr).2)
  omega
theorem norm_putX {l more : List Run} (h : Ok0 l) (hm : Ok0 more) (page : Int) : normL (putX l page more) = putX l page more :=
  normL_idem (ok0_append (ok0_partL h _ _) (ok0_append hm (ok0_partL h _ _)))

/-- no two runs that follow each other join -/
def Adj (l : List Run) : Prop := ∀ (i : Nat) (x y : Run), l[i]? = some x → l[i + 1]? = some y → joinsB x y = false
theorem joinsB_to (x y : Run) (m : Int) : joinsB x ⟨y.to, m⟩ = joinsB x y := rfl
theorem adj_addN {l : List Run} {r : Run} (h : Adj l) : Adj (addN l r) := by
  unfold addN
  by_cases h0 : r.many = 0
  · rw [if_pos h0]; exact h
  rw [if_neg h0]
  cases hx : l.getLast? with
  | none => intro i x y _ hy; simp at hy
  | some z =>
    have hne : l ≠ [] := by rintro rfl; simp at hx
    have hpos := List.length_pos_iff.2 hne
    have hzl : l[l.length - 1]? = some z := by rw [← hx, List.getLast?_eq_getElem?]
    dsimp only
    split
    · intro i x y hxi hyi
      have hlen : i + 1 < l.length := by
        have := (List.getElem?_eq_some_iff.1 hyi).1
        simp at this; omega
      rw [List.getElem?_append_left (by simp; omega)] at hxi
      rw [List.getElem?_dropLast, if_pos (by omega)] at hxi
      by_cases e : i + 1 < l.length - 1
      · rw [List.getElem?_append_left (by simp; omega), List.getElem?_dropLast, if_pos e] at hyi
        exact h i x y hxi hyi
      · rw [List.getElem?_append_right (by simp; omega)] at hyi
        simp only [List.length_dropLast] at hyi
        rw [show i + 1 - (l.length - 1) = 0 by omega] at hyi
        simp at hyi
        subst hyi
        rw [joinsB_to]
        exact h i x z hxi (by rw [show i + 1 = l.length - 1 by omega]; exact hzl)
    · rename_i hj
      intro i x y hxi hyi
      have hlen : i + 1 < l.length + 1 := by
        have := (List.getElem?_eq_some_iff.1 hyi).1
        simp at this; omega
      rw [List.getElem?_append_left (by omega)] at hxi
      by_cases e : i + 1 < l.length
      · rw [List.getElem?_append_left e] at hyi
        exact h i x y hxi hyi
      · rw [List.getElem?_append_right (by omega), show i + 1 - l.length = 0 by omega] at hyi
        simp at hyi
        subst hyi
        rw [show i = l.length - 1 by omega, hzl] at hxi
        cases hxi
        simp only [joinsB, Bool.or_eq_false_iff, Bool.and_eq_false_iff, decide_eq_false_iff_not]
        refine ⟨?_, ?_⟩
        · by_cases a : r.to = -1
          · right; intro b; exact hj (.inl ⟨a, b⟩)
          · left; exact a
        · by_cases a : r.to = -1
          · left; left; simp [a]
          · by_cases b : z.to = -1
            · left; right; simp [b]
            · right; intro c; exact hj (.inr ⟨a, b, c⟩)
theorem adj_normL (l : List Run) : Adj (normL l) := by
  have key : ∀ (b a : List Run), Adj a → Adj (b.foldl addN a) := by
    intro b
    induction b with
    | nil => intro a h; exact h
    | cons r b ih => intro a h; exact ih _ (adj_addN h)
  exact key l [] (fun i x y hx => by simp at hx)
end Go.Proofs.Yteipclnlfanfeaa

/- move: where a page lies, by the stream; steps keep a space right; no code here. -/
namespace Go.Proofs.Yteipclnlfanfeaa

theorem find_split {l : List Run} (h : ∀ r ∈ l, 0 ≤ r.many) : ∀ (a page : Int), a ≤ page → page < a + pagesL l → ∃ pre r post, l = pre ++ r :: post ∧ a + pagesL pre ≤ page ∧ page < a + pagesL pre + r.many ∧
    (startsL a l).find? (fun x => decide (page < x.1 + x.2.many)) = some (a + pagesL pre, r) := by
  induction l with
  | nil => intro a page h1 h2; simp [pagesL] at h2; omega
  | cons r l ih =>
    intro a page h1 h2
    by_cases hc : page < a + r.many
    · exact ⟨[], r, l, rfl, by simp [pagesL]; omega, by simp [pagesL]; omega, by simp [startsL, hc, pagesL]⟩
    · obtain ⟨pre, r', post, e1, e2, e3, e4⟩ := ih (fun x hx => h x (by simp [hx])) (a + r.many) page (by omega) (by simp only [pagesL] at h2; omega)
      refine ⟨r :: pre, r', post, by rw [e1]; rfl, by simp only [pagesL]; omega, by simp only [pagesL]; omega, ?_⟩
      simp only [startsL, List.find?_cons]
      rw [show decide (page < a + r.many) = false by simp; omega]
      simp only
      rw [e4]
      simp only [pagesL, Int.add_assoc]

/-- where a page of a stream lies, and how many lie behind each other -/
structure MapS (s : List Int) (page f m : Int) : Prop where
  at_ : s[page.toNat]? = some f
  pos : 1 ≤ m
  len : page + m ≤ s.length
  row : ∀ i : Nat, (i : Int) < m → s[page.toNat + i]? = some (if f = -1 then -1 else f + i)
  max : s[page.toNat + m.toNat]? ≠ some (if f = -1 then -1 else f + m)

theorem mapL_strm {l : List Run} (h : Ok0 l) {page : Int} (h0 : 0 ≤ page) (h1 : page < pagesL l) : ∃ f m, mapL l page = some (f, m) ∧ MapS (strm l) page f m := by
  have hn := ok0_normL h
  obtain ⟨pre, r, post, e1, e2, e3, e4⟩ := find_split (l := normL l) (fun r hr => (hn r hr).2) 0 page h0 (by rw [pages_normL]; omega)
  rw [Int.zero_add] at e2 e3 e4
  have hs : strm l = strm pre ++ (strR r ++ strm post) := by rw [← strm_normL h, e1, strm_append, strm_cons]
  have hpre : ∀ x ∈ pre, 0 ≤ x.many := fun x hx => (hn x (by rw [e1]; simp [hx])).2
  have hr := hn r (by rw [e1]; simp)
  have hlp := strm_length hpre
  have hl := strm_length (fun r hr => (h r hr).2)
  have hrl := strR_length r
  have hrow : ∀ i : Nat, page + i < pagesL pre + r.many → (strm l)[page.toNat + i]? = some (if r.to = -1 then -1 else r.to + (page - pagesL pre) + i) := by
    intro i hi
    rw [hs, List.getElem?_append_right (by omega), List.getElem?_append_left (by omega), strR_get, if_pos (by omega)]
    by_cases ht : r.to = -1
    · simp [ht]
    · rw [if_neg ht, if_neg ht]; congr 1; omega
  have hb : pagesL pre + r.many ≤ pagesL l := by
    have hp2 : ∀ x ∈ post, 0 ≤ x.many := fun x hx => (hn x (by rw [e1]; simp [hx])).2
    have := pagesL_nonneg hp2
    rw [← pages_normL l, e1, pagesL_append, pagesL]; omega
  refine ⟨if r.to = -1 then -1 else r.to + (page - pagesL pre), pagesL pre + r.many - page, by unfold mapL; rw [e4]; rfl, ?_⟩
  have hfe : ∀ i : Int, (if (if r.to = -1 then (-1 : Int) else r.to + (page - pagesL pre)) = -1 then (-1 : Int) else (if r.to = -1 then (-1 : Int) else r.to + (page - pagesL pre)) + i) = if r.to = -1 then -1 else r.to + (page - pagesL pre) + i := by
    intro i
    by_cases ht : r.to = -1
    · simp [ht]
    · simp only [if_neg ht]; rw [if_neg (by omega)]
  refine ⟨?_, by omega, by omega, fun i hi => ?_, ?_⟩
  · have := hrow 0 (by omega)
    simpa using this
  · rw [hrow i (by omega), hfe]
  · rw [hfe]
    cases post with
    | nil =>
      rw [List.getElem?_eq_none]
      · simp
      · rw [hs]; simp [strm_nil]; omega
    | cons y post =>
      have hy1 := pos_normL h y (by rw [e1]; simp)
      have hj := adj_normL l pre.length r y (by rw [e1]; simp) (by rw [e1, List.getElem?_append_right (by omega)]; simp)
      rw [hs, List.getElem?_append_right (by omega), List.getElem?_append_right (by omega), strm_cons, List.getElem?_append_left (by have := strR_length y; omega), strR_get]
      have hz : page.toNat + (pagesL pre + r.many - page).toNat - (strm pre).length - (strR r).length = 0 := by omega
      rw [hz, if_pos (by omega)]
      have hyo := hn y (by rw [e1]; simp)
      intro e
      injection e with e
      simp only [joinsB, Bool.or_eq_false_iff, Bool.and_eq_false_iff, decide_eq_false_iff_not] at hj
      by_cases ht : r.to = -1
      · by_cases hy : y.to = -1
        · rcases hj.1 with h | h
          · exact h hy
          · exact h ht
        · rw [if_neg hy, if_pos ht] at e; omega
      · by_cases hy : y.to = -1
        · rw [if_pos hy, if_neg ht] at e; omega
        · rw [if_neg hy, if_neg ht] at e
          rcases hj.2 with (h | h) | h
          · exact h hy
          · exact h ht
          · omega

theorem mapL_ge {l : List Run} (h : Ok0 l) {page : Int} (h1 : pagesL l ≤ page) : mapL l page = none := mapL_out (fun r hr => (h r hr).2) h1
theorem mapL_some {l : List Run} (h : Ok0 l) {page f m : Int} (h0 : 0 ≤ page) (h1 : mapL l page = some (f, m)) : page < pagesL l ∧ MapS (strm l) page f m := by
  by_cases hp : page < pagesL l
  · obtain ⟨f', m', e, hm⟩ := mapL_strm h h0 hp
    rw [h1] at e; cases e
    exact ⟨hp, hm⟩
  · rw [mapL_ge h (by omega)] at h1; cases h1

/-- the pages of a stream are right -/
def PagesIn (size : Int) (s : List Int) : Prop := ∀ x ∈ s, x = -1 ∨ (3 ≤ x ∧ x < size)
theorem runs_of_pages {size : Int} {l : List Run} (h : Ok0 l) (hn : normL l = l) (hp : PagesIn size (strm l)) : ∀ r ∈ l, r.to = -1 ∨ (3 ≤ r.to ∧ r.to + r.many ≤ size) := by
  intro r hr
  by_cases ht : r.to = -1
  · exact .inl ht
  have h1 : 1 ≤ r.many := pos_normL h r (by rw [hn]; exact hr)
  have ho := h r hr
  have p0 := hp _ (mem_strm hr ht (i := 0) (by omega))
  have p1 := hp _ (mem_strm hr ht (i := (r.many - 1).toNat) (by omega))
  right; omega
theorem pages_of_runs {size : Int} {l : List Run} (hp : ∀ r ∈ l, r.to = -1 ∨ (3 ≤ r.to ∧ r.to + r.many ≤ size)) : PagesIn size (strm l) := by
  intro x hx
  obtain ⟨r, hr, h | h⟩ := of_mem_strm hx
  · exact .inl h.2.1
  · have := hp r hr; right; omega

theorem must_of {size : Int} {l : List Run} (h : Ok0 l) (hn : normL l = l) (hp : PagesIn size (strm l)) (hs : size ≤ 1000000) (hf : fitsB l) : mustE l = 0 := by
  unfold mustE
  rw [if_neg (by have := hf.1; omega), if_pos]
  simp only [validL, Bool.and_eq_true, List.all_eq_true, decide_eq_true_eq]
  refine ⟨fun r hr => ?_, hf.2⟩
  have h1 : 1 ≤ r.many := pos_normL h r (by rw [hn]; exact hr)
  have h2 := many_le_pages (fun r hr => (h r hr).2) hr
  have h3 := runs_of_pages h hn hp r hr
  have h4 := hf.2
  rw [okRun_iff]
  omega

theorem pagesIn_put {size : Int} {l : List Run} {page a many : Int} (h : Ok0 l) (hp : PagesIn size (strm l)) (ht : 3 ≤ a ∧ a + many ≤ size) (hm : 1 ≤ many) : PagesIn size (strm (putX l page [⟨a, many⟩])) := by
  have ho : Ok0 [⟨a, many⟩] := fun r hr => by rw [List.mem_singleton.1 hr]; dsimp only; omega
  rw [strm_putX h ho]
  intro x hx
  rcases List.mem_append.1 hx with hx | hx
  · exact hp x (List.mem_of_mem_take hx)
  rcases List.mem_append.1 hx with hx | hx
  · obtain ⟨r, hr, h | h⟩ := of_mem_strm hx
    · exact .inl h.2.1
    · rw [List.mem_singleton.1 hr] at h; dsimp only at h; right; omega
  · exact hp x (List.mem_of_mem_drop hx)

theorem setRuns_length (l : List Fil) (i : Nat) (r : List Run) : (setRuns l i r).length = l.length := by
  unfold setRuns; split <;> simp
theorem mem_setRuns {l : List Fil} {i : Nat} {r : List Run} {f : Fil} (h : f ∈ setRuns l i r) : f ∈ l ∨ f.runs = r := by
  unfold setRuns at h
  split at h
  · rcases List.mem_or_eq_of_mem_set h with h | h
    · exact .inl h
    · exact .inr (by rw [h])
  · exact .inl h

/-- what a step that is made is like -/
theorem applyL_ok {s s' : Spc} {x : Step} (h : applyL s x = .ok s') : ∃ f m t, 0 ≤ fileI s.pic.files x.no ∧ 1 ≤ x.many ∧ 0 ≤ x.from_ ∧ mapL (stR s x) x.from_ = some (f, m) ∧ f ≠ -1 ∧ x.many ≤ m ∧ 3 ≤ x.to ∧ x.to ≤ s.pic.size - x.many ∧
    freeB s.tk x.to.toNat x.many.toNat = true ∧ fitsB (stX s x) ∧ takeL s.tk x.to.toNat true x.many.toNat = some t ∧ takeL t f.toNat false x.many.toNat = some s'.tk ∧
    s'.pic = ⟨s.pic.size, s.pic.fixed, setRuns s.pic.files (fileI s.pic.files x.no).toNat (stX s x)⟩ ∧ s'.steps = s.steps ++ [x] := by
  unfold applyL at h
  split at h
  · cases h
  rename_i h1
  split at h
  · cases h
  rename_i h2
  split at h
  · cases h
  rename_i f m hm
  split at h
  · cases h
  rename_i h4
  split at h
  · cases h
  rename_i h5
  split at h
  · cases h
  rename_i h6
  split at h
  · cases h
  rename_i h7
  split at h
  · cases h
  rename_i t h8
  split at h
  · cases h
  rename_i t' h9
  cases h
  refine ⟨f, m, t, by omega, by omega, by omega, hm, by omega, by omega, by omega, by omega, by simpa using h6, ?_, h8, h9, rfl, rfl⟩
  unfold fitsB
  exact Decidable.of_not_not h7

theorem runsOf_mem {l : List Fil} {i : Nat} (h : i < l.length) : runsOf l i = l[i].runs ∧ l[i] ∈ l := by
  unfold runsOf
  rw [List.getElem?_eq_getElem h]
  exact ⟨rfl, List.getElem_mem h⟩
theorem fileI_lt {l : List Fil} {no : Int} (h : 0 ≤ fileI l no) : (fileI l no).toNat < l.length := by
  rcases fileI_spec l no with ⟨h1, _⟩ | ⟨k, hk, h1, _⟩
  · omega
  · omega
theorem good_applyL {s s' : Spc} {x : Step} (hg : Good s) (hst : s.steps.length < 1099511627776) (h : applyL s x = .ok s') : Good s' := by
  obtain ⟨f, m, t, h1, h2, h3, h4, h5, h6, h7, h8, h9, h10, h11, h12, h13, h14⟩ := applyL_ok h
  obtain ⟨g1, g2, g3, g4, g5, g6⟩ := hg
  obtain ⟨e1, e2⟩ := runsOf_mem (fileI_lt h1)
  obtain ⟨q1, q2, q3⟩ := g6 _ e2
  refine ⟨by rw [h13]; exact g1, by rw [h13]; exact g2, ?_, by rw [h13]; dsimp only; rw [setRuns_length]; exact g4, by rw [h14]; simp; omega, ?_⟩
  · rw [takeL_length h12, takeL_length h11, h13]; exact g3
  · rw [h13]
    dsimp only
    intro y hy
    rcases mem_setRuns hy with hy | hy
    · exact g6 y hy
    · have ho : Ok0 (stR s x) := by rw [stR, e1]; exact ok0_of_must q1
      have hm : Ok0 [(⟨x.to, x.many⟩ : Run)] := fun r hr => by rw [List.mem_singleton.1 hr]; dsimp only; omega
      have hpi : PagesIn s.pic.size (strm (stX s x)) := pagesIn_put ho (by rw [stR, e1]; exact pages_of_runs q3) (by omega) h2
      have hn : normL (stX s x) = stX s x := norm_putX ho hm _
      rw [hy]
      exact ⟨must_of (ok0_putX ho hm _) hn hpi g2 h10, hn, runs_of_pages (ok0_putX ho hm _) hn hpi⟩
end Go.Proofs.Yteipclnlfanfeaa
