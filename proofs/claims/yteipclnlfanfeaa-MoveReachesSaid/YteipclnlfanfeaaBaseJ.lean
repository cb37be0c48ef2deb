/- MoveZf, MoveZg, MoveZh, MoveZi, MoveZj in one text. -/
import Derived.Test.YteipclnlfanfeaaBaseH
import Derived.Test.YteipclnlfanfeaaBaseI
set_option linter.unusedVariables false
set_option linter.unusedSimpArgs false
/- move: Compact. -/
namespace Go.Proofs.Yteipclnlfanfeaa
open Go.RowKit

/-- steps and an error are returned -/
def RetSteps (l : List Step) (er : Int) (w : World) (e : Ending) (w' : World) : Prop :=
  (∃ A c, e = .returned (.tuple #[.slice A l.length c, .int .i64 er]) ∧ StepC w' A l) ∧ Below w.heap.size w w'
theorem stepC_nil (w : World) (A : Option Addr) : StepC w A [] := fun k hk => by simp at hk
theorem ret_none {q : List Step × Int} {w w' : World} {er : Int} (h : q = ([], er)) (hB : Below w.heap.size w w') : RetSteps q.1 q.2 w (.returned (.tuple #[.slice none 0 0, .int .i64 er])) w' := by
  subst h; exact ⟨⟨none, 0, rfl, stepC_nil _ _⟩, hB⟩
theorem ret_steps {q : List Step × Int} {l : List Step} {w w' : World} {A : Option Addr} {c : Nat} (h : q = (l, 0)) (hl : StepC w' A l) (hB : Below w.heap.size w w') : RetSteps q.1 q.2 w (.returned (.tuple #[.slice A l.length c, .int .i64 0])) w' := by
  subst h; exact ⟨⟨A, c, rfl, hl⟩, hB⟩

theorem flatS_get (l : List Step) (k : Nat) (h : k < l.length) : (flatS l)[k * 4]? = some (.int .i64 l[k].no) ∧ (flatS l)[k * 4 + 1]? = some (.int .i64 l[k].from_) ∧ (flatS l)[k * 4 + 2]? = some (.int .i64 l[k].to) ∧ (flatS l)[k * 4 + 3]? = some (.int .i64 l[k].many) := by
  induction l generalizing k with
  | nil => simp at h
  | cons r l ih =>
    cases k with
    | zero => simp [flatS]
    | succ k =>
      have := ih k (by simpa using h)
      rw [show (k + 1) * 4 = k * 4 + 1 + 1 + 1 + 1 by omega]
      simpa [flatS] using this
theorem StepC.of_owns {w : World} {base : Nat} {A : Option Addr} {c : Nat} {l : List Step} (h : w.ownsRow base 35 4 (.slice A l.length c) l.length (flatS l)) : StepC w A l := by
  intro k hk
  rcases ownsRow_block h with h0 | ⟨b, cs, rfl, _, hb, hx⟩
  · omega
  · obtain ⟨g0, g1, g2, g3⟩ := flatS_get l k hk
    have key : ∀ j v, (flatS l)[j]? = some v → w.cell? ⟨b, 0 + j, none⟩ = some v := fun j v hj => by
      rw [Nat.zero_add]; simp [World.cell?, hb, hx j v hj]
    exact ⟨b, 0, rfl, key _ _ g0, key _ _ g1, key _ _ g2, key _ _ g3⟩

/-- the list of steps of a space -/
theorem SpC.stepsAt {n0 P F T : Nat} {s : Spc} {w : World} (h : SpC n0 P F T s w) : ∃ A c, w.cell? ⟨P, 4, none⟩ = some (.slice A s.steps.length c) ∧
    ∀ (E : Nat) (v : Value) (a : Array Value), w.heap[E]? = some (.cells a 29 (0, 0)) → StepC (w.setCell ⟨E, 0, none⟩ v) A s.steps := by
  obtain ⟨a1, a2, a3, Ax, cx, Fa, cf, cT, st, h1, h2, h3, h4, h5⟩ := h
  obtain ⟨A, c, rfl⟩ : ∃ A c, st = .slice A s.steps.length c := by
    rcases h5.2 with ⟨rfl, h0⟩ | ⟨g, cap, cur, rfl, _⟩
    · exact ⟨none, 0, by rw [h0]⟩
    · exact ⟨_, _, rfl⟩
  refine ⟨A, c, by simp [World.cell?, h1], fun E v a hE => StepC.of_owns (ownsRow_kept h5 (fun k c f hk => (Below.heap_setCell _ _ _ _ (fun e => by dsimp only at e; subst e; rw [hE] at hk; cases hk)).trans hk))⟩

theorem compactL_step {n : Nat} {s s' : Spc} (hd : ¬ (idxF s.tk < 0 ∨ (lastL s.pic.files).1 < idxF s.tk)) (h : applyL s (cpStep s) = .ok s') : compactL (n + 1) s = compactL n s' := by
  rw [compactL, if_neg hd, h]
theorem Inv.good {s : Spc} (hi : Inv s) (hst : s.steps.length ≤ 1099511627776) : Good s := by
  have h1 := hi.ok.size
  have h2 := hi.ok.nfil
  obtain ⟨_, hall⟩ := filOk_iff.1 hi.ok.fil
  refine ⟨by omega, by omega, hi.rep.1, by omega, hst, fun f hf => ?_⟩
  obtain ⟨a1, a2, a3⟩ := hall f hf
  refine ⟨a1, a2, fun r hr => ?_⟩
  rcases a3 r hr with h | h
  · exact .inl h
  · exact .inr (by omega)

set_option maxRecDepth 100000 in
set_option maxHeartbeats 4000000 in
theorem compact_pic (p : Pic) (v : Value) (w : World) (hp : PicC w v p) (hn : PicOk p) :
    Calls Try.prog 17 #[v] w (RetSteps (compactP p).1 (compactP p).2 w) := by
  have hpc := hp
  obtain ⟨Ax, cx, Fa, cf, rfl, -, -⟩ := hp
  have hB0 := below_alloc (below_alloc (Below.refl _ w) (.cells #[.int .i64 p.size, .slice Ax p.fixed.length cx, .slice Fa p.files.length cf] 25)) (.cells #[.int .i64 0] 29)
  have hpc1 := hpc.below hB0
  have hbE := heap_new (w.alloc (.cells #[.int .i64 p.size, .slice Ax p.fixed.length cx, .slice Fa p.files.length cf] 25)) (.cells #[.int .i64 0] 29) (n := w.heap.size + 1) (by simp)
  have HbE := Lib.hid hbE; clear hbE
  go_enter_defers Try.func17, Try.ntmps17
  go_wp2_with fail
  obtain ⟨W0, hW0⟩ : ∃ W0, (w.alloc (.cells #[.int .i64 p.size, .slice Ax p.fixed.length cx, .slice Fa p.files.length cf] 25)).alloc (.cells #[.int .i64 0] 29) = W0 := ⟨_, rfl⟩
  rw [hW0] at hB0 hpc1 HbE ⊢
  clear hW0
  refine (open_pic p _ _ hpc1 hn).mono ?_
  rintro e w1 ⟨⟨s, P, F, T, ho, rfl, hs, hF⟩ | ⟨ho, rfl⟩, hB1⟩
  rotate_left
  · have HE := block_below HbE.out hB1
    have hB := (below_then hB0 hB1).setCell (p := ⟨w.heap.size + 1, 0, none⟩) (by dsimp only; omega) (.int .i64 9)
    have hq : compactP p = ([], 9) := by simp [compactP, ho]
    have hc4 := cell_of_one (one_setCell (u := .int .i64 9) HE)
    exact door_fault HE ⟨.tuple #[.slice none 0 0, .int .i64 9], by first | (simp [results, Try.results17, go_sem, hc4]; done) | (simp [results, Try.results17, go_sem, hc4]; rfl), ret_none hq hB⟩
  obtain ⟨hinv, hpic, hst⟩ := inv_open ho
  obtain ⟨lP, lT⟩ := hs.lts
  have hn0P : W0.heap.size ≤ P := hs.1
  have hEl : w.heap.size + 1 < W0.heap.size := lt_of_block HbE.out
  have Hq0 := Lib.hid (show compactP p = (match compactL 1000 s with | .ok s' => (s'.steps, 0) | .error e => ([], e)) by simp only [compactP, ho]; rfl)
  have Hinv := Lib.hid hinv; have Hst := Lib.hid hst
  obtain ⟨n0, hn0⟩ : ∃ n0, W0.heap.size = n0 := ⟨_, rfl⟩
  rw [hn0] at hs hn0P hEl
  have Hn0 := Lib.hid hn0
  have Hs := Lib.hid hs
  clear ho hpic hst hinv hpc1 hs hn0
  go_wp2_with fail
  go_loopg [] 1000 (fun k wr => ∃ (s' : Spc), Hid (msr s'.tk < k ∧ compactL 1000 s = compactL k s' ∧ Inv s' ∧ s'.steps.length + k ≤ 1000) ∧ Hid (SpC n0 P F T s' wr ∧ Below n0 w1 wr))
  case atStart => exact ⟨s, Lib.hid ⟨by have := msr_le s.tk; have := Hinv.out.rep.1; have := Hinv.out.ok.size; omega, rfl, Hinv.out, by rw [Hst.out]; simp⟩, Lib.hid ⟨Hs.out, Below.refl _ _⟩⟩
  case round =>
    obtain ⟨s', HQ, HS⟩ := hrel
    have hBn : Below n0 W0 wr := (by have := hB1; rw [Hn0.out] at this; exact this.trans HS.out.2)
    have hBw : Below w.heap.size w wr := hB0.trans (hBn.mono (by have := hB0.size; have := Hn0.out; omega))
    have HEr : Hid (wr.heap[w.heap.size + 1]? = some (.cells #[.int .i64 0] 29 (0, 0))) := Lib.hid ((hBn.block _ hEl).trans HbE.out)
    have hg := HQ.out.2.2.1.good (by have := HQ.out.2.2.2; omega)
    have hn0r : n0 ≤ wr.heap.size := by have := HS.out.1.lts; omega
    go_wp2_with fail
    refine (last_any n0 P F T s' _ HS.out.1 hg.2.2.2.1 hg.rb).mono ?_
    rintro e w2 ⟨rfl, hB2⟩
    have hS2 := HS.out.1.below hB2
    obtain ⟨a1, a2, a3, Ax', cx', Fa', cf', cT, st', p1, -, -, hT, -⟩ := hS2
    have p3 : w2.cell? ⟨P, 3, none⟩ = some (.slice (some ⟨T, 0, none⟩) s'.tk.length cT) := by simp [World.cell?, p1]
    have htl : s'.tk.length ≤ 1000000 := by have := hg.2.2.1; have := hg.2.1; omega
    clear p1
    go_wp2_with fail
    refine (index_any s'.tk T cT _ htl hT).mono ?_
    rintro e w3 ⟨rfl, rfl⟩
    have HS2 := Lib.hid (And.intro (HS.out.1.below hB2) (HS.out.2.trans (hB2.mono hn0r)))
    have HE2 := Lib.hid (block_below HEr.out hB2)
    have hBw2 := below_then hBw hB2
    have hcp : cpStep s' = ⟨(lastL s'.pic.files).2.1, (lastL s'.pic.files).2.2, idxF s'.tk, 1⟩ := rfl
    have Hdone := Lib.hid (fun hd : ¬ cpDone s' => cp_step HQ.out.2.2.1 hd)
    have Hcl := Lib.hid (fun (n : Nat) => show compactL (n + 1) s' = (if idxF s'.tk < 0 ∨ (lastL s'.pic.files).1 < idxF s'.tk then .ok s' else match applyL s' (cpStep s') with | .error e => .error e | .ok s2 => compactL n s2) from rfl)
    have Hcd := Lib.hid (show cpDone s' ↔ (idxF s'.tk < 0 ∨ (lastL s'.pic.files).1 < idxF s'.tk) from Iff.rfl)
    obtain ⟨i, hi⟩ : ∃ i, idxF s'.tk = i := ⟨_, rfl⟩
    obtain ⟨⟨pg, no, fr⟩, hl⟩ : ∃ L, lastL s'.pic.files = L := ⟨_, rfl⟩
    rw [hl, hi] at hcp Hcl Hcd ⊢
    have Hcp := Lib.hid hcp
    clear hi hl hT hg hcp
    dsimp only at *
    have hend : idxF s'.tk < 0 ∨ (lastL s'.pic.files).1 < idxF s'.tk → compactP p = (s'.steps, 0) := fun hd => by
      obtain ⟨h1, h2, _⟩ := HQ.out
      obtain ⟨m, rfl⟩ : ∃ m, gk = m + 1 := ⟨gk - 1, by omega⟩
      rw [Hq0.out, h2, compactL, if_pos hd]
    have Hend := Lib.hid hend
    clear hend
    obtain ⟨A, c, p4, hsteps⟩ := HS2.out.1.stepsAt
    have hcE := cell_of_one HE2.out
    have hzE := free_of_one HE2.out
    have Hsteps := Lib.hid (hsteps _ (.int .i64 0) _ HE2.out)
    clear hsteps
    have hBe := hBw2.setCell (p := ⟨w.heap.size + 1, 0, none⟩) (by dsimp only; omega) (.int .i64 0)
    have hE4 := cell_of_one (one_setCell (u := .int .i64 0) HE2.out)
    by_cases c1 : i < 0
    · have d1 : decide (i < 0) = true := by simpa using c1
      have Hq := Lib.hid (Hend.out (Hcd.out.2 (.inl c1)))
      go_wp2_with fail
      exact door_ret ⟨.tuple #[.slice A s'.steps.length c, .int .i64 0], by first | (simp [results, Try.results17, go_sem, hE4]; done) | (simp [results, Try.results17, go_sem, hE4]; rfl), ret_steps Hq.out Hsteps.out hBe⟩
    have d1 : decide (i < 0) = false := by simpa using c1
    by_cases c2 : pg < i
    · have d2 : decide (pg < i) = true := by simpa using c2
      have Hq := Lib.hid (Hend.out (Hcd.out.2 (.inr c2)))
      go_wp2_with fail
      exact door_ret ⟨.tuple #[.slice A s'.steps.length c, .int .i64 0], by first | (simp [results, Try.results17, go_sem, hE4]; done) | (simp [results, Try.results17, go_sem, hE4]; rfl), ret_steps Hq.out Hsteps.out hBe⟩
    have d2 : decide (pg < i) = false := by simpa using c2
    have hnd : ¬ (i < 0 ∨ pg < i) := by omega
    obtain ⟨s2, ha, hi2, hm2⟩ := Hdone.out (fun h => hnd (Hcd.out.1 h))
    have hHs := HQ.out
    have HA := Lib.hid ha
    have HI2 := Lib.hid (And.intro hi2 hm2)
    clear ha hi2 hm2 hHs hE4 hBe
    go_wp2_with fail
    refine (apply_any n0 P F T s' ⟨no, fr, i, 1⟩ _ (HQ.out.2.2.1.good (by have := HQ.out.2.2.2; omega)) HS2.out.1).mono ?_
    rintro e w4 ⟨⟨s3, ha, rfl, hs3⟩ | ⟨er, ha, rfl⟩, hF3⟩
    rotate_left
    · rw [← Hcp.out, HA.out] at ha; cases ha
    have hs23 : s2 = s3 := by
      have h := HA.out
      rw [Hcp.out, ha] at h; cases h; rfl
    subst hs23
    have hst2 := applyL_steps ha
    have HS4 := Lib.hid (And.intro hs3 (HS2.out.2.trans hF3.1))
    have HQ4 := Lib.hid (show msr s2.tk < gk - 1 ∧ compactL 1000 s = compactL (gk - 1) s2 ∧ Inv s2 ∧ s2.steps.length + (gk - 1) ≤ 1000 by
      obtain ⟨h1, h2, h3, h4⟩ := HQ.out
      obtain ⟨m, rfl⟩ : ∃ m, gk = m + 1 := ⟨gk - 1, by omega⟩
      have := HI2.out.2
      refine ⟨by omega, ?_, HI2.out.1, by rw [hst2]; simp; omega⟩
      rw [h2, Hcl.out, if_neg hnd, HA.out]; rfl)
    have hgk : gk - 1 < gk := by have := HQ.out.1; omega
    clear hst2 ha hs3 hF3
    go_wp2_with fail
    go_roundg (gk - 1)
    case measure => exact hgk
    case rel => exact ⟨s2, HQ4, HS4⟩
end Go.Proofs.Yteipclnlfanfeaa

/- move: Defrag. -/
namespace Go.Proofs.Yteipclnlfanfeaa
open Go.RowKit

/-- the steps of a file's runs to pages behind each other -/
def dfR (no : Int) : Int → Int → List Run → Spc → Except Int Spc
  | _, _, [], s => .ok s
  | at_, to_, r :: l, s => if r.to ≠ -1 then
      match applyL s ⟨no, at_, to_, r.many⟩ with
      | .error e => .error e
      | .ok s' => dfR no (at_ + r.many) (to_ + r.many) l s'
    else dfR no (at_ + r.many) to_ l s
def noOf (l : List Fil) (i : Nat) : Int := match l[i]? with
  | some f => f.no
  | none => 0
def dfBest (s : Spc) (i : Nat) : Option Ext := bestL (fun x : Ext => decide (takenL (runsOf s.pic.files i) ≤ x.many)) (fun a b : Ext => decide (a.many < b.many)) (freeL s.tk s.pic.size.toNat)
def df1 (s : Spc) (i : Nat) : Except Int Spc := if fragL (-1) (runsOf s.pic.files i) < 2 then .ok s else
  match dfBest s i with
  | none => .ok s
  | some x => dfR (noOf s.pic.files i) 0 x.page (runsOf s.pic.files i) s
def dfI : List Nat → Spc → Except Int Spc
  | [], s => .ok s
  | i :: l, s => match df1 s i with
    | .error e => .error e
    | .ok s' => dfI l s'
def defragP (p : Pic) : List Step × Int := match openL p with
  | none => ([], 9)
  | some s => match dfI (List.range s.pic.files.length) s with
    | .ok s' => (s'.steps, 0)
    | .error e => ([], e)

theorem range_drop {n k : Nat} (h : k < n) : (List.range n).drop k = k :: (List.range n).drop (k + 1) := by
  rw [List.drop_eq_getElem_cons (by simpa using h)]; simp
theorem dfR_hole {no at_ to_ : Int} {l : List Run} {s : Spc} {k : Nat} (h : k < l.length) (ht : l[k].to = -1) : dfR no at_ to_ (l.drop k) s = dfR no (at_ + l[k].many) to_ (l.drop (k + 1)) s := by
  rw [List.drop_eq_getElem_cons h, dfR, if_neg (fun e => e ht)]
theorem dfR_ok {no at_ to_ : Int} {l : List Run} {s s' : Spc} {k : Nat} (h : k < l.length) (ht : l[k].to ≠ -1) (ha : applyL s ⟨no, at_, to_, l[k].many⟩ = .ok s') : dfR no at_ to_ (l.drop k) s = dfR no (at_ + l[k].many) (to_ + l[k].many) (l.drop (k + 1)) s' := by
  rw [List.drop_eq_getElem_cons h, dfR, if_pos ht, ha]
theorem dfR_error {no at_ to_ er : Int} {l : List Run} {s : Spc} {k : Nat} (h : k < l.length) (ht : l[k].to ≠ -1) (ha : applyL s ⟨no, at_, to_, l[k].many⟩ = .error er) : dfR no at_ to_ (l.drop k) s = .error er := by
  rw [List.drop_eq_getElem_cons h, dfR, if_pos ht, ha]
theorem applyL_files {s s' : Spc} {x : Step} (h : applyL s x = .ok s') : s'.pic.files.length = s.pic.files.length := by
  obtain ⟨_, _, _, _, _, _, _, _, _, _, _, _, _, _, _, h13, _⟩ := applyL_ok h
  rw [h13]; exact setRuns_length _ _ _

/-- what stands in the loops of Defrag -/
structure DfS (n0 P F T n m : Nat) (s : Spc) (w1 wr : World) : Prop where
  inv : Inv s
  files : s.pic.files.length = n
  steps : s.steps.length ≤ m
  spc : SpC n0 P F T s wr
  below : Below n0 w1 wr
theorem DfS.below' {n0 P F T n m : Nat} {s : Spc} {w1 wr w2 : World} (h : DfS n0 P F T n m s w1 wr) (hB : Below wr.heap.size wr w2) : DfS n0 P F T n m s w1 w2 :=
  ⟨h.inv, h.files, h.steps, h.spc.below hB, h.below.trans (hB.mono (by have := h.spc.lts; have := h.spc.1; omega))⟩
theorem DfS.next {n0 P F T n m : Nat} {s s' : Spc} {x : Step} {w1 wr w2 : World} (h : DfS n0 P F T n m s w1 wr) (ha : applyL s x = .ok s') (hs : SpC n0 P F T s' w2) (hF : FrS n0 P F T wr w2) : DfS n0 P F T n (m + 1) s' w1 w2 :=
  ⟨inv_applyL h.inv ha, by rw [applyL_files ha, h.files], by rw [applyL_steps ha]; simp; exact h.steps, hs, h.below.trans hF.1⟩

set_option maxRecDepth 100000 in
set_option maxHeartbeats 4000000 in
theorem defrag_pic (p : Pic) (v : Value) (w : World) (hp : PicC w v p) (hn : PicOk p) :
    Calls Try.prog 16 #[v] w (RetSteps (defragP p).1 (defragP p).2 w) := by
  have hmf : ∀ (fn : Fn) (first cap : Array Value) (w : World), (Instr.makeFunc fn first cap).run Try.prog w = .ok (.func fn first cap) w := fun _ _ _ _ => rfl
  have hpc := hp
  obtain ⟨Ax, cx, Fa, cf, rfl, -, -⟩ := hp
  have hB0 := below_alloc (below_alloc (Below.refl _ w) (.cells #[.int .i64 p.size, .slice Ax p.fixed.length cx, .slice Fa p.files.length cf] 25)) (.cells #[.int .i64 0] 29)
  have hpc1 := hpc.below hB0
  have hbE := heap_new (w.alloc (.cells #[.int .i64 p.size, .slice Ax p.fixed.length cx, .slice Fa p.files.length cf] 25)) (.cells #[.int .i64 0] 29) (n := w.heap.size + 1) (by simp)
  have HbE := Lib.hid hbE; clear hbE
  go_enter_defers Try.func16, Try.ntmps16
  go_wp2_with fail
  obtain ⟨W0, hW0⟩ : ∃ W0, (w.alloc (.cells #[.int .i64 p.size, .slice Ax p.fixed.length cx, .slice Fa p.files.length cf] 25)).alloc (.cells #[.int .i64 0] 29) = W0 := ⟨_, rfl⟩
  rw [hW0] at hB0 hpc1 HbE ⊢
  clear hW0
  refine (open_pic p _ _ hpc1 hn).mono ?_
  rintro e w1 ⟨⟨s, P, F, T, ho, rfl, hs, hF⟩ | ⟨ho, rfl⟩, hB1⟩
  rotate_left
  · have HE := block_below HbE.out hB1
    have hB := (below_then hB0 hB1).setCell (p := ⟨w.heap.size + 1, 0, none⟩) (by dsimp only; omega) (.int .i64 9)
    have hq : defragP p = ([], 9) := by simp [defragP, ho]
    have hc4 := cell_of_one (one_setCell (u := .int .i64 9) HE)
    exact door_fault HE ⟨.tuple #[.slice none 0 0, .int .i64 9], by first | (simp [results, Try.results16, go_sem, hc4]; done) | (simp [results, Try.results16, go_sem, hc4]; rfl), ret_none hq hB⟩
  obtain ⟨hinv, hpic, hst⟩ := inv_open ho
  obtain ⟨n, hnl⟩ : ∃ n, s.pic.files.length = n := ⟨_, rfl⟩
  have hn200 : n ≤ 200 := by have := hinv.ok.nfil; omega
  obtain ⟨lP, lT⟩ := hs.lts
  have hn0P : W0.heap.size ≤ P := hs.1
  have hEl : w.heap.size + 1 < W0.heap.size := lt_of_block HbE.out
  have Hq0 := Lib.hid (show defragP p = (match dfI (List.range n) s with | .ok s' => (s'.steps, 0) | .error e => ([], e)) by rw [← hnl]; simp only [defragP, ho])
  obtain ⟨Axs, cxs, Fas, cfs, cTs, sts, -, -, p2, -, -, -, -, -⟩ := hs.cellP
  obtain ⟨n0, hn0⟩ : ∃ n0, W0.heap.size = n0 := ⟨_, rfl⟩
  rw [hn0] at hs hn0P hEl
  rw [hnl] at p2
  have Hn0 := Lib.hid hn0
  have Hs := Lib.hid (show DfS n0 P F T n 0 s w1 w1 from ⟨hinv, hnl, by rw [hst]; simp, hs, Below.refl _ _⟩)
  clear ho hpic hst hinv hpc1 hs hn0 hnl
  go_wp2_with fail
  go_loopw [24] (fun i wr => ∃ (k : Nat) (s' : Spc), k ≤ n ∧ i = .int .i64 k ∧ Hid (dfI (List.range n) s = dfI ((List.range n).drop k) s') ∧ Hid (DfS n0 P F T n (k * 2000) s' w1 wr)) (fun i _ => n - (intOf i).toNat)
  case atStart => exact ⟨0, s, by omega, by simp, Lib.hid (by simp), Lib.hid (by simpa using Hs.out)⟩
  case round =>
    obtain ⟨k, s', hk, rfl, HQ, HS⟩ := hrel
    have hBn : Below n0 W0 wr := (by have := hB1; rw [Hn0.out] at this; exact this.trans HS.out.below)
    have hBw : Below w.heap.size w wr := hB0.trans (hBn.mono (by have := hB0.size; have := Hn0.out; omega))
    have HEr : Hid (wr.heap[w.heap.size + 1]? = some (.cells #[.int .i64 0] 29 (0, 0))) := Lib.hid ((hBn.block _ hEl).trans HbE.out)
    have hn0r : n0 ≤ wr.heap.size := by have := HS.out.spc.lts; omega
    have hFr : F < wr.heap.size := by have := HS.out.below.size; omega
    by_cases hlt : k < n
    rotate_left
    · obtain rfl : k = n := by omega
      have hq : defragP p = (s'.steps, 0) := by
        have h := HQ.out
        rw [List.drop_of_length_le (by simp)] at h
        rw [Hq0.out, h]; rfl
      have Hq := Lib.hid hq
      clear hq
      obtain ⟨A, c, p4, hsteps⟩ := HS.out.spc.stepsAt
      have hcE := cell_of_one HEr.out
      have hzE := free_of_one HEr.out
      have Hsteps := Lib.hid (hsteps _ (.int .i64 0) _ HEr.out)
      clear hsteps
      have hBe := hBw.setCell (p := ⟨w.heap.size + 1, 0, none⟩) (by dsimp only; omega) (.int .i64 0)
      have hE4 := cell_of_one (one_setCell (u := .int .i64 0) HEr.out)
      go_wp2_with fail
      exact door_ret ⟨.tuple #[.slice A s'.steps.length c, .int .i64 0], by first | (simp [results, Try.results16, go_sem, hE4]; done) | (simp [results, Try.results16, go_sem, hE4]; rfl), ret_steps Hq.out Hsteps.out hBe⟩
    have hkf : k < s'.pic.files.length := by rw [HS.out.files]; exact hlt
    have hg := HS.out.inv.good (by have := HS.out.steps; omega)
    obtain ⟨Ax', cx', Fa', cf', cT', st', p0, -, p2', -, -, -, hfil, -⟩ := HS.out.spc.cellP
    rw [HS.out.files] at p2'
    have hfk : ∃ (vs : Array Value) (A' : Option Addr) (c' : Nat), Fa' = some ⟨F, 0, none⟩ ∧ wr.cell? ⟨F, k * 2, none⟩ = some (.int .i64 s'.pic.files[k].no) ∧ wr.cell? ⟨F, k * 2 + 1, none⟩ = some (.slice A' s'.pic.files[k].runs.length c') ∧ RunsT wr A' s'.pic.files[k].runs := by
      rcases hfil with h | ⟨hA, vs, hb, hc⟩
      · rw [h] at hkf; simp at hkf
      · obtain ⟨h1, A', c', h2, h3⟩ := hc k hkf
        exact ⟨vs, A', c', hA, by simp [World.cell?, hb, h1], by simp [World.cell?, hb, h2], h3⟩
    obtain ⟨-, A', c', rfl, e0, e1, hT⟩ := hfk
    have hmust := (hg.2.2.2.2.2 _ (List.getElem_mem hkf)).1
    have hrb := RB.of_must hmust
    have hRo : runsOf s'.pic.files k = s'.pic.files[k].runs := (runsOf_mem hkf).1
    have hNo : noOf s'.pic.files k = s'.pic.files[k].no := by simp [noOf, hkf]
    obtain ⟨R, hR⟩ : ∃ R, s'.pic.files[k].runs = R := ⟨_, rfl⟩
    obtain ⟨no, hno⟩ : ∃ no, s'.pic.files[k].no = no := ⟨_, rfl⟩
    rw [hR] at e1 hT hmust hrb hRo
    rw [hno] at e0 hNo
    have hsz := HS.out.inv.ok.size
    obtain ⟨sz, hszd⟩ := Int.eq_ofNat_of_zero_le (show 0 ≤ s'.pic.size by omega)
    have hszd' : s'.pic.size = (sz : Int) := hszd
    have hszl : sz ≤ s'.tk.length := by have := hg.2.2.1; omega
    have htl : s'.tk.length ≤ 1000000 := by have := hg.2.2.1; have := hg.2.1; omega
    have Hdf := Lib.hid (show df1 s' k = (if fragL (-1) R < 2 then .ok s' else match bestL (fun x : Ext => decide (takenL R ≤ x.many)) (fun a b : Ext => decide (a.many < b.many)) (freeL s'.tk sz) with | none => .ok s' | some x => dfR no 0 x.page R s') by
      simp only [df1, dfBest, hRo, hNo, hszd', Int.toNat_natCast])
    have Hdn := Lib.hid (show dfI (List.range n) s = (match df1 s' k with | .error e => .error e | .ok s2 => dfI ((List.range n).drop (k + 1)) s2) by rw [HQ.out, range_drop hlt]; rfl)
    rw [hszd'] at p0
    have hB46 := below_alloc (Below.refl wr.heap.size wr) (.cells #[.int .i64 no, .slice A' R.length c'] 46)
    have hb46 := World.alloc_heap_new wr (.cells #[.int .i64 no, .slice A' R.length c'] 46)
    have hT46 := hT.kept (fun q c f hq => block_below hq hB46)
    have hrl := hrb.2
    have HT := Lib.hid hT; have HT46 := Lib.hid hT46; have Hmust := Lib.hid hmust
    clear hR hno hRo hNo hg hfil hszd hszd' hmust hT hT46
    go_wp2_with fail
    obtain ⟨nf, hnf⟩ : ∃ nf, wr.heap.size = nf := ⟨_, rfl⟩
    obtain ⟨W1, hW1⟩ : ∃ W1, wr.alloc (.cells #[.int .i64 no, .slice A' R.length c'] 46) = W1 := ⟨_, rfl⟩
    rw [hnf] at hb46
    rw [hW1] at hb46 HT46 hB46 ⊢
    rw [hnf]
    have Hnf := Lib.hid hnf
    clear hW1 hnf
    have f0 := cell_at hb46 0; have f1 := cell_at hb46 1
    simp only [List.getElem?_toArray, List.getElem?_cons_zero, List.getElem?_cons_succ] at f0 f1
    have Hb46 := Lib.hid hb46
    clear hb46
    have hDS1 := HS.out.below' (by rw [Hnf.out]; rw [Hnf.out] at hB46; exact hB46 : Below wr.heap.size wr W1)
    have HDS1 := Lib.hid hDS1
    clear hDS1
    refine (fragments_any R A' c' _ (by omega) HT46.out.c (fun r hr => by have := hrb.1 r hr; omega)).mono ?_
    rintro e w2 ⟨rfl, hB2⟩
    have f0' := cell_below f0 hB2
    have f1' := cell_below f1 hB2
    have HDS2 := Lib.hid (HDS1.out.below' hB2)
    have HT2 := Lib.hid (HT46.out.kept (fun q c f hq => block_below hq hB2))
    have Hb2 := Lib.hid (block_below Hb46.out hB2)
    have hnfl : wr.heap.size ≤ nf := by have := Hnf.out; omega
    by_cases hfr : fragL (-1) R < 2
    · have dfr : decide (fragL (-1) R < 2) = true := by simpa using hfr
      have hnx : dfI (List.range n) s = dfI ((List.range n).drop (k + 1)) s' := by rw [Hdn.out, Hdf.out, if_pos hfr]
      have HN := Lib.hid hnx
      have HD := Lib.hid (show DfS n0 P F T n ((k + 1) * 2000) s' w1 w2 from ⟨HDS2.out.inv, HDS2.out.files, by have := HDS2.out.steps; omega, HDS2.out.spc, HDS2.out.below⟩)
      clear hnx hfr
      go_wp2_with fail
      exact ⟨⟨k + 1, s', by omega, by simp, HN, HD⟩, by simp [intOf]; omega⟩
    have dfr : decide (fragL (-1) R < 2) = false := by simpa using hfr
    have Hdf2 := Lib.hid (show df1 s' k = (match bestL (fun x : Ext => decide (takenL R ≤ x.many)) (fun a b : Ext => decide (a.many < b.many)) (freeL s'.tk sz) with | none => .ok s' | some x => dfR no 0 x.page R s') by rw [Hdf.out, if_neg hfr])
    clear hfr
    go_wp2_with fail
    refine (size_ok R A' c' _ Hmust.out HT2.out.c).mono ?_
    rintro e w3 ⟨rfl, hB3⟩
    have f0'' := cell_below f0' hB3
    have f1'' := cell_below f1' hB3
    have HDS3 := Lib.hid (HDS2.out.below' hB3)
    have HT3 := Lib.hid (HT2.out.kept (fun q c f hq => block_below hq hB3))
    have Hb3 := Lib.hid (block_below Hb2.out hB3)
    have p0' : w3.cell? ⟨P, 0, none⟩ = some (.int .i64 sz) := cell_below (cell_below (cell_below p0 (by rw [Hnf.out]; rw [Hnf.out] at hB46; exact hB46)) hB2) hB3
    have p0'' := cell_below p0' (below_alloc (Below.refl w3.heap.size w3) (.cells #[.int .i64 (takenL R)] 3))
    have hbm := World.alloc_heap_new w3 (.cells #[.int .i64 (takenL R)] 3)
    have hBm := below_alloc (Below.refl w3.heap.size w3) (.cells #[.int .i64 (takenL R)] 3)
    go_wp2_with (go_at_call 47; refine (ok_zero _).mono ?_; rintro e w' ⟨rfl, rfl⟩)
    obtain ⟨nm, hnm⟩ : ∃ nm, w3.heap.size = nm := ⟨_, rfl⟩
    obtain ⟨W4, hW4⟩ : ∃ W4, w3.alloc (.cells #[.int .i64 (takenL R)] 3) = W4 := ⟨_, rfl⟩
    have hB34 : Below w3.heap.size w3 W4 := by rw [← hW4]; exact hBm
    rw [hnm] at hbm
    rw [hW4] at hbm p0'' ⊢
    rw [hnm]
    have Hnm := Lib.hid hnm
    clear hW4 hnm hBm
    have HDS4 := Lib.hid (HDS3.out.below' hB34)
    have HT4 := Lib.hid (HT3.out.kept (fun q c f hq => block_below hq hB34))
    have Hb4 := Lib.hid (block_below Hb3.out hB34)
    have Hbm := Lib.hid hbm
    clear hbm
    refine (free_any P sz W4).mono ?_
    rintro e w5 ⟨rfl, rfl⟩
    have hB5 := below_alloc (below_alloc (Below.refl _ W4) (.cells #[.pointer (some ⟨P, 0, none⟩)] 66)) (.cells #[.int .i64 sz] 3)
    obtain ⟨cT5, hfc5⟩ := HDS4.out.spc.freeC sz
    obtain ⟨lP5, lT5⟩ := HDS4.out.spc.lts
    have Hfc5 := Lib.hid hfc5
    clear hfc5
    go_wp2_with fail
    refine (callsIn_wide.1 (best_defrag (W4.heap.size + 1) W4.heap.size P T cT5 s'.tk sz (takenL R) nm _ hszl htl (by simp; omega) Hfc5.out (block_below Hbm.out hB5))).mono ?_
    rintro e w6 ⟨rfl, hB6⟩
    have hB56 := below_then hB5 hB6
    have HDS6 := Lib.hid (HDS4.out.below' hB56)
    have HT6 := Lib.hid (HT4.out.kept (fun q c f hq => block_below hq hB56))
    have Hb6 := Lib.hid (block_below Hb4.out hB56)
    obtain ⟨ob, hob⟩ : ∃ ob, bestL (fun x : Ext => decide (takenL R ≤ x.many)) (fun a b : Ext => decide (a.many < b.many)) (freeL s'.tk sz) = ob := ⟨_, rfl⟩
    have Hmem := Lib.hid (fun x (hx : ob = some x) => freeL_mem (bestL_mem (hob.trans hx)).1)
    have hdf3 := Hdf2.out
    rw [hob] at hdf3 ⊢
    have Hdf3 := Lib.hid hdf3
    clear hob hdf3
    cases ob with
    | none =>
      have hnx : dfI (List.range n) s = dfI ((List.range n).drop (k + 1)) s' := by rw [Hdn.out, Hdf3.out]
      have HN := Lib.hid hnx
      clear hnx
      have HD6 := HDS6.out.below' (below_alloc (Below.refl _ w6) (.cells #[.int .i64 0, .int .i64 0] 54))
      have HD := Lib.hid (show DfS n0 P F T n ((k + 1) * 2000) s' w1 _ from ⟨HD6.inv, HD6.files, by have := HD6.steps; omega, HD6.spc, HD6.below⟩)
      clear HD6
      simp only [exOf, Option.getD_none, Option.isSome_none]
      go_wp2_with fail
      exact ⟨⟨k + 1, s', by omega, by simp, HN, HD⟩, by simp [intOf]; omega⟩
    | some x =>
      have hx := Hmem.out x rfl
      obtain ⟨x0, x1, x2⟩ := hx
      simp only [exOf, Option.getD_some, Option.isSome_some]
      have hB7 := below_alloc (Below.refl _ w6) (.cells #[.int .i64 x.page, .int .i64 x.many] 54)
      have HDS7 := Lib.hid (HDS6.out.below' hB7)
      have HT7 := Lib.hid (HT6.out.kept (fun q c f hq => block_below hq hB7))
      have Hb7 := Lib.hid (block_below Hb6.out hB7)
      go_wp2_with fail
      go_quiet (fail)
      have g1 := cell_at Hb7.out 1
      simp only [List.getElem?_toArray, List.getElem?_cons_zero, List.getElem?_cons_succ] at g1
      have hst := Hdn.out
      rw [Hdf3.out] at hst
      have Hst2 := Lib.hid hst
      clear hst Hdf3 Hdf2 Hdf Hdn Hmem
      have HJ0 := Lib.hid (And.intro (HDS7.out) (And.intro HT7.out Hb7.out))
      go_wp2_with fail
      rename_i nq
      go_loopw [12, 13, 67] (fun a t i wx => ∃ (j : Nat) (tt : Int) (s2 : Spc), j ≤ R.length ∧ i = .int .i64 j ∧ a = .int .i64 (pagesL (R.take j)) ∧ t = .int .i64 tt ∧ Hid (0 ≤ tt ∧ tt ≤ 1000000 + j * 1073741824) ∧ Hid (dfR no 0 x.page R s' = dfR no (pagesL (R.take j)) tt (R.drop j) s2) ∧ Hid (DfS n0 P F T n (k * 2000 + j) s2 w1 wx ∧ RunsT wx A' R ∧ wx.heap[nf]? = some (.cells #[.int .i64 no, .slice A' R.length c'] 46 (0, 0)))) (fun _ _ i _ => R.length - (intOf i).toNat)
      case atStart =>
        refine ⟨0, x.page, s', by omega, by simp, by simp [pagesL], rfl, Lib.hid (by omega), Lib.hid (by simp [pagesL]), Lib.hid ⟨?_, ?_, ?_⟩⟩
        · exact HJ0.out.1.below' (below_dr (Below.refl _ _) _)
        · exact HJ0.out.2.1
        · exact HJ0.out.2.2
      case round =>
        obtain ⟨j, tt, s2, hj, rfl, rfl, rfl, Htt, HR, HJ⟩ := hrel
        have hpg := hrb.pages j
        by_cases hltj : j < R.length
        rotate_left
        · obtain rfl : j = R.length := by omega
          have hR := HR.out
          rw [List.drop_length] at hR
          simp only [dfR] at hR
          have hnx : dfI (List.range n) s = dfI ((List.range n).drop (k + 1)) s2 := by rw [Hst2.out, hR]
          have HN := Lib.hid hnx
          have HD := Lib.hid (show DfS n0 P F T n ((k + 1) * 2000) s2 w1 wr from ⟨HJ.out.1.inv, HJ.out.1.files, by have := HJ.out.1.steps; omega, HJ.out.1.spc, HJ.out.1.below⟩)
          clear hnx hR
          go_wp2_with fail
          refine ⟨?AA, ?BB⟩
          case BB => simp [intOf]; omega
          case AA => first | exact ⟨k + 1, s2, by omega, by simp, HN, HD⟩ | ((repeat apply Exists.intro); exact ⟨⟨k + 1, s2, by omega, by simp, HN, HD⟩, rfl⟩)
        obtain ⟨b4, o4, rfl, r0, r1⟩ := HJ.out.2.1.c j hltj
        obtain ⟨m1, m2, m3, m4⟩ := hrb.1 _ (List.getElem_mem hltj)
        have hsu := Lib.hid (pagesL_take_succ R j hltj)
        have b0 := cell_at HJ.out.2.2 0
        simp only [List.getElem?_toArray, List.getElem?_cons_zero, List.getElem?_cons_succ] at b0
        have hB52 := below_alloc (Below.refl wr.heap.size wr) (.cells #[.int .i64 R[j].to, .int .i64 R[j].many] 52)
        have b0' := cell_below b0 hB52
        have HD52 := Lib.hid (HJ.out.1.below' hB52)
        have HT52 := Lib.hid (HJ.out.2.1.kept (fun q c f hq => block_below hq hB52))
        have Hb52 := Lib.hid (block_below HJ.out.2.2 hB52)
        have htt := Htt.out
        obtain ⟨t0, t1⟩ := htt
        by_cases ht : R[j].to = -1
        · have d1 : (R[j].to != -1) = false := by simpa using ht
          have hnx := HR.out.trans (dfR_hole hltj ht)
          rw [← hsu.out] at hnx
          have HN := Lib.hid hnx
          have HD := Lib.hid (show DfS n0 P F T n (k * 2000 + (j + 1)) s2 w1 _ from ⟨HD52.out.inv, HD52.out.files, by have := HD52.out.steps; omega, HD52.out.spc, HD52.out.below⟩)
          have HJ2 := Lib.hid (And.intro HD.out (And.intro HT52.out Hb52.out))
          have Ht := Lib.hid ht
          clear hnx ht
          go_wp2_with fail
          exact ⟨⟨j + 1, tt, s2, by omega, by simp, by rw [hsu.out], rfl, Lib.hid (by omega), HN, HJ2⟩, by simp [intOf]; omega⟩
        have d1 : (R[j].to != -1) = true := by simpa using ht
        have Ht := Lib.hid ht
        have hgd := HD52.out.inv.good (by have := HD52.out.steps; omega)
        have hne : s2.pic.files ≠ [] := by intro e; have := HD52.out.files; rw [e] at this; simp at this; omega
        clear ht
        go_wp2_with fail
        refine (apply_any n0 P F T s2 ⟨no, pagesL (R.take j), tt, R[j].many⟩ _ hgd HD52.out.spc).mono ?_
        rintro e w9 ⟨⟨s3, ha, rfl, hs3⟩ | ⟨er, ha, rfl⟩, hF3⟩
        · have hnx := HR.out.trans (dfR_ok hltj Ht.out ha)
          rw [← hsu.out] at hnx
          have HN := Lib.hid hnx
          have hD3 := HD52.out.next ha hs3 hF3
          have hT3 := HT52.out.kept (hF3.t52 HD52.out.spc hne)
          have hnF : nf ≠ F := by omega
          have hb3 := hF3.box HD52.out.spc Hb52.out ⟨by decide, by decide, hnF, fun e => absurd e (by decide)⟩
          have HJ3 := Lib.hid (And.intro hD3 (And.intro hT3 hb3))
          have hf52 : w9.cell? ⟨wr.heap.size, 1, none⟩ = some (.int .i64 R[j].many) := by
            have h52 := World.alloc_heap_new wr (.cells #[.int .i64 R[j].to, .int .i64 R[j].many] 52)
            have := hF3.t52 HD52.out.spc hne _ _ _ h52
            simp [World.cell?, this]
          clear hnx hD3 hT3 hb3 hs3 hF3 ha hgd
          go_wp2_with fail
          exact ⟨⟨j + 1, tt + R[j].many, s3, by omega, by simp, by rw [hsu.out], rfl, Lib.hid (by omega), HN, HJ3⟩, by simp [intOf]; omega⟩
        · have hB3 : Below n0 W0 w9 := (by have := hB1; rw [Hn0.out] at this; exact this.trans (HD52.out.below.trans hF3.1))
          have HE := (hB3.block _ hEl).trans HbE.out
          have hB := (hB0.trans (hB3.mono (by have := hB0.size; have := Hn0.out; omega))).setCell (p := ⟨w.heap.size + 1, 0, none⟩) (by dsimp only; omega) (.int .i64 er)
          have hq : defragP p = ([], er) := by rw [Hq0.out, Hst2.out, HR.out, dfR_error hltj Ht.out ha]
          have hc4 := cell_of_one (one_setCell (u := .int .i64 er) HE)
          exact door_fault HE ⟨.tuple #[.slice none 0 0, .int .i64 er], by first | (simp [results, Try.results16, go_sem, hc4]; done) | (simp [results, Try.results16, go_sem, hc4]; rfl), ret_none hq hB⟩
end Go.Proofs.Yteipclnlfanfeaa

/- move: Shrink: plain functions, the loop over free. -/
namespace Go.Proofs.Yteipclnlfanfeaa
open Go.RowKit
attribute [local go_sem] Oper.semAt_some

def sumE : List Ext → Int
  | [] => 0
  | x :: l => x.many + sumE l
theorem sumE_snoc (l : List Ext) (x : Ext) : sumE (l ++ [x]) = sumE l + x.many := by
  induction l with
  | nil => simp [sumE]
  | cons y l ih => simp only [List.cons_append, sumE, ih]; omega
theorem sumE_bd {l : List Ext} (h : ∀ x ∈ l, 0 ≤ x.many ∧ x.many ≤ 1000000) : 0 ≤ sumE l ∧ sumE l ≤ l.length * 1000000 := by
  induction l with
  | nil => simp [sumE]
  | cons y l ih =>
    have := h y (by simp)
    have := ih (fun x hx => h x (by simp [hx]))
    simp only [sumE, List.length_cons]; omega

/-- the pages of a run that lie from a page on -/
def lfN (size : Int) (r : Run) : Int := min r.many (max 0 (r.to + r.many - size))
def shR (no : Int) (size : Nat) : Int → List Run → Spc → Except Int Spc
  | _, [], s => .ok s
  | at_, r :: l, s => if r.to ≠ -1 then
      match evictL no (at_ + r.many) size ((lfN size r).toNat + 1) s (lfN size r) with
      | .error e => .error e
      | .ok s' => shR no size (at_ + r.many) l s'
    else shR no size (at_ + r.many) l s
def sh1 (size : Nat) (s : Spc) (i : Nat) : Except Int Spc := shR (noOf s.pic.files i) size 0 (runsOf s.pic.files i) s
def shI (size : Nat) : List Nat → Spc → Except Int Spc
  | [], s => .ok s
  | i :: l, s => match sh1 size s i with
    | .error e => .error e
    | .ok s' => shI size l s'
def shrinkP (p : Pic) (size : Int) : List Step × Int := match openL p with
  | none => ([], 9)
  | some s => if ¬ (4 ≤ size ∧ size ≤ p.size) then ([], 1) else if bynd size p.fixed = true then ([], 13) else
    if ¬ overF size p.files - sumE (freeL s.tk size.toNat) ≤ 0 then ([], 5) else
    match shI size.toNat (List.range s.pic.files.length) s with
    | .ok s' => (s'.steps, 0)
    | .error e => ([], e)

theorem shR_hole {no at_ : Int} {size : Nat} {l : List Run} {s : Spc} {k : Nat} (h : k < l.length) (ht : l[k].to = -1) : shR no size at_ (l.drop k) s = shR no size (at_ + l[k].many) (l.drop (k + 1)) s := by
  rw [List.drop_eq_getElem_cons h, shR, if_neg (fun e => e ht)]
theorem shR_ok {no at_ : Int} {size : Nat} {l : List Run} {s s' : Spc} {k : Nat} (h : k < l.length) (ht : l[k].to ≠ -1) (ha : evictL no (at_ + l[k].many) size ((lfN size l[k]).toNat + 1) s (lfN size l[k]) = .ok s') : shR no size at_ (l.drop k) s = shR no size (at_ + l[k].many) (l.drop (k + 1)) s' := by
  rw [List.drop_eq_getElem_cons h, shR, if_pos ht, ha]
theorem shR_error {no at_ er : Int} {size : Nat} {l : List Run} {s : Spc} {k : Nat} (h : k < l.length) (ht : l[k].to ≠ -1) (ha : evictL no (at_ + l[k].many) size ((lfN size l[k]).toNat + 1) s (lfN size l[k]) = .error er) : shR no size at_ (l.drop k) s = .error er := by
  rw [List.drop_eq_getElem_cons h, shR, if_pos ht, ha]
theorem evictL_inv {no end_ : Int} {size : Nat} : ∀ (n : Nat) (s s' : Spc) (left : Int), Inv s → evictL no end_ size n s left = .ok s' → Inv s' ∧ s'.pic.files.length = s.pic.files.length := by
  intro n
  induction n with
  | zero => intro s s' left hi h; simp [evictL] at h; subst h; exact ⟨hi, rfl⟩
  | succ n ih =>
    intro s s' left hi h
    simp only [evictL] at h
    split at h
    · cases h; exact ⟨hi, rfl⟩
    · split at h
      · cases h
      · rename_i s2 ha
        obtain ⟨h1, h2⟩ := ih s2 s' _ (inv_applyL hi ha) h
        exact ⟨h1, by rw [h2, applyL_files ha]⟩

theorem overF_bd {size : Int} {l : List Fil} (h0 : 0 ≤ size) (h : ∀ f ∈ l, RB f.runs) : 0 ≤ overF size l ∧ overF size l ≤ l.length * 2147483648000 := by
  have key : ∀ m : List Run, (∀ r ∈ m, 0 ≤ r.many ∧ r.many ≤ 1073741824) → 0 ≤ overR size m ∧ overR size m ≤ m.length * 1073741824 := by
    intro m
    induction m with
    | nil => intro _; simp [overR]
    | cons r m ih =>
      intro hm
      have a := overN_bd (size := size) h0 (hm r (by simp))
      have b := ih (fun r hr => hm r (by simp [hr]))
      simp only [overR, List.length_cons]; omega
  induction l with
  | nil => simp [overF]
  | cons f l ih =>
    have a := key f.runs (fun r hr => ((h f (by simp)).1 r hr).2.2)
    have b := (h f (by simp)).2
    have c := ih (fun g hg => h g (by simp [hg]))
    simp only [overF, List.length_cons]; omega

theorem putObj_E {W : World} {b D : Nat} {x : Value} {c : Option (List Deferred)} {o : Obj} (hE : W.heap[b]? = some (.cells #[x] 29 (0, 0))) (hK : W.heap[D]? = some (.deferred c)) : (W.putObj D o).heap[b]? = some (.cells #[x] 29 (0, 0)) :=
  (World.putObj_heap_other (fun e => by subst e; rw [hE] at hK; cases hK)).trans hE
theorem putObj_below {n D : Nat} {w W : World} (h : Below n w W) (hD : n ≤ D) (hn : n ≤ W.heap.size) (o : Obj) : Below n w (W.putObj D o) :=
  h.grown (grownBy_putObj' W D o) hn (fun k e => by cases e; exact hD)
theorem StepC.putObj {W : World} {A : Option Addr} {l : List Step} {D : Nat} {c : Option (List Deferred)} (h : StepC W A l) (hK : W.heap[D]? = some (.deferred c)) (o : Obj) : StepC (W.putObj D o) A l := by
  have key : ∀ b i v, W.cell? ⟨b, i, none⟩ = some v → (W.putObj D o).cell? ⟨b, i, none⟩ = some v := by
    intro b i v hv
    obtain ⟨o1, ho1, hc1⟩ := cells_of_cell hv
    refine (World.cell?_of_block ?_).trans hv
    refine World.putObj_heap_other (fun e => ?_)
    dsimp only at e
    subst e
    rw [hK] at ho1; cases ho1; cases hc1
  intro k hk
  obtain ⟨b, o', hA, h0, h1, h2, h3⟩ := h k hk
  exact ⟨b, o', hA, key _ _ _ h0, key _ _ _ h1, key _ _ _ h2, key _ _ _ h3⟩
theorem markM_ret {n : Nat} {fn : Func} {tmps : Array Value} {R : Ending → World → Prop} {b D : Nat} {w : World} (hK : w.heap[D]? = some (.deferred (some [])))
    (h : ∃ v, (results fn tmps).run Try.prog (w.putObj D (.deferred none)) = .ok v (w.putObj D (.deferred none)) ∧ R (.returned v) (w.putObj D (.deferred none))) :
    LeavesInM Fence.wide n Try.prog fn tmps R [{ target := .collected D, args := #[] }, { target := .fn (.func 35) #[], args := #[.pointer (some ⟨b, 0, none⟩)] }] .returning w :=
  ⟨by simp, .inl ⟨_, _, rfl, run_takeDeferred hK, doorM_ret h⟩⟩
theorem markM_fault {n : Nat} {fn : Func} {tmps : Array Value} {R : Ending → World → Prop} {b D : Nat} {w : World} {x e : Int} (hE : w.heap[b]? = some (.cells #[.int .i64 x] 29 (0, 0))) (hK : w.heap[D]? = some (.deferred (some [])))
    (h : ∃ v, (results fn tmps).run Try.prog ((w.putObj D (.deferred none)).setCell ⟨b, 0, none⟩ (.int .i64 e)) = .ok v ((w.putObj D (.deferred none)).setCell ⟨b, 0, none⟩ (.int .i64 e)) ∧ R (.returned v) ((w.putObj D (.deferred none)).setCell ⟨b, 0, none⟩ (.int .i64 e))) :
    LeavesInM Fence.wide n Try.prog fn tmps R [{ target := .collected D, args := #[] }, { target := .fn (.func 35) #[], args := #[.pointer (some ⟨b, 0, none⟩)] }] (.panicking [{ v := .iface 110 (.int .i64 e), recovered := false }]) w :=
  ⟨by simp, .inl ⟨_, _, rfl, run_takeDeferred hK, doorM_fault (putObj_E hE hK) h⟩⟩

theorem evictL_size {no end_ : Int} {size : Nat} : ∀ (n : Nat) (s s' : Spc) (left : Int), evictL no end_ size n s left = .ok s' → s'.pic.size = s.pic.size := by
  intro n
  induction n with
  | zero => intro s s' left h; simp [evictL] at h; subst h; rfl
  | succ n ih =>
    intro s s' left h
    simp only [evictL] at h
    split at h
    · cases h; rfl
    · split at h
      · cases h
      · rename_i s2 ha
        rw [ih s2 s' _ h]
        obtain ⟨_, _, _, _, _, _, _, _, _, _, _, _, _, _, _, h13, _⟩ := applyL_ok ha
        rw [h13]
/-- a block of deferred calls stays -/
theorem FrS.keepD {n0 P F T : Nat} {w w' : World} {s : Spc} {D : Nat} {c : Option (List Deferred)} (h : FrS n0 P F T w w') (hs : SpC n0 P F T s w) (hne : s.pic.files ≠ []) (hK : w.heap[D]? = some (.deferred c)) : w'.heap[D]? = some (.deferred c) := by
  obtain ⟨vs, hF⟩ := hs.fileBlock hne
  obtain ⟨a1, a2, a3, Ax, cx, Fa, cf, cT, st, h1, h2, h3, h4, h5⟩ := hs
  refine h.2 D _ hK (fun e => ?_) (fun e => ?_) (fun e => ?_) (fun c f e => by cases e)
  · subst e; rw [hK] at h1; cases h1
  · subst e; rw [hK] at hF; cases hF
  · subst e; rw [hK] at h4; cases h4

/-- all blocks of cells but nm stay -/
def KpX (nm : Nat) (W W' : World) : Prop := W.heap.size ≤ W'.heap.size ∧ ∀ (k : Nat) c t f, W.heap[k]? = some (.cells c t f) → k ≠ nm → W'.heap[k]? = some (.cells c t f)
theorem KpX.own {D nm : Nat} (W1 : World) : OwnFrom D (fun (_ : Unit) W => KpX nm W1 W) :=
  fun _ X Y row hs hg hr => ⟨Nat.le_trans hs.1 hg.size, fun k c t f hk h1 => by
    have := hs.2 k c t f hk h1
    exact (grownBy_keeps_cells hg (fun r e => (hr r e).2) this rfl).trans this⟩
theorem KpX.cell {nm : Nat} {W W' : World} (h : KpX nm W W') {b i : Nat} {v : Value} (hb : b ≠ nm) (hv : W.cell? ⟨b, i, none⟩ = some v) : W'.cell? ⟨b, i, none⟩ = some v := by
  obtain ⟨o1, ho1, hc1⟩ := cells_of_cell hv
  cases o1 <;> simp [Obj.isCells] at hc1
  have := h.2 _ _ _ _ ho1 hb
  exact (World.cell?_of_block (by rw [this, ho1])).trans hv
theorem KpX.of_below {nm : Nat} {W W' : World} (h : Below W.heap.size W W') : KpX nm W W' := ⟨h.size, fun _ _ _ _ hk _ => block_below hk h⟩
theorem KpX.trans {nm : Nat} {w1 w2 w3 : World} (h : KpX nm w1 w2) (k : KpX nm w2 w3) : KpX nm w1 w3 := ⟨Nat.le_trans h.1 k.1, fun i c t f hi hn => k.2 i c t f (h.2 i c t f hi hn) hn⟩
theorem KpX.set (nm : Nat) (W : World) (o : Nat) (v : Value) : KpX nm W (W.setCell ⟨nm, o, none⟩ v) := ⟨by simp, fun k c t f hk hn => (Below.heap_setCell _ _ _ _ hn).trans hk⟩

theorem FreeC.keptX {Bz Bs P T cT size nm : Nat} {tk : List Bool} {W W' : World} (h : FreeC Bz Bs P T cT tk size W) (hn : Bz ≠ nm ∧ Bs ≠ nm ∧ P ≠ nm ∧ T ≠ nm) (hk : KpX nm W W') : FreeC Bz Bs P T cT tk size W' :=
  ⟨hk.2 _ _ _ _ h.bz hn.1, hk.2 _ _ _ _ h.bs hn.2.1, hk.cell hn.2.2.1 h.p3, hk.2 _ _ _ _ h.t hn.2.2.2⟩

/-- free's iterator, where a round writes a box -/
theorem free_stopsX (n : Nat) (Bz Bs P T cT nm : Nat) (tk : List Bool) (size : Nat) (hsz : size ≤ tk.length) (hlen : tk.length ≤ 1000000) (hn : Bz ≠ nm ∧ Bs ≠ nm ∧ P ≠ nm ∧ T ≠ nm)
    (w : World) (hc : FreeC Bz Bs P T cT tk size w) :
    SeqStopsK Fence.wide n Try.prog 80 #[.pointer (some ⟨Bz, 0, none⟩), .pointer (some ⟨Bs, 0, none⟩)] exEnc' (KpX nm) (fun ys => ys.map Subtype.val = freeL tk size) (fun pre => pre.map Subtype.val <+: freeL tk size) (freeL tk size).length w := by
  intro l0 J Jx W hW hJ _ hY h0
  refine (free1_in n l0 Bz Bs P T cT tk size hsz hlen (KpX nm) (fun _ => True) (fun W o h => trivial) (fun W W' h k => trivial)
    (fun W W' _ k h => h.keptX hn k) (fun l W => ∃ ys : List Ex, ys.map Subtype.val = l ∧ J ys W) (fun l W => ∃ ys : List Ex, ys.map Subtype.val = l ∧ Jx ys W)
    (fun s W o ⟨ys, h1, h2⟩ => ⟨ys, h1, hJ ys W _ none h2 (World.grownBy_alloc _ _ none) (fun r e => by cases e)⟩) ?_ W trivial (hc.below hW) ⟨[], rfl, h0⟩).mono ?_
  · rintro pre x W hx ⟨ys, rfl, h⟩ hl
    refine YieldAt.mono (hY ys ⟨x, hx⟩ W h (by simpa using hl)) ?_
    rintro e W' (⟨he, h1, h2⟩ | ⟨he, h1⟩)
    · exact .inl ⟨he, ⟨ys ++ [⟨x, hx⟩], by simp, h1⟩, h2⟩
    · exact .inr ⟨he, ⟨ys ++ [⟨x, hx⟩], by simp, h1⟩⟩
  · rintro e W' ⟨hv, ⟨ys, h1, h2⟩ | ⟨pre, hp, ys, h1, h2⟩⟩
    · exact ⟨hv, .inl ⟨ys, h1, h2⟩⟩
    · exact ⟨hv, .inr ⟨ys, by subst h1; exact hp, h2⟩⟩

theorem SpC.keptX {n0 P F T nm : Nat} {s : Spc} {w w' : World} {c : Array Value} (h : SpC n0 P F T s w) (hm : w.heap[nm]? = some (.cells c 3 (0, 0))) (hk : KpX nm w w') : SpC n0 P F T s w' := by
  have key : ∀ (k : Nat) c' t f, w.heap[k]? = some (.cells c' t f) → t ≠ 3 → w'.heap[k]? = some (.cells c' t f) := fun k c' t f hk' ht => hk.2 k c' t f hk' (fun e => by subst e; rw [hm] at hk'; cases hk'; exact ht rfl)
  obtain ⟨a1, a2, a3, Ax, cx, Fa, cf, cT, st, h1, h2, h3, h4, h5⟩ := h
  exact ⟨a1, a2, a3, Ax, cx, Fa, cf, cT, st, key _ _ _ _ h1 (by decide), h2.kept (fun _ _ _ hq => key _ _ _ _ hq (by decide)), h3.kept (fun _ _ _ hq => key _ _ _ _ hq (by decide)) (fun _ _ hq => key _ _ _ _ hq (by decide)), key _ _ _ _ h4 (by decide), ownsRow_kept h5 (fun _ _ _ hq => key _ _ _ _ hq (by decide))⟩
theorem SpC.own {β : Type} (n0 P F T : Nat) (s : Spc) : Own (fun (_ : β) W => SpC n0 P F T s W) := by
  rintro x X Y row h hg hrow
  exact h.kept (fun k c t f hk => (grownBy_keeps_cells hg hrow hk rfl).trans hk)
end Go.Proofs.Yteipclnlfanfeaa

/- move: Shrink. -/
namespace Go.Proofs.Yteipclnlfanfeaa
open Go.RowKit
attribute [local go_sem] Oper.semAt_some

theorem manyBox_own {β : Type} (nm : Nat) (f : β → Int) : Own (fun s W => W.heap[nm]? = some (.cells #[.int .i64 (f s)] 3 (0, 0))) :=
  fun _ _ _ _ h hg hrow => (grownBy_keeps_cells hg hrow h rfl).trans h

set_option maxRecDepth 100000 in
set_option maxHeartbeats 4000000 in
theorem shrink_in (p : Pic) (size : Int) (v : Value) (w : World) (hp : PicC w v p) (hn : PicOk p) :
    CallsIn Fence.wide 6 Try.prog 18 #[v, .int .i64 size] w (RetSteps (shrinkP p size).1 (shrinkP p size).2 w) := by
  have hpc := hp
  obtain ⟨Ax, cx, Fa, cf, rfl, -, -⟩ := hp
  have hB0 := below_alloc (below_alloc (Below.refl _ w) (.cells #[.int .i64 p.size, .slice Ax p.fixed.length cx, .slice Fa p.files.length cf] 25)) (.cells #[.int .i64 0] 29)
  have hpc1 := hpc.below hB0
  have hbE := heap_new (w.alloc (.cells #[.int .i64 p.size, .slice Ax p.fixed.length cx, .slice Fa p.files.length cf] 25)) (.cells #[.int .i64 0] 29) (n := w.heap.size + 1) (by simp)
  have HbE := Lib.hid hbE; clear hbE
  refine callsIn_of_wp_marks Try.func18 rfl trivial ?_ rfl
  simp only [Try.ntmps18, List.size_toArray, List.length_cons, List.length_nil, Nat.reduceAdd, Nat.reduceSub, Array.replicate_succ, Array.replicate_zero, List.push_toArray, List.append_toArray, List.nil_append, List.cons_append]
  gi_wp2_with fail
  obtain ⟨W0, hW0⟩ : ∃ W0, (w.alloc (.cells #[.int .i64 p.size, .slice Ax p.fixed.length cx, .slice Fa p.files.length cf] 25)).alloc (.cells #[.int .i64 0] 29) = W0 := ⟨_, rfl⟩
  rw [hW0] at hB0 hpc1 HbE ⊢
  clear hW0
  refine ⟨trivial, (callsIn_wide.2 (open_pic p _ _ hpc1 hn)).mono ?_⟩
  rintro e w1 ⟨⟨s, P, F, T, ho, rfl, hs, hF⟩ | ⟨ho, rfl⟩, hB1⟩
  rotate_left
  · have HE := block_below HbE.out hB1
    have hB := (below_then hB0 hB1).setCell (p := ⟨w.heap.size + 1, 0, none⟩) (by dsimp only; omega) (.int .i64 9)
    have hq : shrinkP p size = ([], 9) := by simp [shrinkP, ho]
    have hc4 := cell_of_one (one_setCell (u := .int .i64 9) HE)
    exact doorM_fault HE ⟨.tuple #[.slice none 0 0, .int .i64 9], by first | (simp [results, Try.results18, go_sem, hc4]; done) | (simp [results, Try.results18, go_sem, hc4]; rfl), ret_none hq hB⟩
  obtain ⟨hinv, hpic, hst⟩ := inv_open ho
  have hop := openL_spec ho
  have heb := hop.eb
  have hsz := hop.size
  obtain ⟨n, hnl⟩ : ∃ n, s.pic.files.length = n := ⟨_, rfl⟩
  have hn200 : n ≤ 200 := by have := hinv.ok.nfil; omega
  have hx200 : s.pic.fixed.length ≤ 200 := hinv.ok.nfix
  obtain ⟨lP, lT⟩ := hs.lts
  have hn0P : W0.heap.size ≤ P := hs.1
  have hEl : w.heap.size + 1 < W0.heap.size := lt_of_block HbE.out
  have hq0 : shrinkP p size = (if ¬ (4 ≤ size ∧ size ≤ p.size) then ([], 1) else if bynd size p.fixed = true then ([], 13) else
      if ¬ overF size p.files - sumE (freeL s.tk size.toNat) ≤ 0 then ([], 5) else
      match shI size.toNat (List.range n) s with
      | .ok s' => (s'.steps, 0)
      | .error e => ([], e)) := by rw [← hnl]; simp only [shrinkP, ho]; try rfl
  have Hq0 := Lib.hid hq0
  obtain ⟨n0, hn0⟩ : ∃ n0, W0.heap.size = n0 := ⟨_, rfl⟩
  have hB1' := hB1
  rw [hn0] at hs hn0P hEl hB1'
  have Hn0 := Lib.hid hn0
  have HE1 := Lib.hid (block_below HbE.out hB1)
  have hBw1 := below_then hB0 hB1
  have hw0 : w.heap.size ≤ n0 := by have := hB0.size; omega
  have hn0w : n0 ≤ w1.heap.size := by omega
  have Hinv := Lib.hid hinv; have Hs := Lib.hid hs; have Heb := Lib.hid heb; have Hpic := Lib.hid hpic; have Hst := Lib.hid hst; have Hop := Lib.hid hop
  obtain ⟨Axs, cxs, Fas, cfs, cTs, sts, p0, -, -, -, -, -, -, -⟩ := hs.cellP
  rw [hpic] at p0
  clear ho hpic hst hinv hpc1 hs hn0 heb hq0 hop hB1
  by_cases h4 : 4 ≤ size
  rotate_left
  · have d4 : decide (4 ≤ size) = false := by simpa using h4
    have hq : shrinkP p size = ([], 1) := by rw [Hq0.out, if_pos (by omega)]
    have Hq := Lib.hid hq; clear hq
    gi_wp2_with fail
    refine ⟨trivial, (callsIn_wide.2 (need_no _ _)).mono ?_⟩
    rintro e w' ⟨rfl, rfl⟩
    have hB := hBw1.setCell (p := ⟨w.heap.size + 1, 0, none⟩) (by dsimp only; omega) (.int .i64 1)
    have hc4 := cell_of_one (one_setCell (u := .int .i64 1) HE1.out)
    exact doorM_fault HE1.out ⟨.tuple #[.slice none 0 0, .int .i64 1], by first | (simp [results, Try.results18, go_sem, hc4]; done) | (simp [results, Try.results18, go_sem, hc4]; rfl), ret_none Hq.out hB⟩
  have d4 : decide (4 ≤ size) = true := by simpa using h4
  by_cases h5 : size ≤ p.size
  rotate_left
  · have d5 : decide (size ≤ p.size) = false := by simpa using h5
    have hq : shrinkP p size = ([], 1) := by rw [Hq0.out, if_pos (by omega)]
    have Hq := Lib.hid hq; clear hq
    gi_wp2_with fail
    refine ⟨trivial, (callsIn_wide.2 (need_no _ _)).mono ?_⟩
    rintro e w' ⟨rfl, rfl⟩
    have hB := hBw1.setCell (p := ⟨w.heap.size + 1, 0, none⟩) (by dsimp only; omega) (.int .i64 1)
    have hc4 := cell_of_one (one_setCell (u := .int .i64 1) HE1.out)
    exact doorM_fault HE1.out ⟨.tuple #[.slice none 0 0, .int .i64 1], by first | (simp [results, Try.results18, go_sem, hc4]; done) | (simp [results, Try.results18, go_sem, hc4]; rfl), ret_none Hq.out hB⟩
  have d5 : decide (size ≤ p.size) = true := by simpa using h5
  obtain ⟨sz, hszd⟩ := Int.eq_ofNat_of_zero_le (show 0 ≤ size by omega)
  have hszd' : size = (sz : Int) := hszd
  clear hszd
  subst hszd'
  have Hq1 := Lib.hid (show shrinkP p sz = (if bynd sz p.fixed = true then ([], 13) else if ¬ overF sz p.files - sumE (freeL s.tk sz) ≤ 0 then ([], 5) else
      match shI sz (List.range n) s with
      | .ok s' => (s'.steps, 0)
      | .error e => ([], e)) by rw [Hq0.out, if_neg (by omega), Int.toNat_natCast])
  gi_wp2_with fail
  refine ⟨trivial, (callsIn_wide.2 (need_yes _ _)).mono ?_⟩
  rintro e w' ⟨rfl, rfl⟩
  gi_wp2_with fail
  refine ⟨trivial, (callsIn_wide.2 (beyond_any _ P F T s sz _ Hs.out (by omega) (by omega) (Hop.out.good).rb Heb.out ⟨by omega, by omega⟩)).mono ?_⟩
  rintro e w2 ⟨rfl, hB2⟩
  have HE2 := Lib.hid (block_below HE1.out hB2)
  have HS2 := Lib.hid (Hs.out.below hB2)
  have hBw2 := below_then hBw1 hB2
  have hB2' : Below n0 W0 w2 := hB1'.trans (hB2.mono hn0w)
  rw [Hpic.out]
  obtain ⟨bf, hbf⟩ : ∃ bf, bynd sz p.fixed = bf := ⟨_, rfl⟩
  obtain ⟨ov, hov⟩ : ∃ ov, overF sz p.files = ov := ⟨_, rfl⟩
  have hovb : 0 ≤ ov ∧ ov ≤ 1125899906842624 := by
    have h := overF_bd (size := (sz : Int)) (l := p.files) (by omega) (by have := (Hop.out.good).rb; rw [Hpic.out] at this; exact this)
    have := Hop.out.nfil
    rw [hov] at h; omega
  rw [hbf, hov]
  have hq2 := Hq1.out
  rw [hbf, hov] at hq2
  have Hq2 := Lib.hid hq2
  clear hbf hov hq2
  have hbm := World.alloc_heap_new w2 (.cells #[.int .i64 ov] 3)
  have hBm := below_alloc (Below.refl w2.heap.size w2) (.cells #[.int .i64 ov] 3)
  gi_wp2_with fail
  obtain ⟨nm, hnm⟩ : ∃ nm, w2.heap.size = nm := ⟨_, rfl⟩
  obtain ⟨W3, hW3⟩ : ∃ W3, w2.alloc (.cells #[.int .i64 ov] 3) = W3 := ⟨_, rfl⟩
  have hB23 : Below w2.heap.size w2 W3 := by rw [← hW3]; exact hBm
  rw [hnm] at hbm
  rw [hW3] at hbm ⊢
  rw [hnm]
  have Hnm := Lib.hid hnm
  clear hW3 hnm hBm
  have Hbm := Lib.hid hbm
  clear hbm
  have HE3 := Lib.hid (block_below HE2.out hB23)
  have HS3 := Lib.hid (HS2.out.below hB23)
  have hBw3 := below_then hBw2 hB23
  have hn0w2 : n0 ≤ w2.heap.size := by have := hB2.size; omega
  have hB3' : Below n0 W0 W3 := hB2'.trans (hB23.mono hn0w2)
  cases bf with
  | true =>
    have hq : shrinkP p sz = ([], 13) := by rw [Hq2.out, if_pos rfl]
    have Hq := Lib.hid hq; clear hq
    refine ⟨trivial, (callsIn_wide.2 (need_no _ _)).mono ?_⟩
    rintro e w' ⟨rfl, rfl⟩
    have hB := hBw3.setCell (p := ⟨w.heap.size + 1, 0, none⟩) (by dsimp only; omega) (.int .i64 13)
    have hc4 := cell_of_one (one_setCell (u := .int .i64 13) HE3.out)
    exact doorM_fault HE3.out ⟨.tuple #[.slice none 0 0, .int .i64 13], by first | (simp [results, Try.results18, go_sem, hc4]; done) | (simp [results, Try.results18, go_sem, hc4]; rfl), ret_none Hq.out hB⟩
  | false =>
  refine ⟨trivial, (callsIn_wide.2 (need_yes _ _)).mono ?_⟩
  rintro e w' ⟨rfl, rfl⟩
  gi_wp2_with fail
  refine ⟨trivial, (callsIn_wide.2 (free_any P sz W3)).mono ?_⟩
  rintro e w4 ⟨rfl, rfl⟩
  gi_wp2_with fail
  obtain ⟨W4, hW4⟩ : ∃ W4, (W3.alloc (.cells #[.pointer (some ⟨P, 0, none⟩)] 66)).alloc (.cells #[.int .i64 sz] 3) = W4 := ⟨_, rfl⟩
  obtain ⟨cT, hfc⟩ := HS3.out.freeC sz
  have hB34 : Below W3.heap.size W3 W4 := by rw [← hW4]; exact below_alloc (below_alloc (Below.refl _ W3) (.cells #[.pointer (some ⟨P, 0, none⟩)] 66)) (.cells #[.int .i64 sz] 3)
  have hszl : sz ≤ s.tk.length := by have := Hop.out.tkl; omega
  have htl : s.tk.length ≤ 1000000 := by have := Hop.out.tkl; omega
  have hsz4 : W4.heap.size = W3.heap.size + 2 := by rw [← hW4]; simp
  rw [hW4] at hfc ⊢
  clear hW4
  have Hfc := Lib.hid hfc
  clear hfc
  have Hbm4 := Lib.hid (block_below Hbm.out hB34)
  have HS4 := Lib.hid (HS3.out.below hB34)
  obtain ⟨lP4, lT4⟩ := HS3.out.lts
  have hnml := lt_of_block Hbm.out
  have hnP : P ≠ nm := fun e => by
    obtain ⟨_, _, _, _, _, _, _, _, _, h1, _⟩ := HS3.out
    rw [e, Hbm.out] at h1; cases h1
  have hnT : T ≠ nm := fun e => by
    obtain ⟨_, _, _, _, _, _, _, _, _, _, _, _, h1, _⟩ := HS3.out
    rw [e, Hbm.out] at h1; simp at h1
  have hB4' : Below n0 W0 W4 := hB3'.trans (hB34.mono (by have := hB23.size; omega))
  have hn0m : n0 ≤ nm := by have := Hnm.out; omega
  have Hfl := Lib.hid (freeL_length s.tk sz)
  refine wpIn_range rfl (by omega) (gf := 80) (lb := #[.pointer (some ⟨W3.heap.size + 1, 0, none⟩), .pointer (some ⟨W3.heap.size, 0, none⟩)]) rfl trivial (enters_of Try.func80 (by kernel_rfl) rfl)
    (free_stopsX 5 (W3.heap.size + 1) W3.heap.size P T cT nm s.tk sz hszl htl ⟨by omega, by omega, hnP, hnT⟩ W4 Hfc.out)
    (fun W1 W l0 r r' h1 h2 h3 => KpX.own (D := W4.heap.size) W1 () W _ (some l0) h3 (grownBy_putObj' W l0 _) (fun r e => by cases e; exact ⟨h1, _, h2, rfl⟩)) (fun _ => rfl)
    (fun pre W => (W.heap[nm]? = some (.cells #[.int .i64 (ov - sumE (pre.map Subtype.val))] 3 (0, 0)) ∧ SpC n0 P F T s W) ∧ Below n0 W0 W)
    (fun _ _ _ => False) (OwnFrom.and (Own.from (own_and (manyBox_own nm (fun pre : List Ex => ov - sumE (pre.map Subtype.val))) (SpC.own _ _ _ _ _)) _) (ownFrom_below (by have := Hn0.out; omega) (by have := Hn0.out; omega))) (fun _ _ _ _ _ hs _ _ => hs) ⟨⟨by simpa [sumE] using Hbm4.out, HS4.out⟩, hB4'⟩
    (fun x W1 a' W => KpX nm W1 W ∧ ∃ Bx, nm < Bx ∧ W.heap[Bx]? = some (.cells #[.int .i64 x.1.page, .int .i64 x.1.many] 54 (0, 0)) ∧ a' = { tmps := #[.agg #[.int .i64 p.size, .slice Ax p.fixed.length cx, .slice Fa p.files.length cf], .int .i64 sz, .pointer (some ⟨w.heap.size, 0, none⟩), undef, .slice none 0 0, .pointer (some ⟨w.heap.size + 1, 0, none⟩), .pointer (some ⟨P, 0, none⟩), .bool false, .pointer (some ⟨nm, 0, none⟩), .pointer (some ⟨Bx, 0, none⟩), undef, undef, undef, undef, undef, .agg #[.int .i64 p.size, .slice Ax p.fixed.length cx, .slice Fa p.files.length cf], .pointer (some ⟨P, 0, none⟩), .int .i64 sz, .bool true, .bool true, .int .i64 sz, .pointer (some ⟨P, 0, none⟩), .pointer (some ⟨P, 0, none⟩), .pointer (some ⟨P, 0, none⟩), .pointer (some ⟨P, 0, none⟩), .int .i64 p.size, .bool true, .bool true, .tuple #[], .tuple #[.bool false, .int .i64 ov], .pointer (some ⟨P, 0, none⟩), .int .i64 sz, .tuple #[.bool false, .int .i64 ov], .bool false, .int .i64 ov, .bool false, .bool true, .tuple #[], .pointer (some ⟨P, 0, none⟩), .int .i64 sz, .func (.func 80) #[] #[.pointer (some ⟨W3.heap.size + 1, 0, none⟩), .pointer (some ⟨W3.heap.size, 0, none⟩)], .agg #[.int .i64 x.1.page, .int .i64 x.1.many], undef, undef, undef, undef, undef, undef, undef, undef, undef, undef, undef, undef, undef, undef, undef, undef, undef, undef, undef, undef, undef, undef, undef, undef, undef, undef, undef, undef, undef, undef, undef, undef, undef, undef, undef, undef, undef, undef, undef, undef, undef, undef, undef, undef, undef, undef, undef, undef, undef, undef, undef, undef, undef, undef, undef, undef, undef, undef, undef, undef, undef], defers := [] }) ?ax ?assign ?body ?done ?stop
  case ax =>
    rintro x W1 a' s X Y row ⟨hs, Bx, hx, h, e⟩ hg hr
    exact ⟨KpX.own (D := W4.heap.size) W1 () X Y row hs hg hr, Bx, hx, (grownBy_keeps_cells hg (fun r e => (hr r e).2) h rfl).trans h, e⟩
  case assign =>
    rintro l0 pre ⟨x, hx⟩ W K ⟨⟨hm, hS⟩, hB⟩ hK
    dsimp only at hK ⊢
    gi_wp2
    have hBa := below_alloc (Below.refl _ W) (.cells #[.int .i64 x.page, .int .i64 x.many] 54)
    have hl := lt_of_block hm
    exact hK _ _ ((KeepsOthers.alloc _ _).from _) ⟨⟨block_below hm hBa, hS.below hBa⟩, hB.trans (hBa.mono (by have := hS.lts; have := hS.1; omega))⟩ ⟨KpX.of_below hBa, W.heap.size, by omega, World.alloc_heap_new W _, rfl⟩
  case body =>
    rintro l0 pre ⟨x, hx⟩ W1 a' W hl0 _ ⟨⟨hm, hS⟩, hB⟩ ⟨hKp, Bx, hBx, hR, rfl⟩ hlen2
    dsimp only at hR ⊢
    have r1 : W.cell? ⟨Bx, 1, none⟩ = some (.int .i64 x.many) := by simp [World.cell?, hR]
    have c0 := cell_of_one hm
    have z0 := free_of_one hm
    have hpl : pre.length ≤ 1000000 := by have := Hfl.out; omega
    have hsb := sumE_bd (l := pre.map Subtype.val) (fun y hy => by
      obtain ⟨z, hz, rfl⟩ := List.mem_map.1 hy
      have := z.2; unfold ExOk at this; omega)
    rw [List.length_map] at hsb
    have Hsn := Lib.hid (show ov - sumE ((pre ++ [(⟨x, hx⟩ : Ex)]).map Subtype.val) = ov - sumE (pre.map Subtype.val) - x.many by rw [List.map_append, List.map_cons, List.map_nil, sumE_snoc]; dsimp only; omega)
    obtain ⟨sm, hsm⟩ : ∃ sm, sumE (pre.map Subtype.val) = sm := ⟨_, rfl⟩
    rw [hsm] at hm c0 hsb Hsn
    clear hsm hR
    have hxb := hx
    unfold ExOk at hxb
    obtain ⟨xb0, xb1, xb2⟩ := hxb
    have Hm := Lib.hid hm
    have HS := Lib.hid hS
    clear hm hS
    gi_wp2_with fail
    have hk := KpX.set nm W 0 (.int .i64 (ov - sm - x.many))
    exact ⟨(KeepsOthers.setCell _ _ _).from _, hKp.trans hk, ⟨by rw [Hsn.out]; exact one_setCell Hm.out, HS.out.keptX Hm.out hk⟩, hB.setCell (p := ⟨nm, 0, none⟩) hn0m _⟩
  case done =>
    rintro D ys W hD hys ⟨⟨hm, hS⟩, hB⟩ hK
    rw [hys] at hm
    have hsb := sumE_bd (l := freeL s.tk sz) (fun y hy => by have := freeL_mem hy; omega)
    have hfl := Hfl.out
    obtain ⟨sm, hsm⟩ : ∃ sm, sumE (freeL s.tk sz) = sm := ⟨_, rfl⟩
    rw [hsm] at hm hsb
    have hq3 := Hq2.out
    rw [if_neg (by decide), hsm] at hq3
    have Hq3 := Lib.hid hq3
    have c0 := cell_of_one hm
    clear hq3 hsm hys hfl
    have HEW := Lib.hid ((hB.block _ (by omega)).trans HbE.out)
    have hBW : Below w.heap.size w W := hB0.trans (hB.mono hw0)
    have HS := Lib.hid hS
    have HK := Lib.hid hK
    have hsmb : sm ≤ 1000000000000 := by have := hsb.2; have := Hfl.out; omega
    obtain ⟨hsb0, -⟩ := hsb
    clear hS hK hm
    by_cases hle : ov - sm ≤ 0
    rotate_left
    · have d6 : decide (ov - sm ≤ 0) = false := by simpa using hle
      have hq : shrinkP p sz = ([], 5) := by rw [Hq3.out]; rw [if_pos (show 0 < ov - sm by omega)]
      have Hq := Lib.hid hq; clear hq
      gi_wp2_with fail
      refine ⟨trivial, (callsIn_wide.2 (need_no _ _)).mono ?_⟩
      rintro e w' ⟨rfl, rfl⟩
      have hE9 := putObj_E (o := .deferred none) HEW.out HK.out
      have hc4 := cell_of_one (one_setCell (u := .int .i64 5) hE9)
      have hBf := (putObj_below hBW (show w.heap.size ≤ D by omega) (by have := (hBW).size; omega) (.deferred none)).setCell (p := ⟨w.heap.size + 1, 0, none⟩) (by dsimp only; omega) (.int .i64 5)
      exact markM_fault HEW.out HK.out ⟨.tuple #[.slice none 0 0, .int .i64 5], by first | (simp [results, Try.results18, go_sem, hc4]; done) | (simp [results, Try.results18, go_sem, hc4]; rfl), ret_none Hq.out hBf⟩
    have d6 : decide (ov - sm ≤ 0) = true := by simpa using hle
    have Hq4 := Lib.hid (show shrinkP p sz = (match shI sz (List.range n) s with | .ok s' => (s'.steps, 0) | .error e => ([], e)) by rw [Hq3.out]; rw [if_neg (show ¬ 0 < ov - sm by omega)])
    clear hle
    obtain ⟨Ax', cx', Fa', cf', cT', st', -, -, p2, -, -, -, -, -⟩ := HS.out.cellP
    rw [hnl] at p2
    gi_wp2_with fail
    refine ⟨trivial, (callsIn_wide.2 (need_yes _ _)).mono ?_⟩
    rintro e w' ⟨rfl, rfl⟩
    gi_wp2_with fail
    gi_loopw [55] (fun i wr => ∃ (k : Nat) (s' : Spc), k ≤ n ∧ i = .int .i64 k ∧ Hid (shI sz (List.range n) s = shI sz ((List.range n).drop k) s') ∧ Hid (DfS n0 P F T n (k * 1536000) s' W0 wr ∧ s'.tk.length = s.tk.length) ∧ Hid (wr.heap[D]? = some (.deferred (some [])))) (fun i _ => n - (intOf i).toNat)
    case atStart => exact ⟨0, s, by omega, by simp, Lib.hid (by simp), Lib.hid ⟨⟨Hinv.out, hnl, by rw [Hst.out]; simp, HS.out, hB⟩, rfl⟩, HK⟩
    case round =>
      obtain ⟨k, s', hk, rfl, HQ, HD, HKr⟩ := hrel
      have hBw : Below w.heap.size w wr := hB0.trans (HD.out.1.below.mono hw0)
      have HEr : Hid (wr.heap[w.heap.size + 1]? = some (.cells #[.int .i64 0] 29 (0, 0))) := Lib.hid ((HD.out.1.below.block _ (by omega)).trans HbE.out)
      have hn0r : n0 ≤ wr.heap.size := by have := HD.out.1.spc.lts; omega
      have hDl : D < wr.heap.size := (Array.getElem?_eq_some_iff.1 HKr.out).1
      have hFr : F < wr.heap.size := by have := hB2.size; have := hB23.size; omega
      by_cases hlt : k < n
      rotate_left
      · obtain rfl : k = n := by omega
        have hq : shrinkP p sz = (s'.steps, 0) := by
          have h := HQ.out
          rw [List.drop_of_length_le (by simp)] at h
          rw [Hq4.out, h]; rfl
        have Hq := Lib.hid hq
        clear hq
        obtain ⟨A, c, p4, hsteps⟩ := HD.out.1.spc.stepsAt
        have hcE := cell_of_one HEr.out
        have hzE := free_of_one HEr.out
        have Hsteps := Lib.hid (hsteps _ (.int .i64 0) _ HEr.out)
        clear hsteps
        have hKE : (wr.setCell ⟨w.heap.size + 1, 0, none⟩ (.int .i64 0)).heap[D]? = some (.deferred (some [])) := (Below.heap_setCell _ _ _ _ (by dsimp only; omega)).trans HKr.out
        have HKE := Lib.hid hKE
        clear hKE
        gi_wp2_with fail
        have hE9 := putObj_E (o := .deferred none) (one_setCell (u := .int .i64 0) HEr.out) HKE.out
        have hE4 := cell_of_one hE9
        have hBf := putObj_below (hBw.setCell (p := ⟨w.heap.size + 1, 0, none⟩) (by dsimp only; omega) (.int .i64 0)) (show w.heap.size ≤ D by omega) (by have := hBw.size; simp; omega) (.deferred none)
        exact markM_ret HKE.out ⟨.tuple #[.slice A s'.steps.length c, .int .i64 0], by first | (simp [results, Try.results18, go_sem, hE4]; done) | (simp [results, Try.results18, go_sem, hE4]; rfl), ret_steps Hq.out (Hsteps.out.putObj HKE.out _) hBf⟩
      have hkf : k < s'.pic.files.length := by rw [HD.out.1.files]; exact hlt
      have hg := HD.out.1.inv.good (by have := HD.out.1.steps; omega)
      obtain ⟨Ax', cx', Fa', cf', cT', st', -, -, p2', -, -, -, hfil, -⟩ := HD.out.1.spc.cellP
      rw [HD.out.1.files] at p2'
      have hfk : ∃ (vs : Array Value) (A' : Option Addr) (c' : Nat), Fa' = some ⟨F, 0, none⟩ ∧ wr.cell? ⟨F, k * 2, none⟩ = some (.int .i64 s'.pic.files[k].no) ∧ wr.cell? ⟨F, k * 2 + 1, none⟩ = some (.slice A' s'.pic.files[k].runs.length c') ∧ RunsT wr A' s'.pic.files[k].runs := by
        rcases hfil with h | ⟨hA, vs, hb, hc⟩
        · rw [h] at hkf; simp at hkf
        · obtain ⟨h1, A', c', h2, h3⟩ := hc k hkf
          exact ⟨vs, A', c', hA, by simp [World.cell?, hb, h1], by simp [World.cell?, hb, h2], h3⟩
      obtain ⟨-, A', c', rfl, e0, e1, hT⟩ := hfk
      obtain ⟨hmust, hnorm, hrok⟩ := (filOk_iff.1 HD.out.1.inv.ok.fil).2 _ (List.getElem_mem hkf)
      have hsz' := HD.out.1.inv.ok.size
      have hrb := RB.of_must hmust
      have hRo : runsOf s'.pic.files k = s'.pic.files[k].runs := (runsOf_mem hkf).1
      have hNo : noOf s'.pic.files k = s'.pic.files[k].no := by simp [noOf, hkf]
      have hmany : ∀ r ∈ s'.pic.files[k].runs, r.to = -1 ∨ (3 ≤ r.to ∧ r.to + r.many ≤ 768) := fun r hr => by rcases hrok r hr with h | h; exact .inl h; exact .inr (by omega)
      have hpos : ∀ r ∈ s'.pic.files[k].runs, 1 ≤ r.many := fun r hr => ((mustE_zero hmust).2.1 r hr).1
      obtain ⟨R, hR⟩ : ∃ R, s'.pic.files[k].runs = R := ⟨_, rfl⟩
      obtain ⟨no, hno⟩ : ∃ no, s'.pic.files[k].no = no := ⟨_, rfl⟩
      rw [hR] at e1 hT hrb hRo hmany hpos
      rw [hno] at e0 hNo
      have Hsh := Lib.hid (show sh1 sz s' k = shR no sz 0 R s' by simp only [sh1, hRo, hNo])
      have Hdn := Lib.hid (show shI sz (List.range n) s = (match sh1 sz s' k with | .error e => .error e | .ok s2 => shI sz ((List.range n).drop (k + 1)) s2) by rw [HQ.out, range_drop hlt]; rfl)
      have hB46 := below_alloc (Below.refl wr.heap.size wr) (.cells #[.int .i64 no, .slice A' R.length c'] 46)
      have hb46 := World.alloc_heap_new wr (.cells #[.int .i64 no, .slice A' R.length c'] 46)
      have hT46 := hT.kept (fun q c f hq => block_below hq hB46)
      have hrl := hrb.2
      have HT46 := Lib.hid hT46; have Hmany := Lib.hid hmany; have Hpos := Lib.hid hpos
      have HK46 := Lib.hid (block_below HKr.out hB46)
      have HD46 := Lib.hid (HD.out.1.below' hB46)
      clear hR hno hRo hNo hg hfil hmust hT hT46 hnorm hrok hmany hpos
      gi_wp2_with fail
      obtain ⟨nf, hnf⟩ : ∃ nf, wr.heap.size = nf := ⟨_, rfl⟩
      obtain ⟨W6, hW6⟩ : ∃ W6, wr.alloc (.cells #[.int .i64 no, .slice A' R.length c'] 46) = W6 := ⟨_, rfl⟩
      rw [hnf] at hb46
      rw [hW6] at hb46 HT46 HK46 HD46 ⊢
      rw [hnf]
      have Hnf := Lib.hid hnf
      clear hW6 hB46
      have Hb46 := Lib.hid hb46
      clear hb46 hnf
      gi_loopw [11, 69] (fun a i wx => ∃ (j : Nat) (s2 : Spc), j ≤ R.length ∧ i = .int .i64 j ∧ a = .int .i64 (pagesL (R.take j)) ∧ Hid (shR no sz 0 R s' = shR no sz (pagesL (R.take j)) (R.drop j) s2) ∧ Hid (DfS n0 P F T n (k * 1536000 + j * 768) s2 W0 wx ∧ s2.tk.length = s.tk.length) ∧ Hid (RunsT wx A' R ∧ wx.heap[nf]? = some (.cells #[.int .i64 no, .slice A' R.length c'] 46 (0, 0)) ∧ wx.heap[D]? = some (.deferred (some [])))) (fun _ i _ => R.length - (intOf i).toNat)
      case atStart => exact ⟨0, s', by omega, by simp, by simp [pagesL], Lib.hid (by simp [pagesL]), Lib.hid ⟨by simpa using HD46.out, HD.out.2⟩, Lib.hid ⟨HT46.out, Hb46.out, HK46.out⟩⟩
      case round =>
        obtain ⟨j, s2, hj, rfl, rfl, HR, HD2, HJ⟩ := hrel
        have hpg := hrb.pages j
        by_cases hltj : j < R.length
        rotate_left
        · obtain rfl : j = R.length := by omega
          have hR := HR.out
          rw [List.drop_length] at hR
          simp only [shR] at hR
          have hnx : shI sz (List.range n) s = shI sz ((List.range n).drop (k + 1)) s2 := by rw [Hdn.out, Hsh.out, hR]
          have HN := Lib.hid hnx
          have HD3 := Lib.hid (show DfS n0 P F T n ((k + 1) * 1536000) s2 W0 wr ∧ s2.tk.length = s.tk.length from ⟨⟨HD2.out.1.inv, HD2.out.1.files, by have := HD2.out.1.steps; omega, HD2.out.1.spc, HD2.out.1.below⟩, HD2.out.2⟩)
          have HK3 := Lib.hid HJ.out.2.2
          clear hnx hR
          gi_wp2_with fail
          refine ⟨?AA, ?BB⟩
          case BB => simp [intOf]; omega
          case AA => first | exact ⟨k + 1, s2, by omega, by simp, HN, HD3, HK3⟩ | ((repeat apply Exists.intro); exact ⟨⟨k + 1, s2, by omega, by simp, HN, HD3, HK3⟩, rfl⟩)
        obtain ⟨b4, o4, rfl, r0, r1⟩ := HJ.out.1.c j hltj
        obtain ⟨m1, m2, m3, m4⟩ := hrb.1 _ (List.getElem_mem hltj)
        have hmn := Hmany.out _ (List.getElem_mem hltj)
        have hps := Hpos.out _ (List.getElem_mem hltj)
        have hsu := Lib.hid (pagesL_take_succ R j hltj)
        have b0 := cell_at HJ.out.2.1 0
        simp only [List.getElem?_toArray, List.getElem?_cons_zero, List.getElem?_cons_succ] at b0
        have hB52 := below_alloc (Below.refl wr.heap.size wr) (.cells #[.int .i64 R[j].to, .int .i64 R[j].many] 52)
        have b0' := cell_below b0 hB52
        have HD52 := Lib.hid (And.intro (HD2.out.1.below' hB52) HD2.out.2)
        have HJ52 := Lib.hid (And.intro (HJ.out.1.kept (fun q c f hq => block_below hq hB52)) (And.intro (block_below HJ.out.2.1 hB52) (block_below HJ.out.2.2 hB52)))
        by_cases ht : R[j].to = -1
        · have d1 : (R[j].to != -1) = false := by simpa using ht
          have hnx := HR.out.trans (shR_hole hltj ht)
          rw [← hsu.out] at hnx
          have HN := Lib.hid hnx
          have HD3 := Lib.hid (show DfS n0 P F T n (k * 1536000 + (j + 1) * 768) s2 W0 _ ∧ s2.tk.length = s.tk.length from ⟨⟨HD52.out.1.inv, HD52.out.1.files, by have := HD52.out.1.steps; omega, HD52.out.1.spc, HD52.out.1.below⟩, HD52.out.2⟩)
          have Ht := Lib.hid ht
          clear hnx ht hmn
          gi_wp2_with fail
          exact ⟨⟨j + 1, s2, by omega, by simp, by rw [hsu.out], HN, HD3, HJ52⟩, by simp [intOf]; omega⟩
        have d1 : (R[j].to != -1) = true := by simpa using ht
        have Ht := Lib.hid ht
        have hmn2 : 3 ≤ R[j].to ∧ R[j].to + R[j].many ≤ 768 := by omega
        obtain ⟨t3, t4⟩ := hmn2
        have hgd := HD52.out.1.inv.good (by have := HD52.out.1.steps; omega)
        have hne : s2.pic.files ≠ [] := by intro e; have := HD52.out.1.files; rw [e] at this; simp at this; omega
        obtain ⟨L, hL⟩ : ∃ L, lfN sz R[j] = L := ⟨_, rfl⟩
        have hLb : 0 ≤ L ∧ L ≤ 768 := by rw [← hL]; unfold lfN; omega
        have HL := Lib.hid hL
        have hL' : (if (if (sz : Int) < R[j].to + R[j].many then R[j].to + R[j].many - (sz : Int) else 0) < R[j].many then (if (sz : Int) < R[j].to + R[j].many then R[j].to + R[j].many - (sz : Int) else 0) else R[j].many) = L := by
          rw [← hL]; unfold lfN; split <;> split <;> omega
        clear ht hL hmn
        gi_wp2_with fail
        all_goals
          refine ⟨trivial, (callsIn_wide.2 (evict_any n0 P F T s2 no (pagesL (R.take j) + R[j].many) L sz _ hgd HD52.out.1.spc (by simp; have := (Array.getElem?_eq_some_iff.1 HJ.out.2.2).1; have := hB2.size; have := hB23.size; omega) (by have := HD52.out.2; omega) (by omega) (by have := HD52.out.1.steps; omega) ⟨by omega, by omega⟩ hLb.1)).mono ?_⟩
          rintro e w9 ⟨⟨s3, ha, rfl, hs3, hg3, hst3⟩ | ⟨er, ha, rfl⟩, hF3⟩
          · have hnx := HR.out.trans (shR_ok hltj Ht.out (by rw [HL.out]; exact ha))
            rw [← hsu.out] at hnx
            have HN := Lib.hid hnx
            obtain ⟨hi3, hf3⟩ := evictL_inv _ _ _ _ HD52.out.1.inv ha
            have hD3 : DfS n0 P F T n (k * 1536000 + (j + 1) * 768) s3 W0 w9 := ⟨hi3, by rw [hf3, HD52.out.1.files], by have := HD52.out.1.steps; omega, hs3, HD52.out.1.below.trans hF3.1⟩
            have htk3 : s3.tk.length = s.tk.length := by
              have h1 := hg3.2.2.1
              have h2 := hgd.2.2.1
              have h3 := evictL_size _ _ _ _ ha
              rw [h1, h3, ← h2]; exact HD52.out.2
            have HD3 := Lib.hid (And.intro hD3 htk3)
            have hT3 := HJ52.out.1.kept (hF3.t52 HD52.out.1.spc hne)
            have hnF : nf ≠ F := by have := Hnf.out; omega
            have hb3 := hF3.box HD52.out.1.spc HJ52.out.2.1 ⟨by decide, by decide, hnF, fun e => absurd e (by decide)⟩
            have hK3 := hF3.keepD HD52.out.1.spc hne HJ52.out.2.2
            have HJ3 := Lib.hid (And.intro hT3 (And.intro hb3 hK3))
            clear hnx hD3 htk3 hT3 hb3 hK3 hs3 hF3 ha hg3 hst3 hi3 hf3
            gi_wp2_with fail
            exact ⟨⟨j + 1, s3, by omega, by simp, by rw [hsu.out], HN, HD3, HJ3⟩, by simp [intOf]; omega⟩
          · have hq : shrinkP p sz = ([], er) := by rw [Hq4.out, Hdn.out, Hsh.out, HR.out, shR_error hltj Ht.out (by rw [HL.out]; exact ha)]
            have hB9 : Below n0 W0 w9 := HD52.out.1.below.trans hF3.1
            have hEm := (hB9.block _ (by omega : w.heap.size + 1 < n0)).trans HbE.out
            have hKm := hF3.keepD HD52.out.1.spc hne HJ52.out.2.2
            have hBm9 : Below w.heap.size w w9 := hB0.trans (hB9.mono hw0)
            have hE9 := putObj_E (o := .deferred none) hEm hKm
            have hc4 := cell_of_one (one_setCell (u := .int .i64 er) hE9)
            have hBf := (putObj_below hBm9 (show w.heap.size ≤ D by omega) (by have := (hBm9).size; omega) (.deferred none)).setCell (p := ⟨w.heap.size + 1, 0, none⟩) (by dsimp only; omega) (.int .i64 er)
            exact markM_fault hEm hKm ⟨.tuple #[.slice none 0 0, .int .i64 er], by first | (simp [results, Try.results18, go_sem, hc4]; done) | (simp [results, Try.results18, go_sem, hc4]; rfl), ret_none hq hBf⟩
  case stop =>
    rintro D c pre W _ _ h _
    exact h.elim
theorem shrink_pic (p : Pic) (size : Int) (v : Value) (w : World) (hp : PicC w v p) (hn : PicOk p) :
    Calls Try.prog 18 #[v, .int .i64 size] w (RetSteps (shrinkP p size).1 (shrinkP p size).2 w) := callsIn_wide.1 (shrink_in p size v w hp hn)
end Go.Proofs.Yteipclnlfanfeaa

/- move: Same. -/
namespace Go.Proofs.Yteipclnlfanfeaa
open Go.RowKit

theorem fil_eq (x y : Fil) : x = y ↔ x.no = y.no ∧ x.runs = y.runs := by
  cases x; cases y; simp
theorem pic_eq (x y : Pic) : x = y ↔ x.size = y.size ∧ x.fixed = y.fixed ∧ x.files = y.files := by
  cases x; cases y; simp

section
attribute [local go_sem] undef
set_option maxRecDepth 100000 in
set_option maxHeartbeats 1000000 in
theorem same1_any (x y : Fil) (A A2 : Option Addr) (c c2 : Nat) (w : World) (hlen : x.runs.length ≤ 1099511627776) (hl : RunsC w A x.runs) (hl2 : RunsC w A2 y.runs) :
    Calls Try.prog 69 #[.agg #[.int .i64 x.no, .slice A x.runs.length c], .agg #[.int .i64 y.no, .slice A2 y.runs.length c2]] w fun e w' => e = .returned (.bool (decide (x = y))) ∧ Below w.heap.size w w' := by
  have hB := below_alloc (below_alloc (Below.refl _ w) (.cells #[.int .i64 x.no, .slice A x.runs.length c] 46)) (.cells #[.int .i64 y.no, .slice A2 y.runs.length c2] 46)
  have h1 := hl.below hB
  have h2 := hl2.below hB
  have hd : decide (x = y) = (decide (x.no = y.no) && decide (x.runs = y.runs)) := by
    rw [Bool.eq_iff_iff]; simp [fil_eq]
  have Hd := Lib.hid hd
  clear hd
  by_cases hno : x.no = y.no
  · have d1 : (x.no == y.no) = true := by simpa using hno
    have d2 : decide (x.no = y.no) = true := by simpa using hno
    have D2 := Lib.hid d2
    clear hno d2
    go_enter Try.func69, Try.ntmps69
    go_wp2_with fail
    refine (equalR_any _ _ _ _ _ _ _ hlen h1 h2).mono ?_
    rintro e w1 ⟨rfl, hB1⟩
    have hBw := below_then hB hB1
    have Hb := Lib.hid (show decide (x = y) = decide (x.runs = y.runs) by rw [Hd.out, D2.out, Bool.true_and])
    obtain ⟨b, hb⟩ : ∃ b, decide (x.runs = y.runs) = b := ⟨_, rfl⟩
    rw [hb] at Hb ⊢
    clear hb
    go_wp2_with fail
    go_ret
    exact ⟨by rw [Hb.out]; rfl, hBw⟩
  · have d1 : (x.no == y.no) = false := by simpa using hno
    have d2 : decide (x.no = y.no) = false := by simpa using hno
    have Hb := Lib.hid (show decide (x = y) = false by rw [Hd.out, d2, Bool.false_and])
    clear hno d2
    go_enter Try.func69, Try.ntmps69
    go_wp2_with fail
    go_ret
    exact ⟨by rw [Hb.out]; rfl, hB⟩

end

set_option maxRecDepth 100000 in
set_option maxHeartbeats 1000000 in
theorem equalFunc_any (l l2 : List Fil) (A A2 : Option Addr) (c c2 : Nat) (w : World) (hlen : l.length ≤ 1099511627776) (hrl : ∀ f ∈ l, f.runs.length ≤ 1099511627776) (hl : FilC w A l) (hl2 : FilC w A2 l2) :
    Calls Try.prog 68 #[.slice A l.length c, .slice A2 l2.length c2, .func (.func 69) #[] #[]] w fun e w' => e = .returned (.bool (decide (l = l2))) ∧ Below w.heap.size w w' := by
  have Hrl := Lib.hid hrl; clear hrl
  by_cases hn : l.length = l2.length
  · have hd : ((l.length : Int) != (l2.length : Int)) = false := by simp; omega
    have Hn := Lib.hid hn
    clear hn
    go_enter Try.func68, Try.ntmps68
    go_wp2_with fail
    go_loopw [17] (fun i wr => ∃ k : Nat, k ≤ l.length ∧ i = .int .i64 k ∧ Hid (l.take k = l2.take k) ∧ Below w.heap.size w wr) (fun i _ => l.length - (intOf i).toNat)
    case atStart => exact ⟨0, by omega, by simp, Lib.hid (by simp), Below.refl _ _⟩
    case round =>
      obtain ⟨k, hk, rfl, Hno, hB⟩ := hrel
      by_cases hlt : k < l.length
      · have hlt2 : k < l2.length := by have := Hn.out; omega
        obtain ⟨b, o, A', c', rfl, h0, h1, h2⟩ := (hl.below hB) k hlt
        obtain ⟨b2, o2, A2', c2', rfl, g0, g1, g2⟩ := (hl2.below hB) k hlt2
        have hB1 := below_alloc (below_alloc (Below.refl wr.heap.size wr) (.cells #[.int .i64 l[k].no, .slice A' l[k].runs.length c'] 46)) (.cells #[.int .i64 l2[k].no, .slice A2' l2[k].runs.length c2'] 46)
        have g0' := cell_below g0 (below_alloc (Below.refl wr.heap.size wr) (.cells #[.int .i64 l[k].no, .slice A' l[k].runs.length c'] 46))
        have g1' := cell_below g1 (below_alloc (Below.refl wr.heap.size wr) (.cells #[.int .i64 l[k].no, .slice A' l[k].runs.length c'] 46))
        have h2' := h2.below hB1
        have g2' := g2.below hB1
        go_wp2_with fail
        refine (same1_any l[k] l2[k] A' A2' c' c2' _ (Hrl.out _ (List.getElem_mem hlt)) h2' g2').mono ?_
        rintro e w2 ⟨rfl, hB2⟩
        have hBe := below_then hB (below_then hB1 hB2)
        by_cases he : l[k] = l2[k]
        · have hdd : decide (l[k] = l2[k]) = true := by simpa using he
          rw [hdd]
          have He := Lib.hid he; clear he hdd
          go_wp2_with fail
          refine ⟨⟨k + 1, by omega, by simp, Lib.hid ?_, hBe⟩, by simp [intOf]; omega⟩
          rw [take_succ_snoc hlt, take_succ_snoc hlt2, Hno.out, He.out]
        · have hdd : decide (l[k] = l2[k]) = false := by simpa using he
          rw [hdd]
          have He := Lib.hid he; clear he hdd
          go_wp2_with fail
          go_ret
          refine ⟨?_, hBe⟩
          have : ¬ l = l2 := fun e => He.out (by subst e; rfl)
          simp [this]
      · obtain rfl : k = l.length := by omega
        go_wp2_with fail
        go_ret
        refine ⟨?_, hB⟩
        have : l = l2 := by have := Hno.out; have hn := Hn.out; rw [List.take_length] at this; rw [this, hn, List.take_length]
        simp [this]
  · have hd : ((l.length : Int) != (l2.length : Int)) = true := by simp; omega
    have Hn := Lib.hid hn
    clear hn
    go_enter Try.func68, Try.ntmps68
    go_wp2_with fail
    go_ret
    have : ¬ l = l2 := fun e => Hn.out (by rw [e])
    exact ⟨by simp [this], Below.refl _ _⟩

section
attribute [local go_sem] undef
set_option maxRecDepth 100000 in
set_option maxHeartbeats 1000000 in
theorem same_pic (p q : Pic) (v u : Value) (w : World) (hp : PicC w v p) (hq : PicC w u q) (hn : PicOk p) :
    Calls Try.prog 31 #[v, u] w fun e w' => e = .returned (.bool (decide (p = q))) ∧ Below w.heap.size w w' := by
  obtain ⟨Ax, cx, Fa, cf, rfl, hx, hf⟩ := hp
  obtain ⟨Ax2, cx2, Fa2, cf2, rfl, hx2, hf2⟩ := hq
  have hB := below_alloc (below_alloc (Below.refl _ w) (.cells #[.int .i64 p.size, .slice Ax p.fixed.length cx, .slice Fa p.files.length cf] 25)) (.cells #[.int .i64 q.size, .slice Ax2 q.fixed.length cx2, .slice Fa2 q.files.length cf2] 25)
  have hbx := heap_alloc_old' (World.alloc_heap_new w (.cells #[.int .i64 p.size, .slice Ax p.fixed.length cx, .slice Fa p.files.length cf] 25)) (.cells #[.int .i64 q.size, .slice Ax2 q.fixed.length cx2, .slice Fa2 q.files.length cf2] 25)
  have hby := heap_new (w.alloc (.cells #[.int .i64 p.size, .slice Ax p.fixed.length cx, .slice Fa p.files.length cf] 25)) (.cells #[.int .i64 q.size, .slice Ax2 q.fixed.length cx2, .slice Fa2 q.files.length cf2] 25) (n := w.heap.size + 1) (by simp)
  have h1 := hx.below hB
  have h2 := hx2.below hB
  have h3 := hf.below hB
  have h4 := hf2.below hB
  obtain ⟨n1, n2, n3⟩ := hn
  have hd : decide (p = q) = (decide (p.size = q.size) && (decide (p.fixed = q.fixed) && decide (p.files = q.files))) := by
    rw [Bool.eq_iff_iff]; simp [pic_eq]
  have Hd := Lib.hid hd; have Hbx := Lib.hid hbx; have Hby := Lib.hid hby; have N3 := Lib.hid n3
  clear hd hbx hby n3
  by_cases hs : p.size = q.size
  rotate_left
  · have d1 : (p.size == q.size) = false := by simpa using hs
    have d2 : decide (p.size = q.size) = false := by simpa using hs
    have Hb := Lib.hid (show decide (p = q) = false by rw [Hd.out, d2, Bool.false_and])
    clear hs d2
    go_enter Try.func31, Try.ntmps31
    go_wp2_with fail
    go_ret
    exact ⟨by rw [Hb.out]; rfl, hB⟩
  have d1 : (p.size == q.size) = true := by simpa using hs
  have d2 : decide (p.size = q.size) = true := by simpa using hs
  have D2 := Lib.hid d2
  clear hs d2
  go_enter Try.func31, Try.ntmps31
  go_wp2_with fail
  refine (equalE_any _ _ _ _ _ _ _ n1 h1 h2).mono ?_
  rintro e w1 ⟨rfl, hB1⟩
  have hBw := below_then hB hB1
  have q1 := cell_at (block_below Hbx.out hB1) 2; have q2 := cell_at (block_below Hby.out hB1) 2
  simp only [List.getElem?_toArray, List.getElem?_cons_zero, List.getElem?_cons_succ] at q1 q2
  by_cases hf : p.fixed = q.fixed
  rotate_left
  · have d3 : decide (p.fixed = q.fixed) = false := by simpa using hf
    have Hb := Lib.hid (show decide (p = q) = false by rw [Hd.out, D2.out, d3]; rfl)
    rw [d3]
    clear hf d3
    go_wp2_with fail
    go_ret
    exact ⟨by rw [Hb.out]; rfl, hBw⟩
  have d3 : decide (p.fixed = q.fixed) = true := by simpa using hf
  have Hb := Lib.hid (show decide (p = q) = decide (p.files = q.files) by rw [Hd.out, D2.out, d3, Bool.true_and, Bool.true_and])
  rw [d3]
  clear hf d3
  go_wp2_with fail
  refine (equalFunc_any _ _ _ _ _ _ _ n2 N3.out (h3.below hB1) (h4.below hB1)).mono ?_
  rintro e w2 ⟨rfl, hB2⟩
  have hBz := below_then hBw hB2
  obtain ⟨b, hb⟩ : ∃ b, decide (p.files = q.files) = b := ⟨_, rfl⟩
  rw [hb] at Hb ⊢
  clear hb
  go_wp2_with fail
  go_ret
  exact ⟨by rw [Hb.out]; rfl, hBz⟩
end
end Go.Proofs.Yteipclnlfanfeaa
