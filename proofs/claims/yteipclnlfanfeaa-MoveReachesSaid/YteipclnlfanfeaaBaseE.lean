/- MoveP, MoveQ in one text. -/
import Derived.Test.YteipclnlfanfeaaBaseD
set_option linter.unusedVariables false
set_option linter.unusedSimpArgs false
/- move: a step more in the list. -/
namespace Go.Proofs.Yteipclnlfanfeaa
open Go.RowKit

theorem run_exec_append {P : Program} {w w' : World} {o : Oper} {a : Act} {s x : Operand} {t : TypeId} {v : Value} (ho : o.op = .call { callee := .builtin .append, args := #[s, x], argTypes := #[t, t] })
    (hr : (Builtin.append_ #[t, t] o.type #[a.eval s, a.eval x]).run P w = .ok v w') : (execOp a.eval o).run P w = .ok (.value v) w' := by
  unfold execOp
  simp only [ho, resolve, invoke, builtin, Sem.run_bind, Sem.run_pure, Result.andThen_ok, List.map_toArray, List.map_cons, List.map_nil, hr]

theorem wpOpIn_value {F : Fence} {n : Nat} {P : Program} {ops : Array Oper} {Q : Exit → Act → World → Prop} {i : Nat} {o : Oper} {v : Value} {a : Act} {w w' : World} {K : Act → World → Prop} (hro : F.round = none) (hi : ops[i]? = some o)
    (hwt : Region.wanted o (yielded ops a.tmps) = true) (hab : o.about P w a.eval = none) (hr : (execOp a.eval o).run P w = .ok (.value v) w') (h : K (a.put o.dst v) w') : wpOpIn F n P ops Q i K a w := by
  unfold Go.wpOpIn
  simp only [hi]
  have hab' : ∀ f, o.about P w a.eval = some f → F.fn f := fun f hf => by rw [hab] at hf; cases hf
  simp only [hwt, if_true, Oper.wpIn, hro, Oper.semAt_none, hr, Oper.uponIn]
  exact ⟨hab', h⟩

theorem info35 : (Try.prog.info? 35).map (fun i => (i.zero, i.size, i.bytes)) = some (some (.agg #[.int .i64 0, .int .i64 0, .int .i64 0, .int .i64 0]), 4, 32) := by kernel_rfl

theorem SpC.addStep {n0 P F T : Nat} {s : Spc} {w w9 : World} (h : SpC n0 P F T s w) {st v' : Value} (hst : w.cell? ⟨P, 4, none⟩ = some st) (x : Step)
    (hown : w9.ownsRow n0 35 4 v' (s.steps.length + 1) (flatS s.steps ++ flatS [x])) (hg : w.grownBy w9 st.ownBlock) :
    SpC n0 P F T ⟨s.pic, s.tk, s.steps ++ [x]⟩ (w9.setCell ⟨P, 4, none⟩ v') ∧ FrS n0 P F T w (w9.setCell ⟨P, 4, none⟩ v') := by
  obtain ⟨a1, a2, a3, Ax, cx, Fa, cf, cT, st0, h1, h2, h3, h4, h5⟩ := h
  have hst0 : st0 = st := by
    have : w.cell? ⟨P, 4, none⟩ = some st0 := by simp [World.cell?, h1]
    rw [this] at hst; cases hst; rfl
  subst hst0
  have hrow : ∀ q, st0.ownBlock = some q → n0 ≤ q ∧ ∃ c, w.heap[q]? = some (.cells c 35 (0, 0)) := by
    intro q hq
    rcases h5.2 with ⟨rfl, _⟩ | ⟨g, cap, cur, rfl, hb, hgg, _⟩
    · simp [Value.ownBlock] at hq
    · simp [Value.ownBlock] at hq; subst hq; exact ⟨hb, cur, hgg⟩
  have k9 : ∀ (q : Nat) (o : Obj), w.heap[q]? = some o → (∀ c f, o ≠ .cells c 35 f) → w9.heap[q]? = some o := by
    intro q o hq hne
    refine (hg.block q (Array.getElem?_eq_some_iff.1 hq).1 (fun e => ?_)).trans hq
    obtain ⟨_, c, hc⟩ := hrow q e.symm
    rw [hq] at hc; cases hc; exact hne _ _ rfl
  have k9c : ∀ (q : Nat) c t f, w.heap[q]? = some (.cells c t f) → t ≠ 35 → w9.heap[q]? = some (.cells c t f) := fun q c t f hq ht => k9 q _ hq (fun c' f' e => by cases e; exact ht rfl)
  have hP9 := k9c _ _ _ _ h1 (by decide)
  have kk : ∀ (q : Nat) c t f, w.heap[q]? = some (.cells c t f) → t ≠ 35 → t ≠ 72 → (w9.setCell ⟨P, 4, none⟩ v').heap[q]? = some (.cells c t f) := fun q c t f hq ht ht2 =>
    (Below.heap_setCell _ _ _ _ (fun e => by dsimp only at e; subst e; rw [h1] at hq; cases hq; exact ht2 rfl)).trans (k9c q c t f hq ht)
  refine ⟨⟨a1, a2, a3, Ax, cx, Fa, cf, cT, v', ?_, h2.kept (fun _ _ _ hq => kk _ _ _ _ hq (by decide) (by decide)), h3.kept (fun _ _ _ hq => kk _ _ _ _ hq (by decide) (by decide)) (fun _ _ hq => kk _ _ _ _ hq (by decide) (by decide)), kk _ _ _ _ h4 (by decide) (by decide), ?_⟩, ?_, ?_⟩
  · rw [heap_setCell_at hP9]; simp
  · rw [flatS_append, List.length_append, List.length_singleton]
    refine ownsRow_kept hown (fun q c f hq => (Below.heap_setCell _ _ _ _ (fun e => ?_)).trans hq)
    dsimp only at e; subst e; rw [hP9] at hq; cases hq
  · exact ((Below.refl n0 w).grown hg (by have := (Array.getElem?_eq_some_iff.1 h1).1; omega) (fun q e => (hrow q e).1)).setCell (p := ⟨P, 4, none⟩) a1 _
  · intro q o hq hP _ _ hne
    exact (Below.heap_setCell _ _ _ _ hP).trans (k9 q o hq hne)

end Go.Proofs.Yteipclnlfanfeaa

/- move: apply. -/
namespace Go.Proofs.Yteipclnlfanfeaa
open Go.RowKit

/-- a space whose files are right -/
def Good (s : Spc) : Prop :=
  0 ≤ s.pic.size ∧ s.pic.size ≤ 1000000 ∧ s.tk.length = s.pic.size.toNat ∧ s.pic.files.length ≤ 1048576 ∧ s.steps.length ≤ 1099511627776 ∧
  ∀ f ∈ s.pic.files, mustE f.runs = 0 ∧ normL f.runs = f.runs ∧ ∀ r ∈ f.runs, r.to = -1 ∨ (3 ≤ r.to ∧ r.to + r.many ≤ s.pic.size)

def freeB (tk : List Bool) (a n : Nat) : Bool := (List.range n).all fun k => tk[a + k]? == some false

def setRuns (l : List Fil) (i : Nat) (r : List Run) : List Fil := match l[i]? with
  | some f => l.set i ⟨f.no, r⟩
  | none => l

/-- the files' runs that a step speaks of -/
def runsOf (l : List Fil) (i : Nat) : List Run := match l[i]? with
  | some f => f.runs
  | none => []

/-- a step on a space; the error, if it cannot be made -/
def applyL (s : Spc) (x : Step) : Except Int Spc :=
  if ¬ 0 ≤ fileI s.pic.files x.no then .error 3 else
  if ¬ (1 ≤ x.many ∧ 0 ≤ x.from_) then .error 1 else
  match mapL (runsOf s.pic.files (fileI s.pic.files x.no).toNat) x.from_ with
  | none => .error 1
  | some (f, m) =>
    if ¬ (f ≠ -1 ∧ x.many ≤ m) then .error 1 else
    if ¬ (3 ≤ x.to ∧ x.to ≤ s.pic.size - x.many) then .error 1 else
    if freeB s.tk x.to.toNat x.many.toNat = false then .error 13 else
    if ¬ ((putX (runsOf s.pic.files (fileI s.pic.files x.no).toNat) x.from_ [⟨x.to, x.many⟩]).length ≤ 2000 ∧ pagesL (putX (runsOf s.pic.files (fileI s.pic.files x.no).toNat) x.from_ [⟨x.to, x.many⟩]) ≤ 1073741824) then .error 1 else
    match takeL s.tk x.to.toNat true x.many.toNat with
    | none => .error 9
    | some t =>
      match takeL t f.toNat false x.many.toNat with
      | none => .error 9
      | some t' => .ok ⟨⟨s.pic.size, s.pic.fixed, setRuns s.pic.files (fileI s.pic.files x.no).toNat (putX (runsOf s.pic.files (fileI s.pic.files x.no).toNat) x.from_ [⟨x.to, x.many⟩])⟩, t', s.steps ++ [x]⟩

def ApplyPost (n0 P F T : Nat) (s : Spc) (x : Step) (w : World) (e : Ending) (w' : World) : Prop :=
  ((∃ s', applyL s x = .ok s' ∧ e = .returned (.tuple #[]) ∧ SpC n0 P F T s' w') ∨ (∃ er, applyL s x = .error er ∧ e = faulted 110 er)) ∧ FrS n0 P F T w w'


abbrev stR (s : Spc) (x : Step) : List Run := runsOf s.pic.files (fileI s.pic.files x.no).toNat
abbrev stX (s : Spc) (x : Step) : List Run := putX (stR s x) x.from_ [⟨x.to, x.many⟩]
section
variable {s : Spc} {x : Step} {f m : Int} {t t' : List Bool}
theorem ap1 (h : ¬ 0 ≤ fileI s.pic.files x.no) : applyL s x = .error 3 := by rw [applyL, if_pos h]
theorem ap2 (h : 0 ≤ fileI s.pic.files x.no) (h2 : ¬ (1 ≤ x.many ∧ 0 ≤ x.from_)) : applyL s x = .error 1 := by rw [applyL, if_neg (fun e => e h), if_pos h2]
theorem ap3 (h : 0 ≤ fileI s.pic.files x.no) (h2 : 1 ≤ x.many ∧ 0 ≤ x.from_) (h3 : mapL (stR s x) x.from_ = none) : applyL s x = .error 1 := by
  rw [applyL, if_neg (fun e => e h), if_neg (fun e => e h2), h3]
theorem ap4 (h : 0 ≤ fileI s.pic.files x.no) (h2 : 1 ≤ x.many ∧ 0 ≤ x.from_) (h3 : mapL (stR s x) x.from_ = some (f, m)) (h4 : ¬ (f ≠ -1 ∧ x.many ≤ m)) : applyL s x = .error 1 := by
  rw [applyL, if_neg (fun e => e h), if_neg (fun e => e h2), h3]; simp only; rw [if_pos h4]
theorem ap5 (h : 0 ≤ fileI s.pic.files x.no) (h2 : 1 ≤ x.many ∧ 0 ≤ x.from_) (h3 : mapL (stR s x) x.from_ = some (f, m)) (h4 : f ≠ -1 ∧ x.many ≤ m) (h5 : ¬ (3 ≤ x.to ∧ x.to ≤ s.pic.size - x.many)) : applyL s x = .error 1 := by
  rw [applyL, if_neg (fun e => e h), if_neg (fun e => e h2), h3]; simp only; rw [if_neg (fun e => e h4), if_pos h5]
theorem ap6 (h : 0 ≤ fileI s.pic.files x.no) (h2 : 1 ≤ x.many ∧ 0 ≤ x.from_) (h3 : mapL (stR s x) x.from_ = some (f, m)) (h4 : f ≠ -1 ∧ x.many ≤ m) (h5 : 3 ≤ x.to ∧ x.to ≤ s.pic.size - x.many) (h6 : freeB s.tk x.to.toNat x.many.toNat = false) : applyL s x = .error 13 := by
  rw [applyL, if_neg (fun e => e h), if_neg (fun e => e h2), h3]; simp only; rw [if_neg (fun e => e h4), if_neg (fun e => e h5), if_pos h6]
theorem ap7 (h : 0 ≤ fileI s.pic.files x.no) (h2 : 1 ≤ x.many ∧ 0 ≤ x.from_) (h3 : mapL (stR s x) x.from_ = some (f, m)) (h4 : f ≠ -1 ∧ x.many ≤ m) (h5 : 3 ≤ x.to ∧ x.to ≤ s.pic.size - x.many) (h6 : freeB s.tk x.to.toNat x.many.toNat = true)
    (h7 : ¬ fitsB (stX s x)) : applyL s x = .error 1 := by
  unfold fitsB at h7; rw [applyL, if_neg (fun e => e h), if_neg (fun e => e h2), h3]; simp only; rw [if_neg (fun e => e h4), if_neg (fun e => e h5), if_neg (by rw [h6]; decide), if_pos h7]
theorem ap8 (h : 0 ≤ fileI s.pic.files x.no) (h2 : 1 ≤ x.many ∧ 0 ≤ x.from_) (h3 : mapL (stR s x) x.from_ = some (f, m)) (h4 : f ≠ -1 ∧ x.many ≤ m) (h5 : 3 ≤ x.to ∧ x.to ≤ s.pic.size - x.many) (h6 : freeB s.tk x.to.toNat x.many.toNat = true)
    (h7 : fitsB (stX s x)) (h8 : takeL s.tk x.to.toNat true x.many.toNat = none) : applyL s x = .error 9 := by
  unfold fitsB at h7
  rw [applyL, if_neg (fun e => e h), if_neg (fun e => e h2), h3]; simp only; rw [if_neg (fun e => e h4), if_neg (fun e => e h5), if_neg (by rw [h6]; decide), if_neg (fun e => e h7), h8]
theorem ap9 (h : 0 ≤ fileI s.pic.files x.no) (h2 : 1 ≤ x.many ∧ 0 ≤ x.from_) (h3 : mapL (stR s x) x.from_ = some (f, m)) (h4 : f ≠ -1 ∧ x.many ≤ m) (h5 : 3 ≤ x.to ∧ x.to ≤ s.pic.size - x.many) (h6 : freeB s.tk x.to.toNat x.many.toNat = true)
    (h7 : fitsB (stX s x)) (h8 : takeL s.tk x.to.toNat true x.many.toNat = some t) (h9 : takeL t f.toNat false x.many.toNat = none) : applyL s x = .error 9 := by
  unfold fitsB at h7
  rw [applyL, if_neg (fun e => e h), if_neg (fun e => e h2), h3]; simp only; rw [if_neg (fun e => e h4), if_neg (fun e => e h5), if_neg (by rw [h6]; decide), if_neg (fun e => e h7), h8]; simp only; rw [h9]
theorem ap10 (h : 0 ≤ fileI s.pic.files x.no) (h2 : 1 ≤ x.many ∧ 0 ≤ x.from_) (h3 : mapL (stR s x) x.from_ = some (f, m)) (h4 : f ≠ -1 ∧ x.many ≤ m) (h5 : 3 ≤ x.to ∧ x.to ≤ s.pic.size - x.many) (h6 : freeB s.tk x.to.toNat x.many.toNat = true)
    (h7 : fitsB (stX s x)) (h8 : takeL s.tk x.to.toNat true x.many.toNat = some t) (h9 : takeL t f.toNat false x.many.toNat = some t') : applyL s x = .ok ⟨⟨s.pic.size, s.pic.fixed, setRuns s.pic.files (fileI s.pic.files x.no).toNat (stX s x)⟩, t', s.steps ++ [x]⟩ := by
  unfold fitsB at h7
  rw [applyL, if_neg (fun e => e h), if_neg (fun e => e h2), h3]; simp only; rw [if_neg (fun e => e h4), if_neg (fun e => e h5), if_neg (by rw [h6]; decide), if_neg (fun e => e h7), h8]; simp only; rw [h9]
end


theorem find_startsL {a page : Int} {l : List Run} (ha : a ≤ page) {x : Int × Run} (h : (startsL a l).find? (fun x => decide (page < x.1 + x.2.many)) = some x) : x.1 ≤ page ∧ page < x.1 + x.2.many ∧ x.2 ∈ l := by
  induction l generalizing a with
  | nil => simp [startsL] at h
  | cons r l ih =>
    simp only [startsL, List.find?_cons] at h
    by_cases hp : page < a + r.many
    · simp only [hp, decide_true] at h; cases h; exact ⟨ha, hp, by simp⟩
    · simp only [hp, decide_false] at h
      obtain ⟨h1, h2, h3⟩ := ih (by omega) h
      exact ⟨h1, h2, by simp [h3]⟩

theorem mapL_spec {R : List Run} {page f m : Int} (hm : mustE R = 0) (hn : normL R = R) (hp : 0 ≤ page) (h : mapL R page = some (f, m)) :
    ∃ r ∈ R, 1 ≤ m ∧ m ≤ r.many ∧ page < pagesL R ∧ page + m ≤ pagesL R ∧ ((r.to = -1 ∧ f = -1) ∨ (r.to ≠ -1 ∧ r.to ≤ f ∧ f + m = r.to + r.many)) := by
  unfold mapL at h
  rw [hn] at h
  cases hx : (startsL 0 R).find? (fun x => decide (page < x.1 + x.2.many)) with
  | none => rw [hx] at h; cases h
  | some x =>
    rw [hx] at h
    obtain ⟨h1, h2, h3⟩ := find_startsL hp hx
    have h4 := startsL_end (fun r hr => by have := (mustE_zero hm).2.1 r hr; omega) (List.mem_of_find?_eq_some hx)
    simp only [Option.map_some, mapR, Option.some.injEq, Prod.mk.injEq] at h
    obtain ⟨rfl, rfl⟩ := h
    refine ⟨x.2, h3, by omega, by omega, by omega, by omega, ?_⟩
    by_cases ht : x.2.to = -1
    · exact .inl ⟨ht, by rw [if_pos ht]⟩
    · exact .inr ⟨ht, by rw [if_neg ht]; omega, by rw [if_neg ht]; omega⟩

theorem freeB_succ (tk : List Bool) (a n : Nat) : freeB tk a (n + 1) = (freeB tk a n && (tk[a + n]? == some false)) := by
  simp [freeB, List.range_succ]
theorem freeB_false {tk : List Bool} {a n k : Nat} (hk : k < n) (h : tk[a + k]? ≠ some false) : freeB tk a n = false := by
  cases hb : freeB tk a n with
  | false => rfl
  | true =>
    have := List.all_eq_true.1 hb k (List.mem_range.2 hk)
    simp at this; exact absurd this h

/-- the runs of one file are changed -/
theorem SpC.putRuns {n0 P F T : Nat} {s : Spc} {w : World} (h : SpC n0 P F T s w) {k : Nat} (hk : k < s.pic.files.length) {A : Option Addr} {c : Nat} {X : List Run} (hX : RunsT w A X) :
    SpC n0 P F T ⟨⟨s.pic.size, s.pic.fixed, setRuns s.pic.files k X⟩, s.tk, s.steps⟩ (w.setCell ⟨F, k * 2 + 1, none⟩ (.slice A X.length c)) ∧ FrS n0 P F T w (w.setCell ⟨F, k * 2 + 1, none⟩ (.slice A X.length c)) := by
  obtain ⟨a1, a2, a3, Ax, cx, Fa, cf, cT, st, h1, h2, h3, h4, h5⟩ := h
  rcases h3 with h3 | ⟨hFa, vs, hF, hvs⟩
  · rw [h3] at hk; simp at hk
  have hne : ∀ (q : Nat) c' t' f', w.heap[q]? = some (.cells c' t' f') → t' ≠ 46 → (w.setCell ⟨F, k * 2 + 1, none⟩ (.slice A X.length c)).heap[q]? = some (.cells c' t' f') := fun q c' t' f' hq hne =>
    (Below.heap_setCell _ _ _ _ (fun e => by dsimp only at e; subst e; rw [hF] at hq; cases hq; exact hne rfl)).trans hq
  have hsr : setRuns s.pic.files k X = s.pic.files.set k ⟨s.pic.files[k].no, X⟩ := by simp [setRuns, List.getElem?_eq_getElem hk]
  have hk52 : ∀ (q : Nat) c' f', w.heap[q]? = some (.cells c' 52 f') → (w.setCell ⟨F, k * 2 + 1, none⟩ (.slice A X.length c)).heap[q]? = some (.cells c' 52 f') := fun q c' f' hq => by
    exact (Below.heap_setCell _ _ _ _ (fun e => by dsimp only at e; subst e; rw [hF] at hq; cases hq)).trans hq
  refine ⟨⟨a1, a2, a3, Ax, cx, Fa, cf, cT, st, ?_, h2.kept (fun _ _ _ hq => hne _ _ _ _ hq (by decide)), ?_, hne _ _ _ _ h4 (by decide), ownsRow_kept h5 (fun _ _ _ hq => hne _ _ _ _ hq (by decide))⟩, ?_⟩
  · rw [hsr]; simpa using hne _ _ _ _ h1 (by decide)
  · rw [hsr]
    refine .inr ⟨hFa, _, heap_setCell_at hF _, fun j hj => ?_⟩
    have hj' : j < s.pic.files.length := by simpa using hj
    obtain ⟨g1, A', c', g2, g3⟩ := hvs j hj'
    by_cases e : k = j
    · subst e
      have hsz : k * 2 + 1 < vs.size := (Array.getElem?_eq_some_iff.1 g2).1
      refine ⟨?_, A, c, ?_, ?_⟩
      · rw [Array.getElem?_setIfInBounds, if_neg (by omega)]; simpa using g1
      · rw [Array.getElem?_setIfInBounds, if_pos rfl, if_pos hsz]; simp
      · simpa using hX.kept (hk52 · · ·)
    · refine ⟨?_, A', c', ?_, ?_⟩
      · rw [Array.getElem?_setIfInBounds, if_neg (by omega)]; simpa [List.getElem_set, e] using g1
      · rw [Array.getElem?_setIfInBounds, if_neg (by omega)]; simpa [List.getElem_set, e] using g2
      · simpa [List.getElem_set, e] using g3.kept (hk52 · · ·)
  · exact ⟨(Below.refl _ _).setCell (p := ⟨F, k * 2 + 1, none⟩) a2 _, fun q o hq _ hF' _ _ => (Below.heap_setCell _ _ _ _ hF').trans hq⟩

theorem OnlyT.cell {T : Nat} {w w' : World} (h : OnlyT T w w') {b o : Nat} (hb : b ≠ T) {v : Value} (hc : w.cell? ⟨b, o, none⟩ = some v) : w'.cell? ⟨b, o, none⟩ = some v := by
  cases hh : w.heap[b]? with
  | none => simp [World.cell?, hh] at hc
  | some ob =>
    have h2 := h b ob hh hb
    rw [World.cell?_of_block (w := w) (w' := w') (a := ⟨b, o, none⟩) (by dsimp only; rw [h2, hh])]
    exact hc

/-- the cells that a step reads -/
structure ApC (P F T b k cf cT c' : Nat) (A' : Option Addr) (st : Value) (s : Spc) (x : Step) (R : List Run) (W : World) : Prop where
  p0 : W.cell? ⟨P, 0, none⟩ = some (.int .i64 s.pic.size)
  p2 : W.cell? ⟨P, 2, none⟩ = some (.slice (some ⟨F, 0, none⟩) s.pic.files.length cf)
  p3 : W.cell? ⟨P, 3, none⟩ = some (.slice (some ⟨T, 0, none⟩) s.tk.length cT)
  b0 : W.cell? ⟨b, 0, none⟩ = some (.int .i64 x.no)
  b1 : W.cell? ⟨b, 1, none⟩ = some (.int .i64 x.from_)
  b2 : W.cell? ⟨b, 2, none⟩ = some (.int .i64 x.to)
  b3 : W.cell? ⟨b, 3, none⟩ = some (.int .i64 x.many)
  f1 : W.cell? ⟨F, k * 2 + 1, none⟩ = some (.slice A' R.length c')
  p4 : W.cell? ⟨P, 4, none⟩ = some st
theorem ApC.below {P F T b k cf cT c' : Nat} {A' : Option Addr} {st : Value} {s : Spc} {x : Step} {R : List Run} {W W' : World} (h : ApC P F T b k cf cT c' A' st s x R W) (hB : Below W.heap.size W W') : ApC P F T b k cf cT c' A' st s x R W' :=
  ⟨cell_below h.p0 hB, cell_below h.p2 hB, cell_below h.p3 hB, cell_below h.b0 hB, cell_below h.b1 hB, cell_below h.b2 hB, cell_below h.b3 hB, cell_below h.f1 hB, cell_below h.p4 hB⟩

set_option maxRecDepth 100000 in
set_option maxHeartbeats 4000000 in
theorem apply_any (n0 P F T : Nat) (s : Spc) (x : Step) (w : World) (hg : Good s) (hs : SpC n0 P F T s w) :
    Calls Try.prog 38 #[.pointer (some ⟨P, 0, none⟩), .agg #[.int .i64 x.no, .int .i64 x.from_, .int .i64 x.to, .int .i64 x.many]] w (ApplyPost n0 P F T s x w) := by
  obtain ⟨w1, hw1⟩ : ∃ w1, w.alloc (.cells #[.int .i64 x.no, .int .i64 x.from_, .int .i64 x.to, .int .i64 x.many] 35) = w1 := ⟨_, rfl⟩
  obtain ⟨b, hb0⟩ : ∃ b, w.heap.size = b := ⟨_, rfl⟩
  have hmx : Try.prog.follows .mixedOrders = true := by kernel_rfl
  have hB1 : Below w.heap.size w w1 := by rw [← hw1]; exact below_alloc (Below.refl _ _) _
  have hbox : w1.heap[b]? = some (.cells #[.int .i64 x.no, .int .i64 x.from_, .int .i64 x.to, .int .i64 x.many] 35 (0, 0)) := by rw [← hw1, ← hb0]; exact World.alloc_heap_new w _
  have hs1 := hs.below hB1
  have hF1 : FrS n0 P F T w w1 := (FrS.refl _ _ _ _ _).below hB1 (by have := hs.1; obtain ⟨_, _, _, Ax, cx, Fa, cf, cT, st, hP, _⟩ := hs; have := lt_of_block hP; omega)
  obtain ⟨Ax, cx, Fa, cf, cT, st, p0, p1, p2, p3, p4, hX, hFil, hst⟩ := hs1.cellP
  have b0 := cell_at hbox 0; have b1 := cell_at hbox 1; have b2 := cell_at hbox 2; have b3 := cell_at hbox 3
  simp only [List.getElem?_toArray, List.getElem?_cons_zero, List.getElem?_cons_succ] at b0 b1 b2 b3
  have Hg := Lib.hid hg; have Hs := Lib.hid hs; have Hs1 := Lib.hid hs1; have HF1 := Lib.hid hF1; have HX := Lib.hid hX; have HFil := Lib.hid hFil; have Hst := Lib.hid hst; have Hbox := Lib.hid hbox
  clear hg hs hs1 hF1 hX hFil hst hbox
  have hn0 : n0 ≤ w1.heap.size := by have h1 := Hs1.out.1; obtain ⟨_, _, _, Ax, cx, Fa, cf, cT, st, hP, _⟩ := Hs1.out; have := lt_of_block hP; omega
  have hstb : ∀ q, st.ownBlock = some q → q < b := by
    obtain ⟨_, _, _, _, _, st', -, -, -, -, p4', -, -, ho⟩ := Hs.out.cellP
    have h1 := cell_below p4' hB1
    rw [p4] at h1; cases h1
    intro q hq
    have := (ho.lt q hq).2
    omega
  have hfl : s.pic.files.length ≤ 1099511627776 := by have := Hg.out.2.2.2.1; omega
  go_enter Try.func38, Try.ntmps38
  go_wp2_with fail
  have HB1 := Lib.hid hB1; have Hw1 := Lib.hid hw1; have Hb0 := Lib.hid hb0
  clear hB1 hw1 hb0
  refine wp_region_anyL (L := 10) (C := fun W' => W'.cell? ⟨P, 2, none⟩ = some (.slice Fa s.pic.files.length cf) ∧ W'.cell? ⟨b, 0, none⟩ = some (.int .i64 x.no)) hmx ?_
  have hCw : (fun W' : World => W'.cell? ⟨P, 2, none⟩ = some (.slice Fa s.pic.files.length cf) ∧ W'.cell? ⟨b, 0, none⟩ = some (.int .i64 x.no)) w1.drew := ⟨p2, b0⟩
  refine anyL_take (i := 0) ?v0 rfl rfl (by kernel_rfl) (by kernel_rfl) (by kernel_rfl) (by kernel_rfl) (by kernel_rfl) (fun _ _ _ h => h) hCw ⟨.inl ⟨by kernel_rfl, fun W' hW' => ?y0⟩, fun _ => rfl⟩ ?_
  case y0 => (obtain ⟨q0, q1⟩ := hW'; go_simp; rfl)
  simp only [Act.put, List.setIfInBounds_toArray, List.set_cons_succ, List.set_cons_zero]
  refine anyL_take (i := 1) ?v1 rfl rfl (by kernel_rfl) (by kernel_rfl) (by kernel_rfl) (by kernel_rfl) (by kernel_rfl) (fun _ _ _ h => h) hCw ⟨.inl ⟨by kernel_rfl, fun W' hW' => ?y1⟩, fun _ => rfl⟩ ?_
  case y1 => (obtain ⟨q0, q1⟩ := hW'; go_simp; rfl)
  simp only [Act.put, List.setIfInBounds_toArray, List.set_cons_succ, List.set_cons_zero]
  refine anyL_take (i := 2) ?v2 rfl rfl (by kernel_rfl) (by kernel_rfl) (by kernel_rfl) (by kernel_rfl) (by kernel_rfl) (fun _ _ _ h => h) hCw ⟨.inl ⟨by kernel_rfl, fun W' hW' => ?y2⟩, fun _ => rfl⟩ ?_
  case y2 => (obtain ⟨q0, q1⟩ := hW'; go_simp; rfl)
  simp only [Act.put, List.setIfInBounds_toArray, List.set_cons_succ, List.set_cons_zero]
  refine anyL_take (i := 3) ?v3 rfl rfl (by kernel_rfl) (by kernel_rfl) (by kernel_rfl) (by kernel_rfl) (by kernel_rfl) (fun _ _ _ h => h) hCw ⟨.inl ⟨by kernel_rfl, fun W' hW' => ?y3⟩, fun _ => rfl⟩ ?_
  case y3 => (obtain ⟨q0, q1⟩ := hW'; go_simp; rfl)
  simp only [Act.put, List.setIfInBounds_toArray, List.set_cons_succ, List.set_cons_zero]
  refine anyL_take (i := 4) ?v4 rfl rfl (by kernel_rfl) (by kernel_rfl) (by kernel_rfl) (by kernel_rfl) (by kernel_rfl) (fun _ _ _ h => h) hCw ⟨.inl ⟨by kernel_rfl, fun W' hW' => ?y4⟩, fun _ => rfl⟩ ?_
  case y4 => (obtain ⟨q0, q1⟩ := hW'; go_simp; rfl)
  simp only [Act.put, List.setIfInBounds_toArray, List.set_cons_succ, List.set_cons_zero]
  refine anyL_take (i := 5) ?v5 rfl rfl (by kernel_rfl) (by kernel_rfl) (by kernel_rfl) (by kernel_rfl) (by kernel_rfl) (fun _ _ _ h => h) hCw ⟨.inl ⟨by kernel_rfl, fun W' hW' => ?y5⟩, fun _ => rfl⟩ ?_
  case y5 => (obtain ⟨q0, q1⟩ := hW'; go_simp; rfl)
  simp only [Act.put, List.setIfInBounds_toArray, List.set_cons_succ, List.set_cons_zero]
  refine anyL_take (i := 6) ?v6 rfl rfl (by kernel_rfl) (by kernel_rfl) (by kernel_rfl) (by kernel_rfl) (by kernel_rfl) (fun _ _ _ h => h) hCw ⟨.inl ⟨by kernel_rfl, fun W' hW' => ?y6⟩, fun _ => rfl⟩ ?_
  case y6 => (obtain ⟨q0, q1⟩ := hW'; go_simp; rfl)
  simp only [Act.put, List.setIfInBounds_toArray, List.set_cons_succ, List.set_cons_zero]
  refine anyL_take (i := 7) ?v7 rfl rfl (by kernel_rfl) (by kernel_rfl) (by kernel_rfl) (by kernel_rfl) (by kernel_rfl) (fun _ _ _ h => h) hCw ⟨.inl ⟨by kernel_rfl, fun W' hW' => ?y7⟩, fun _ => rfl⟩ ?_
  case y7 => (obtain ⟨q0, q1⟩ := hW'; go_simp; rfl)
  simp only [Act.put, List.setIfInBounds_toArray, List.set_cons_succ, List.set_cons_zero]
  refine anyL_only (i := 8) (by kernel_rfl) (wpOpIn_step rfl (fun K' hK' => ?_))
  go_simp
  refine ⟨trivial, rfl, (callsIn_wide.2 (file_any n0 P F T s x.no _ (Hs1.out.below (Below.refl _ _).drew) hfl)).mono ?_⟩
  rintro e w2 ⟨⟨hi, rfl⟩ | ⟨hi, rfl⟩, hB2⟩
  rotate_left
  · exact ⟨rfl, .inr ⟨3, ap1 hi, rfl⟩, HF1.out.trans ((FrS.refl _ _ _ _ _).below (((Below.refl _ _).drew).trans hB2) hn0)⟩
  rcases fileI_spec s.pic.files x.no with ⟨hneg, -⟩ | ⟨k, hk, hik, hkno, hkmin⟩
  · omega
  rw [hik]
  have hFa : ∃ vs, Fa = some ⟨F, 0, none⟩ ∧ w1.heap[F]? = some (.cells vs 46 (0, 0)) ∧ ∀ j (h : j < s.pic.files.length), vs[j * 2]? = some (.int .i64 s.pic.files[j].no) ∧ ∃ A' c', vs[j * 2 + 1]? = some (.slice A' s.pic.files[j].runs.length c') ∧ RunsT w1 A' s.pic.files[j].runs := by
    rcases HFil.out with h0 | ⟨h1, vs, h2, h3⟩
    · rw [h0] at hk; simp at hk
    · exact ⟨vs, h1, h2, h3⟩
  obtain ⟨vs, rfl, hvs, hvs2⟩ := hFa
  obtain ⟨vk0, A', c', vk1, hRT⟩ := hvs2 k hk
  have hR : stR s x = s.pic.files[k].runs := by simp only [stR, hik, runsOf, Int.toNat_natCast, List.getElem?_eq_getElem hk]
  obtain ⟨R, hRd⟩ : ∃ R, s.pic.files[k].runs = R := ⟨_, rfl⟩
  rw [hRd] at hR hRT vk1
  have ha1 : ApC P F T b k cf cT c' A' st s x R w1 := ⟨p0, p2, p3, b0, b1, b2, b3, by simpa [World.cell?, hvs] using vk1, p4⟩
  have hBd2 : Below w1.heap.size w1 w2 := ((Below.refl _ _).drew).trans hB2
  have ha2 := ha1.below hBd2
  have hRT2 := hRT.kept (fun q c f hq => block_below hq hBd2)
  refine hK' _ _ ⟨fun _ => ⟨ha2.p2, ha2.b0⟩, ?_⟩
  clear hK' K'
  have hCw2 : (fun W' : World => W'.cell? ⟨P, 2, none⟩ = some (.slice (some ⟨F, 0, none⟩) s.pic.files.length cf) ∧ W'.cell? ⟨b, 0, none⟩ = some (.int .i64 x.no)) w2 := ⟨ha2.p2, ha2.b0⟩
  refine anyL_take (i := 9) ?v9 rfl rfl (by kernel_rfl) (by kernel_rfl) (by kernel_rfl) (by kernel_rfl) (by kernel_rfl) (fun _ _ _ h => h) hCw2 ⟨.inl ⟨by kernel_rfl, fun W' hW' => ?y9⟩, fun _ => rfl⟩ ?_
  case y9 => (obtain ⟨q0, q1⟩ := hW'; go_simp; rfl)
  simp only [Act.put, List.setIfInBounds_toArray, List.set_cons_succ, List.set_cons_zero]
  refine anyL_last (by kernel_rfl) (by kernel_rfl) (wpOpIn_step rfl (fun K' hK' => ?_))
  go_simp
  refine hK' _ _ ?_
  clear hK' K'
  have HFr2 := Lib.hid (HF1.out.below hBd2 hn0)
  have HRT2 := Lib.hid hRT2
  have HA2 := Lib.hid ha2
  have Hhi := Lib.hid hi
  obtain ⟨-, -, -, b0, b1, b2, b3, -⟩ := ha2
  clear hRT2 hRT ha1 hCw2 hCw hi p0 p1 p2 p3 p4
  by_cases m1 : 1 ≤ x.many
  rotate_left
  · have dm1 : decide (1 ≤ x.many) = false := by simpa using m1
    go_wp2_with (go_at_call 37; refine (need_no _ _).mono ?_; rintro e w' ⟨rfl, rfl⟩)
    exact ⟨rfl, .inr ⟨1, ap2 Hhi.out (fun h => by omega), rfl⟩, HFr2.out⟩
  have dm1 : decide (1 ≤ x.many) = true := by simpa using m1
  by_cases m2 : 0 ≤ x.from_
  rotate_left
  · have dm2 : decide (0 ≤ x.from_) = false := by simpa using m2
    go_wp2_with (go_at_call 37; refine (need_no _ _).mono ?_; rintro e w' ⟨rfl, rfl⟩)
    exact ⟨rfl, .inr ⟨1, ap2 Hhi.out (fun h => by omega), rfl⟩, HFr2.out⟩
  have dm2 : decide (0 ≤ x.from_) = true := by simpa using m2
  go_wp2_with (go_at_call 37; refine (need_yes _ _).mono ?_; rintro e w' ⟨rfl, rfl⟩)
  refine wp_region_anyL (L := 13) (C := fun W' => W'.cell? ⟨F, k * 2 + 1, none⟩ = some (.slice A' R.length c') ∧ W'.cell? ⟨b, 1, none⟩ = some (.int .i64 x.from_)) hmx ?_
  have hCw : (fun W' : World => W'.cell? ⟨F, k * 2 + 1, none⟩ = some (.slice A' R.length c') ∧ W'.cell? ⟨b, 1, none⟩ = some (.int .i64 x.from_)) w2.drew := ⟨HA2.out.f1, HA2.out.b1⟩
  refine anyL_take (i := 0) ?v0m rfl rfl (by kernel_rfl) (by kernel_rfl) (by kernel_rfl) (by kernel_rfl) (by kernel_rfl) (fun _ _ _ h => h) hCw ⟨.inl ⟨by kernel_rfl, fun W' hW' => ?y0m⟩, fun _ => rfl⟩ ?_
  case y0m => (obtain ⟨q0, q1⟩ := hW'; go_simp; rfl)
  simp only [Act.put, List.setIfInBounds_toArray, List.set_cons_succ, List.set_cons_zero]
  refine anyL_take (i := 1) ?v1m rfl rfl (by kernel_rfl) (by kernel_rfl) (by kernel_rfl) (by kernel_rfl) (by kernel_rfl) (fun _ _ _ h => h) hCw ⟨.inl ⟨by kernel_rfl, fun W' hW' => ?y1m⟩, fun _ => rfl⟩ ?_
  case y1m => (obtain ⟨q0, q1⟩ := hW'; go_simp; rfl)
  simp only [Act.put, List.setIfInBounds_toArray, List.set_cons_succ, List.set_cons_zero]
  refine anyL_take (i := 2) ?v2m rfl rfl (by kernel_rfl) (by kernel_rfl) (by kernel_rfl) (by kernel_rfl) (by kernel_rfl) (fun _ _ _ h => h) hCw ⟨.inl ⟨by kernel_rfl, fun W' hW' => ?y2m⟩, fun _ => rfl⟩ ?_
  case y2m => (obtain ⟨q0, q1⟩ := hW'; go_simp; rfl)
  simp only [Act.put, List.setIfInBounds_toArray, List.set_cons_succ, List.set_cons_zero]
  refine anyL_take (i := 3) ?v3m rfl rfl (by kernel_rfl) (by kernel_rfl) (by kernel_rfl) (by kernel_rfl) (by kernel_rfl) (fun _ _ _ h => h) hCw ⟨.inl ⟨by kernel_rfl, fun W' hW' => ?y3m⟩, fun _ => rfl⟩ ?_
  case y3m => (obtain ⟨q0, q1⟩ := hW'; go_simp; rfl)
  simp only [Act.put, List.setIfInBounds_toArray, List.set_cons_succ, List.set_cons_zero]
  refine anyL_take (i := 4) ?v4m rfl rfl (by kernel_rfl) (by kernel_rfl) (by kernel_rfl) (by kernel_rfl) (by kernel_rfl) (fun _ _ _ h => h) hCw ⟨.inl ⟨by kernel_rfl, fun W' hW' => ?y4m⟩, fun _ => rfl⟩ ?_
  case y4m => (obtain ⟨q0, q1⟩ := hW'; go_simp; rfl)
  simp only [Act.put, List.setIfInBounds_toArray, List.set_cons_succ, List.set_cons_zero]
  refine anyL_take (i := 5) ?v5m rfl rfl (by kernel_rfl) (by kernel_rfl) (by kernel_rfl) (by kernel_rfl) (by kernel_rfl) (fun _ _ _ h => h) hCw ⟨.inl ⟨by kernel_rfl, fun W' hW' => ?y5m⟩, fun _ => rfl⟩ ?_
  case y5m => (obtain ⟨q0, q1⟩ := hW'; go_simp; rfl)
  simp only [Act.put, List.setIfInBounds_toArray, List.set_cons_succ, List.set_cons_zero]
  have hme : mustE R = 0 := by rw [← hRd]; exact (Hg.out.2.2.2.2.2 _ (List.getElem_mem hk)).1
  refine anyL_only (i := 6) (by kernel_rfl) (wpOpIn_step rfl (fun K' hK' => ?_))
  go_simp
  refine ⟨trivial, rfl, (callsIn_wide.2 (map_any R A' c' x.from_ _ hme (HRT2.out.c.below (Below.refl _ _).drew) m2)).mono ?_⟩
  rintro e w3 ⟨hmap, hB3⟩
  have hBd3 : Below w2.heap.size w2 w3 := ((Below.refl _ _).drew).trans hB3
  have ha3 := HA2.out.below hBd3
  have HRT3 := Lib.hid (HRT2.out.kept (fun q c f hq => block_below hq hBd3))
  have hCw3 : (fun W' : World => W'.cell? ⟨F, k * 2 + 1, none⟩ = some (.slice A' R.length c') ∧ W'.cell? ⟨b, 1, none⟩ = some (.int .i64 x.from_)) w3 := ⟨ha3.f1, ha3.b1⟩
  have hn02 : n0 ≤ w2.heap.size := by have := hBd2.size; omega
  have HFr3 := Lib.hid (HFr2.out.below hBd3 hn02)
  have HA3 := Lib.hid ha3
  rcases hmap with ⟨f, m, hmap, rfl⟩ | ⟨hmap, rfl⟩
  rotate_left
  · refine hK' _ _ ⟨fun _ => hCw3, ?_⟩
    clear hK' K'
    refine anyL_take (i := 7) ?v7n rfl rfl (by kernel_rfl) (by kernel_rfl) (by kernel_rfl) (by kernel_rfl) (by kernel_rfl) (fun _ _ _ h => h) hCw3 ⟨.inl ⟨by kernel_rfl, fun W' hW' => ?y7n⟩, fun _ => rfl⟩ ?_
    case y7n => (skip; go_simp; rfl)
    simp only [Act.put, List.setIfInBounds_toArray, List.set_cons_succ, List.set_cons_zero]
    refine anyL_take (i := 8) ?v8n rfl rfl (by kernel_rfl) (by kernel_rfl) (by kernel_rfl) (by kernel_rfl) (by kernel_rfl) (fun _ _ _ h => h) hCw3 ⟨.inl ⟨by kernel_rfl, fun W' hW' => ?y8n⟩, fun _ => rfl⟩ ?_
    case y8n => (skip; go_simp; rfl)
    simp only [Act.put, List.setIfInBounds_toArray, List.set_cons_succ, List.set_cons_zero]
    refine anyL_take (i := 9) ?v9n rfl rfl (by kernel_rfl) (by kernel_rfl) (by kernel_rfl) (by kernel_rfl) (by kernel_rfl) (fun _ _ _ h => h) hCw3 ⟨.inl ⟨by kernel_rfl, fun W' hW' => ?y9n⟩, fun _ => rfl⟩ ?_
    case y9n => (skip; go_simp; rfl)
    simp only [Act.put, List.setIfInBounds_toArray, List.set_cons_succ, List.set_cons_zero]
    refine anyL_take (i := 10) ?v10n rfl rfl (by kernel_rfl) (by kernel_rfl) (by kernel_rfl) (by kernel_rfl) (by kernel_rfl) (fun _ _ _ h => h) hCw3 ⟨.inl ⟨by kernel_rfl, fun W' hW' => ?y10n⟩, fun _ => rfl⟩ ?_
    case y10n => (skip; go_simp; rfl)
    simp only [Act.put, List.setIfInBounds_toArray, List.set_cons_succ, List.set_cons_zero]
    refine anyL_take (i := 11) ?v11n rfl rfl (by kernel_rfl) (by kernel_rfl) (by kernel_rfl) (by kernel_rfl) (by kernel_rfl) (fun _ _ _ h => h) hCw3 ⟨.inl ⟨by kernel_rfl, fun W' hW' => ?y11n⟩, fun _ => rfl⟩ ?_
    case y11n => (skip; go_simp; rfl)
    simp only [Act.put, List.setIfInBounds_toArray, List.set_cons_succ, List.set_cons_zero]
    refine anyL_take (i := 12) ?v12n rfl rfl (by kernel_rfl) (by kernel_rfl) (by kernel_rfl) (by kernel_rfl) (by kernel_rfl) (fun _ _ _ h => h) hCw3 ⟨.inl ⟨by kernel_rfl, fun W' hW' => ?y12n⟩, fun _ => rfl⟩ ?_
    case y12n => (skip; go_simp; rfl)
    simp only [Act.put, List.setIfInBounds_toArray, List.set_cons_succ, List.set_cons_zero]
    refine anyL_last (by kernel_rfl) (by kernel_rfl) (wpOpIn_step rfl (fun K' hK' => ?_))
    go_simp
    refine hK' _ _ ?_
    clear hK' K'
    go_wp2_with (go_at_call 37; refine (need_no _ _).mono ?_; rintro e w' ⟨rfl, rfl⟩)
    exact ⟨rfl, .inr ⟨1, ap3 Hhi.out ⟨m1, m2⟩ (by rw [hR]; exact hmap), rfl⟩, HFr3.out⟩
  refine hK' _ _ ⟨fun _ => hCw3, ?_⟩
  clear hK' K'
  refine anyL_take (i := 7) ?v7o rfl rfl (by kernel_rfl) (by kernel_rfl) (by kernel_rfl) (by kernel_rfl) (by kernel_rfl) (fun _ _ _ h => h) hCw3 ⟨.inl ⟨by kernel_rfl, fun W' hW' => ?y7o⟩, fun _ => rfl⟩ ?_
  case y7o => (skip; go_simp; rfl)
  simp only [Act.put, List.setIfInBounds_toArray, List.set_cons_succ, List.set_cons_zero]
  refine anyL_take (i := 8) ?v8o rfl rfl (by kernel_rfl) (by kernel_rfl) (by kernel_rfl) (by kernel_rfl) (by kernel_rfl) (fun _ _ _ h => h) hCw3 ⟨.inl ⟨by kernel_rfl, fun W' hW' => ?y8o⟩, fun _ => rfl⟩ ?_
  case y8o => (skip; go_simp; rfl)
  simp only [Act.put, List.setIfInBounds_toArray, List.set_cons_succ, List.set_cons_zero]
  refine anyL_take (i := 9) ?v9o rfl rfl (by kernel_rfl) (by kernel_rfl) (by kernel_rfl) (by kernel_rfl) (by kernel_rfl) (fun _ _ _ h => h) hCw3 ⟨.inl ⟨by kernel_rfl, fun W' hW' => ?y9o⟩, fun _ => rfl⟩ ?_
  case y9o => (skip; go_simp; rfl)
  simp only [Act.put, List.setIfInBounds_toArray, List.set_cons_succ, List.set_cons_zero]
  refine anyL_take (i := 10) ?v10o rfl rfl (by kernel_rfl) (by kernel_rfl) (by kernel_rfl) (by kernel_rfl) (by kernel_rfl) (fun _ _ _ h => h) hCw3 ⟨.inl ⟨by kernel_rfl, fun W' hW' => ?y10o⟩, fun _ => rfl⟩ ?_
  case y10o => (skip; go_simp; rfl)
  simp only [Act.put, List.setIfInBounds_toArray, List.set_cons_succ, List.set_cons_zero]
  refine anyL_take (i := 11) ?v11o rfl rfl (by kernel_rfl) (by kernel_rfl) (by kernel_rfl) (by kernel_rfl) (by kernel_rfl) (fun _ _ _ h => h) hCw3 ⟨.inl ⟨by kernel_rfl, fun W' hW' => ?y11o⟩, fun _ => rfl⟩ ?_
  case y11o => (skip; go_simp; rfl)
  simp only [Act.put, List.setIfInBounds_toArray, List.set_cons_succ, List.set_cons_zero]
  refine anyL_take (i := 12) ?v12o rfl rfl (by kernel_rfl) (by kernel_rfl) (by kernel_rfl) (by kernel_rfl) (by kernel_rfl) (fun _ _ _ h => h) hCw3 ⟨.inl ⟨by kernel_rfl, fun W' hW' => ?y12o⟩, fun _ => rfl⟩ ?_
  case y12o => (skip; go_simp; rfl)
  simp only [Act.put, List.setIfInBounds_toArray, List.set_cons_succ, List.set_cons_zero]
  refine anyL_last (by kernel_rfl) (by kernel_rfl) (wpOpIn_step rfl (fun K' hK' => ?_))
  go_simp
  refine hK' _ _ ?_
  clear hK' K'
  have hnR : normL R = R := by rw [← hRd]; exact (Hg.out.2.2.2.2.2 _ (List.getElem_mem hk)).2.1
  obtain ⟨rr, hrr, M1, M2, M3, M4, M5⟩ := mapL_spec hme hnR m2 hmap
  have hrb := (mustE_zero hme).2.1 _ hrr
  have hgsz : 0 ≤ s.pic.size ∧ s.pic.size ≤ 1000000 := ⟨Hg.out.1, Hg.out.2.1⟩
  have hsz3 : n0 ≤ w3.heap.size := by have := hBd3.size; omega
  have Hmap := Lib.hid hmap
  obtain ⟨p0, -, p3, b0, b1, b2, b3, f1⟩ := ha3
  clear hmap hCw3 hCw
  by_cases m3 : f = -1
  · have dm3 : (f != -1) = false := by simpa using m3
    have Hm3 := Lib.hid m3; clear m3
    go_wp2_with (go_at_call 37; refine (need_no _ _).mono ?_; rintro e w' ⟨rfl, rfl⟩)
    exact ⟨rfl, .inr ⟨1, ap4 Hhi.out ⟨m1, m2⟩ (by rw [hR]; exact Hmap.out) (fun h => h.1 Hm3.out), rfl⟩, HFr3.out⟩
  have dm3 : (f != -1) = true := by simpa using m3
  by_cases m4 : x.many ≤ m
  rotate_left
  · have dm4 : decide (x.many ≤ m) = false := by simpa using m4
    go_wp2_with (go_at_call 37; refine (need_no _ _).mono ?_; rintro e w' ⟨rfl, rfl⟩)
    exact ⟨rfl, .inr ⟨1, ap4 Hhi.out ⟨m1, m2⟩ (by rw [hR]; exact Hmap.out) (fun h => by omega), rfl⟩, HFr3.out⟩
  have dm4 : decide (x.many ≤ m) = true := by simpa using m4
  by_cases m5 : 3 ≤ x.to
  rotate_left
  · have dm5 : decide (3 ≤ x.to) = false := by simpa using m5
    go_wp2_with (go_at_call 37; refine (need_yes _ _).mono ?_; rintro e w' ⟨rfl, rfl⟩)
    refine wp_region_anyL (L := 16) (C := fun W' => W'.cell? ⟨P, 0, none⟩ = some (.int .i64 s.pic.size) ∧ W'.cell? ⟨b, 2, none⟩ = some (.int .i64 x.to) ∧ W'.cell? ⟨b, 3, none⟩ = some (.int .i64 x.many)) hmx ?_
    have hCw : (fun W' : World => W'.cell? ⟨P, 0, none⟩ = some (.int .i64 s.pic.size) ∧ W'.cell? ⟨b, 2, none⟩ = some (.int .i64 x.to) ∧ W'.cell? ⟨b, 3, none⟩ = some (.int .i64 x.many)) w3.drew := ⟨HA3.out.p0, HA3.out.b2, HA3.out.b3⟩
    refine anyL_take (i := 0) ?v0p rfl rfl (by kernel_rfl) (by kernel_rfl) (by kernel_rfl) (by kernel_rfl) (by kernel_rfl) (fun _ _ _ h => h) hCw ⟨.inl ⟨by kernel_rfl, fun W' hW' => ?y0p⟩, fun _ => rfl⟩ ?_
    case y0p => (obtain ⟨q0, q1, q2⟩ := hW'; go_simp; rfl)
    simp only [Act.put, List.setIfInBounds_toArray, List.set_cons_succ, List.set_cons_zero]
    refine anyL_take (i := 1) ?v1p rfl rfl (by kernel_rfl) (by kernel_rfl) (by kernel_rfl) (by kernel_rfl) (by kernel_rfl) (fun _ _ _ h => h) hCw ⟨.inl ⟨by kernel_rfl, fun W' hW' => ?y1p⟩, fun _ => rfl⟩ ?_
    case y1p => (obtain ⟨q0, q1, q2⟩ := hW'; go_simp; rfl)
    simp only [Act.put, List.setIfInBounds_toArray, List.set_cons_succ, List.set_cons_zero]
    refine anyL_take (i := 2) ?v2p rfl rfl (by kernel_rfl) (by kernel_rfl) (by kernel_rfl) (by kernel_rfl) (by kernel_rfl) (fun _ _ _ h => h) hCw ⟨.inl ⟨by kernel_rfl, fun W' hW' => ?y2p⟩, fun _ => rfl⟩ ?_
    case y2p => (obtain ⟨q0, q1, q2⟩ := hW'; go_simp; rfl)
    simp only [Act.put, List.setIfInBounds_toArray, List.set_cons_succ, List.set_cons_zero]
    refine anyL_take (i := 3) ?v3p rfl rfl (by kernel_rfl) (by kernel_rfl) (by kernel_rfl) (by kernel_rfl) (by kernel_rfl) (fun _ _ _ h => h) hCw ⟨.inl ⟨by kernel_rfl, fun W' hW' => ?y3p⟩, fun _ => rfl⟩ ?_
    case y3p => (obtain ⟨q0, q1, q2⟩ := hW'; go_simp; rfl)
    simp only [Act.put, List.setIfInBounds_toArray, List.set_cons_succ, List.set_cons_zero]
    refine anyL_take (i := 4) undef rfl rfl (by kernel_rfl) (by kernel_rfl) (by kernel_rfl) (by kernel_rfl) (by kernel_rfl) (fun _ _ _ h => h) hCw ⟨.inr ⟨by kernel_rfl, rfl⟩, fun _ => rfl⟩ ?_
    simp only [Act.put, List.setIfInBounds_toArray, List.set_cons_succ, List.set_cons_zero]
    refine anyL_take (i := 5) undef rfl rfl (by kernel_rfl) (by kernel_rfl) (by kernel_rfl) (by kernel_rfl) (by kernel_rfl) (fun _ _ _ h => h) hCw ⟨.inr ⟨by kernel_rfl, rfl⟩, fun _ => rfl⟩ ?_
    simp only [Act.put, List.setIfInBounds_toArray, List.set_cons_succ, List.set_cons_zero]
    refine anyL_take (i := 6) undef rfl rfl (by kernel_rfl) (by kernel_rfl) (by kernel_rfl) (by kernel_rfl) (by kernel_rfl) (fun _ _ _ h => h) hCw ⟨.inr ⟨by kernel_rfl, rfl⟩, fun _ => rfl⟩ ?_
    simp only [Act.put, List.setIfInBounds_toArray, List.set_cons_succ, List.set_cons_zero]
    refine anyL_take (i := 7) undef rfl rfl (by kernel_rfl) (by kernel_rfl) (by kernel_rfl) (by kernel_rfl) (by kernel_rfl) (fun _ _ _ h => h) hCw ⟨.inr ⟨by kernel_rfl, rfl⟩, fun _ => rfl⟩ ?_
    simp only [Act.put, List.setIfInBounds_toArray, List.set_cons_succ, List.set_cons_zero]
    refine anyL_take (i := 8) undef rfl rfl (by kernel_rfl) (by kernel_rfl) (by kernel_rfl) (by kernel_rfl) (by kernel_rfl) (fun _ _ _ h => h) hCw ⟨.inr ⟨by kernel_rfl, rfl⟩, fun _ => rfl⟩ ?_
    simp only [Act.put, List.setIfInBounds_toArray, List.set_cons_succ, List.set_cons_zero]
    refine anyL_take (i := 9) undef rfl rfl (by kernel_rfl) (by kernel_rfl) (by kernel_rfl) (by kernel_rfl) (by kernel_rfl) (fun _ _ _ h => h) hCw ⟨.inr ⟨by kernel_rfl, rfl⟩, fun _ => rfl⟩ ?_
    simp only [Act.put, List.setIfInBounds_toArray, List.set_cons_succ, List.set_cons_zero]
    refine anyL_take (i := 10) undef rfl rfl (by kernel_rfl) (by kernel_rfl) (by kernel_rfl) (by kernel_rfl) (by kernel_rfl) (fun _ _ _ h => h) hCw ⟨.inr ⟨by kernel_rfl, rfl⟩, fun _ => rfl⟩ ?_
    simp only [Act.put, List.setIfInBounds_toArray, List.set_cons_succ, List.set_cons_zero]
    refine anyL_take (i := 11) undef rfl rfl (by kernel_rfl) (by kernel_rfl) (by kernel_rfl) (by kernel_rfl) (by kernel_rfl) (fun _ _ _ h => h) hCw ⟨.inr ⟨by kernel_rfl, rfl⟩, fun _ => rfl⟩ ?_
    simp only [Act.put, List.setIfInBounds_toArray, List.set_cons_succ, List.set_cons_zero]
    refine anyL_take (i := 12) undef rfl rfl (by kernel_rfl) (by kernel_rfl) (by kernel_rfl) (by kernel_rfl) (by kernel_rfl) (fun _ _ _ h => h) hCw ⟨.inr ⟨by kernel_rfl, rfl⟩, fun _ => rfl⟩ ?_
    simp only [Act.put, List.setIfInBounds_toArray, List.set_cons_succ, List.set_cons_zero]
    refine anyL_take (i := 13) undef rfl rfl (by kernel_rfl) (by kernel_rfl) (by kernel_rfl) (by kernel_rfl) (by kernel_rfl) (fun _ _ _ h => h) hCw ⟨.inr ⟨by kernel_rfl, rfl⟩, fun _ => rfl⟩ ?_
    simp only [Act.put, List.setIfInBounds_toArray, List.set_cons_succ, List.set_cons_zero]
    refine anyL_take (i := 14) undef rfl rfl (by kernel_rfl) (by kernel_rfl) (by kernel_rfl) (by kernel_rfl) (by kernel_rfl) (fun _ _ _ h => h) hCw ⟨.inr ⟨by kernel_rfl, rfl⟩, fun _ => rfl⟩ ?_
    simp only [Act.put, List.setIfInBounds_toArray, List.set_cons_succ, List.set_cons_zero]
    refine anyL_take (i := 15) ?v15p rfl rfl (by kernel_rfl) (by kernel_rfl) (by kernel_rfl) (by kernel_rfl) (by kernel_rfl) (fun _ _ _ h => h) hCw ⟨.inl ⟨by kernel_rfl, fun W' hW' => ?y15p⟩, fun _ => rfl⟩ ?_
    case y15p => (obtain ⟨q0, q1, q2⟩ := hW'; go_simp; rfl)
    simp only [Act.put, List.setIfInBounds_toArray, List.set_cons_succ, List.set_cons_zero]
    refine anyL_last (by kernel_rfl) (by kernel_rfl) (wpOpIn_step rfl (fun K' hK' => ?_))
    go_simp
    refine ⟨trivial, rfl, (callsIn_wide.2 (need_no _ _)).mono ?_⟩
    rintro e w' ⟨rfl, rfl⟩
    exact ⟨rfl, .inr ⟨1, ap5 Hhi.out ⟨m1, m2⟩ (by rw [hR]; exact Hmap.out) ⟨m3, m4⟩ (fun h => by omega), rfl⟩, HFr3.out.below (Below.refl _ _).drew hsz3⟩
  have dm5 : decide (3 ≤ x.to) = true := by simpa using m5
  have wsub : IntKind.i64.wrap (s.pic.size - x.many) = s.pic.size - x.many := IntWalk.i64_in _ (by omega)
  by_cases m6 : x.to ≤ s.pic.size - x.many
  rotate_left
  · have dm6 : decide (x.to ≤ s.pic.size - x.many) = false := by simpa using m6
    go_wp2_with (go_at_call 37; refine (need_yes _ _).mono ?_; rintro e w' ⟨rfl, rfl⟩)
    refine wp_region_anyL (L := 16) (C := fun W' => W'.cell? ⟨P, 0, none⟩ = some (.int .i64 s.pic.size) ∧ W'.cell? ⟨b, 2, none⟩ = some (.int .i64 x.to) ∧ W'.cell? ⟨b, 3, none⟩ = some (.int .i64 x.many)) hmx ?_
    have hCw : (fun W' : World => W'.cell? ⟨P, 0, none⟩ = some (.int .i64 s.pic.size) ∧ W'.cell? ⟨b, 2, none⟩ = some (.int .i64 x.to) ∧ W'.cell? ⟨b, 3, none⟩ = some (.int .i64 x.many)) w3.drew := ⟨HA3.out.p0, HA3.out.b2, HA3.out.b3⟩
    refine anyL_take (i := 0) ?v0q rfl rfl (by kernel_rfl) (by kernel_rfl) (by kernel_rfl) (by kernel_rfl) (by kernel_rfl) (fun _ _ _ h => h) hCw ⟨.inl ⟨by kernel_rfl, fun W' hW' => ?y0q⟩, fun _ => rfl⟩ ?_
    case y0q => (obtain ⟨q0, q1, q2⟩ := hW'; go_simp; rfl)
    simp only [Act.put, List.setIfInBounds_toArray, List.set_cons_succ, List.set_cons_zero]
    refine anyL_take (i := 1) ?v1q rfl rfl (by kernel_rfl) (by kernel_rfl) (by kernel_rfl) (by kernel_rfl) (by kernel_rfl) (fun _ _ _ h => h) hCw ⟨.inl ⟨by kernel_rfl, fun W' hW' => ?y1q⟩, fun _ => rfl⟩ ?_
    case y1q => (obtain ⟨q0, q1, q2⟩ := hW'; go_simp; rfl)
    simp only [Act.put, List.setIfInBounds_toArray, List.set_cons_succ, List.set_cons_zero]
    refine anyL_take (i := 2) ?v2q rfl rfl (by kernel_rfl) (by kernel_rfl) (by kernel_rfl) (by kernel_rfl) (by kernel_rfl) (fun _ _ _ h => h) hCw ⟨.inl ⟨by kernel_rfl, fun W' hW' => ?y2q⟩, fun _ => rfl⟩ ?_
    case y2q => (obtain ⟨q0, q1, q2⟩ := hW'; go_simp; rfl)
    simp only [Act.put, List.setIfInBounds_toArray, List.set_cons_succ, List.set_cons_zero]
    refine anyL_take (i := 3) ?v3q rfl rfl (by kernel_rfl) (by kernel_rfl) (by kernel_rfl) (by kernel_rfl) (by kernel_rfl) (fun _ _ _ h => h) hCw ⟨.inl ⟨by kernel_rfl, fun W' hW' => ?y3q⟩, fun _ => rfl⟩ ?_
    case y3q => (obtain ⟨q0, q1, q2⟩ := hW'; go_simp; rfl)
    simp only [Act.put, List.setIfInBounds_toArray, List.set_cons_succ, List.set_cons_zero]
    refine anyL_take (i := 4) ?v4q rfl rfl (by kernel_rfl) (by kernel_rfl) (by kernel_rfl) (by kernel_rfl) (by kernel_rfl) (fun _ _ _ h => h) hCw ⟨.inl ⟨by kernel_rfl, fun W' hW' => ?y4q⟩, fun _ => rfl⟩ ?_
    case y4q => (obtain ⟨q0, q1, q2⟩ := hW'; go_simp; rfl)
    simp only [Act.put, List.setIfInBounds_toArray, List.set_cons_succ, List.set_cons_zero]
    refine anyL_take (i := 5) ?v5q rfl rfl (by kernel_rfl) (by kernel_rfl) (by kernel_rfl) (by kernel_rfl) (by kernel_rfl) (fun _ _ _ h => h) hCw ⟨.inl ⟨by kernel_rfl, fun W' hW' => ?y5q⟩, fun _ => rfl⟩ ?_
    case y5q => (obtain ⟨q0, q1, q2⟩ := hW'; go_simp; rfl)
    simp only [Act.put, List.setIfInBounds_toArray, List.set_cons_succ, List.set_cons_zero]
    refine anyL_take (i := 6) ?v6q rfl rfl (by kernel_rfl) (by kernel_rfl) (by kernel_rfl) (by kernel_rfl) (by kernel_rfl) (fun _ _ _ h => h) hCw ⟨.inl ⟨by kernel_rfl, fun W' hW' => ?y6q⟩, fun _ => rfl⟩ ?_
    case y6q => (obtain ⟨q0, q1, q2⟩ := hW'; go_simp; rfl)
    simp only [Act.put, List.setIfInBounds_toArray, List.set_cons_succ, List.set_cons_zero]
    refine anyL_take (i := 7) ?v7q rfl rfl (by kernel_rfl) (by kernel_rfl) (by kernel_rfl) (by kernel_rfl) (by kernel_rfl) (fun _ _ _ h => h) hCw ⟨.inl ⟨by kernel_rfl, fun W' hW' => ?y7q⟩, fun _ => rfl⟩ ?_
    case y7q => (obtain ⟨q0, q1, q2⟩ := hW'; go_simp; rfl)
    simp only [Act.put, List.setIfInBounds_toArray, List.set_cons_succ, List.set_cons_zero]
    refine anyL_take (i := 8) ?v8q rfl rfl (by kernel_rfl) (by kernel_rfl) (by kernel_rfl) (by kernel_rfl) (by kernel_rfl) (fun _ _ _ h => h) hCw ⟨.inl ⟨by kernel_rfl, fun W' hW' => ?y8q⟩, fun _ => rfl⟩ ?_
    case y8q => (obtain ⟨q0, q1, q2⟩ := hW'; go_simp; rfl)
    simp only [Act.put, List.setIfInBounds_toArray, List.set_cons_succ, List.set_cons_zero]
    refine anyL_take (i := 9) ?v9q rfl rfl (by kernel_rfl) (by kernel_rfl) (by kernel_rfl) (by kernel_rfl) (by kernel_rfl) (fun _ _ _ h => h) hCw ⟨.inl ⟨by kernel_rfl, fun W' hW' => ?y9q⟩, fun _ => rfl⟩ ?_
    case y9q => (obtain ⟨q0, q1, q2⟩ := hW'; go_simp; rfl)
    simp only [Act.put, List.setIfInBounds_toArray, List.set_cons_succ, List.set_cons_zero]
    refine anyL_take (i := 10) ?v10q rfl rfl (by kernel_rfl) (by kernel_rfl) (by kernel_rfl) (by kernel_rfl) (by kernel_rfl) (fun _ _ _ h => h) hCw ⟨.inl ⟨by kernel_rfl, fun W' hW' => ?y10q⟩, fun _ => rfl⟩ ?_
    case y10q => (obtain ⟨q0, q1, q2⟩ := hW'; go_simp; rfl)
    simp only [Act.put, List.setIfInBounds_toArray, List.set_cons_succ, List.set_cons_zero]
    refine anyL_take (i := 11) ?v11q rfl rfl (by kernel_rfl) (by kernel_rfl) (by kernel_rfl) (by kernel_rfl) (by kernel_rfl) (fun _ _ _ h => h) hCw ⟨.inl ⟨by kernel_rfl, fun W' hW' => ?y11q⟩, fun _ => rfl⟩ ?_
    case y11q => (obtain ⟨q0, q1, q2⟩ := hW'; go_simp; rfl)
    simp only [Act.put, List.setIfInBounds_toArray, List.set_cons_succ, List.set_cons_zero]
    refine anyL_take (i := 12) ?v12q rfl rfl (by kernel_rfl) (by kernel_rfl) (by kernel_rfl) (by kernel_rfl) (by kernel_rfl) (fun _ _ _ h => h) hCw ⟨.inl ⟨by kernel_rfl, fun W' hW' => ?y12q⟩, fun _ => rfl⟩ ?_
    case y12q => (obtain ⟨q0, q1, q2⟩ := hW'; go_simp; rfl)
    simp only [Act.put, List.setIfInBounds_toArray, List.set_cons_succ, List.set_cons_zero]
    refine anyL_take (i := 13) ?v13q rfl rfl (by kernel_rfl) (by kernel_rfl) (by kernel_rfl) (by kernel_rfl) (by kernel_rfl) (fun _ _ _ h => h) hCw ⟨.inl ⟨by kernel_rfl, fun W' hW' => ?y13q⟩, fun _ => rfl⟩ ?_
    case y13q => (obtain ⟨q0, q1, q2⟩ := hW'; go_simp; rfl)
    simp only [Act.put, List.setIfInBounds_toArray, List.set_cons_succ, List.set_cons_zero]
    refine anyL_take (i := 14) ?v14q rfl rfl (by kernel_rfl) (by kernel_rfl) (by kernel_rfl) (by kernel_rfl) (by kernel_rfl) (fun _ _ _ h => h) hCw ⟨.inl ⟨by kernel_rfl, fun W' hW' => ?y14q⟩, fun _ => rfl⟩ ?_
    case y14q => (obtain ⟨q0, q1, q2⟩ := hW'; go_simp; rfl)
    simp only [Act.put, List.setIfInBounds_toArray, List.set_cons_succ, List.set_cons_zero]
    refine anyL_take (i := 15) ?v15q rfl rfl (by kernel_rfl) (by kernel_rfl) (by kernel_rfl) (by kernel_rfl) (by kernel_rfl) (fun _ _ _ h => h) hCw ⟨.inl ⟨by kernel_rfl, fun W' hW' => ?y15q⟩, fun _ => rfl⟩ ?_
    case y15q => (obtain ⟨q0, q1, q2⟩ := hW'; go_simp; rfl)
    simp only [Act.put, List.setIfInBounds_toArray, List.set_cons_succ, List.set_cons_zero]
    refine anyL_last (by kernel_rfl) (by kernel_rfl) (wpOpIn_step rfl (fun K' hK' => ?_))
    go_simp
    refine ⟨trivial, rfl, (callsIn_wide.2 (need_no _ _)).mono ?_⟩
    rintro e w' ⟨rfl, rfl⟩
    exact ⟨rfl, .inr ⟨1, ap5 Hhi.out ⟨m1, m2⟩ (by rw [hR]; exact Hmap.out) ⟨m3, m4⟩ (fun h => by omega), rfl⟩, HFr3.out.below (Below.refl _ _).drew hsz3⟩
  have dm6 : decide (x.to ≤ s.pic.size - x.many) = true := by simpa using m6
  go_wp2_with (go_at_call 37; refine (need_yes _ _).mono ?_; rintro e w' ⟨rfl, rfl⟩)
  refine wp_region_anyL (L := 16) (C := fun W' => W'.cell? ⟨P, 0, none⟩ = some (.int .i64 s.pic.size) ∧ W'.cell? ⟨b, 2, none⟩ = some (.int .i64 x.to) ∧ W'.cell? ⟨b, 3, none⟩ = some (.int .i64 x.many)) hmx ?_
  have hCw : (fun W' : World => W'.cell? ⟨P, 0, none⟩ = some (.int .i64 s.pic.size) ∧ W'.cell? ⟨b, 2, none⟩ = some (.int .i64 x.to) ∧ W'.cell? ⟨b, 3, none⟩ = some (.int .i64 x.many)) w3.drew := ⟨HA3.out.p0, HA3.out.b2, HA3.out.b3⟩
  refine anyL_take (i := 0) ?v0r rfl rfl (by kernel_rfl) (by kernel_rfl) (by kernel_rfl) (by kernel_rfl) (by kernel_rfl) (fun _ _ _ h => h) hCw ⟨.inl ⟨by kernel_rfl, fun W' hW' => ?y0r⟩, fun _ => rfl⟩ ?_
  case y0r => (obtain ⟨q0, q1, q2⟩ := hW'; go_simp; rfl)
  simp only [Act.put, List.setIfInBounds_toArray, List.set_cons_succ, List.set_cons_zero]
  refine anyL_take (i := 1) ?v1r rfl rfl (by kernel_rfl) (by kernel_rfl) (by kernel_rfl) (by kernel_rfl) (by kernel_rfl) (fun _ _ _ h => h) hCw ⟨.inl ⟨by kernel_rfl, fun W' hW' => ?y1r⟩, fun _ => rfl⟩ ?_
  case y1r => (obtain ⟨q0, q1, q2⟩ := hW'; go_simp; rfl)
  simp only [Act.put, List.setIfInBounds_toArray, List.set_cons_succ, List.set_cons_zero]
  refine anyL_take (i := 2) ?v2r rfl rfl (by kernel_rfl) (by kernel_rfl) (by kernel_rfl) (by kernel_rfl) (by kernel_rfl) (fun _ _ _ h => h) hCw ⟨.inl ⟨by kernel_rfl, fun W' hW' => ?y2r⟩, fun _ => rfl⟩ ?_
  case y2r => (obtain ⟨q0, q1, q2⟩ := hW'; go_simp; rfl)
  simp only [Act.put, List.setIfInBounds_toArray, List.set_cons_succ, List.set_cons_zero]
  refine anyL_take (i := 3) ?v3r rfl rfl (by kernel_rfl) (by kernel_rfl) (by kernel_rfl) (by kernel_rfl) (by kernel_rfl) (fun _ _ _ h => h) hCw ⟨.inl ⟨by kernel_rfl, fun W' hW' => ?y3r⟩, fun _ => rfl⟩ ?_
  case y3r => (obtain ⟨q0, q1, q2⟩ := hW'; go_simp; rfl)
  simp only [Act.put, List.setIfInBounds_toArray, List.set_cons_succ, List.set_cons_zero]
  refine anyL_take (i := 4) ?v4r rfl rfl (by kernel_rfl) (by kernel_rfl) (by kernel_rfl) (by kernel_rfl) (by kernel_rfl) (fun _ _ _ h => h) hCw ⟨.inl ⟨by kernel_rfl, fun W' hW' => ?y4r⟩, fun _ => rfl⟩ ?_
  case y4r => (obtain ⟨q0, q1, q2⟩ := hW'; go_simp; rfl)
  simp only [Act.put, List.setIfInBounds_toArray, List.set_cons_succ, List.set_cons_zero]
  refine anyL_take (i := 5) ?v5r rfl rfl (by kernel_rfl) (by kernel_rfl) (by kernel_rfl) (by kernel_rfl) (by kernel_rfl) (fun _ _ _ h => h) hCw ⟨.inl ⟨by kernel_rfl, fun W' hW' => ?y5r⟩, fun _ => rfl⟩ ?_
  case y5r => (obtain ⟨q0, q1, q2⟩ := hW'; go_simp; rfl)
  simp only [Act.put, List.setIfInBounds_toArray, List.set_cons_succ, List.set_cons_zero]
  refine anyL_take (i := 6) ?v6r rfl rfl (by kernel_rfl) (by kernel_rfl) (by kernel_rfl) (by kernel_rfl) (by kernel_rfl) (fun _ _ _ h => h) hCw ⟨.inl ⟨by kernel_rfl, fun W' hW' => ?y6r⟩, fun _ => rfl⟩ ?_
  case y6r => (obtain ⟨q0, q1, q2⟩ := hW'; go_simp; rfl)
  simp only [Act.put, List.setIfInBounds_toArray, List.set_cons_succ, List.set_cons_zero]
  refine anyL_take (i := 7) ?v7r rfl rfl (by kernel_rfl) (by kernel_rfl) (by kernel_rfl) (by kernel_rfl) (by kernel_rfl) (fun _ _ _ h => h) hCw ⟨.inl ⟨by kernel_rfl, fun W' hW' => ?y7r⟩, fun _ => rfl⟩ ?_
  case y7r => (obtain ⟨q0, q1, q2⟩ := hW'; go_simp; rfl)
  simp only [Act.put, List.setIfInBounds_toArray, List.set_cons_succ, List.set_cons_zero]
  refine anyL_take (i := 8) ?v8r rfl rfl (by kernel_rfl) (by kernel_rfl) (by kernel_rfl) (by kernel_rfl) (by kernel_rfl) (fun _ _ _ h => h) hCw ⟨.inl ⟨by kernel_rfl, fun W' hW' => ?y8r⟩, fun _ => rfl⟩ ?_
  case y8r => (obtain ⟨q0, q1, q2⟩ := hW'; go_simp; rfl)
  simp only [Act.put, List.setIfInBounds_toArray, List.set_cons_succ, List.set_cons_zero]
  refine anyL_take (i := 9) ?v9r rfl rfl (by kernel_rfl) (by kernel_rfl) (by kernel_rfl) (by kernel_rfl) (by kernel_rfl) (fun _ _ _ h => h) hCw ⟨.inl ⟨by kernel_rfl, fun W' hW' => ?y9r⟩, fun _ => rfl⟩ ?_
  case y9r => (obtain ⟨q0, q1, q2⟩ := hW'; go_simp; rfl)
  simp only [Act.put, List.setIfInBounds_toArray, List.set_cons_succ, List.set_cons_zero]
  refine anyL_take (i := 10) ?v10r rfl rfl (by kernel_rfl) (by kernel_rfl) (by kernel_rfl) (by kernel_rfl) (by kernel_rfl) (fun _ _ _ h => h) hCw ⟨.inl ⟨by kernel_rfl, fun W' hW' => ?y10r⟩, fun _ => rfl⟩ ?_
  case y10r => (obtain ⟨q0, q1, q2⟩ := hW'; go_simp; rfl)
  simp only [Act.put, List.setIfInBounds_toArray, List.set_cons_succ, List.set_cons_zero]
  refine anyL_take (i := 11) ?v11r rfl rfl (by kernel_rfl) (by kernel_rfl) (by kernel_rfl) (by kernel_rfl) (by kernel_rfl) (fun _ _ _ h => h) hCw ⟨.inl ⟨by kernel_rfl, fun W' hW' => ?y11r⟩, fun _ => rfl⟩ ?_
  case y11r => (obtain ⟨q0, q1, q2⟩ := hW'; go_simp; rfl)
  simp only [Act.put, List.setIfInBounds_toArray, List.set_cons_succ, List.set_cons_zero]
  refine anyL_take (i := 12) ?v12r rfl rfl (by kernel_rfl) (by kernel_rfl) (by kernel_rfl) (by kernel_rfl) (by kernel_rfl) (fun _ _ _ h => h) hCw ⟨.inl ⟨by kernel_rfl, fun W' hW' => ?y12r⟩, fun _ => rfl⟩ ?_
  case y12r => (obtain ⟨q0, q1, q2⟩ := hW'; go_simp; rfl)
  simp only [Act.put, List.setIfInBounds_toArray, List.set_cons_succ, List.set_cons_zero]
  refine anyL_take (i := 13) ?v13r rfl rfl (by kernel_rfl) (by kernel_rfl) (by kernel_rfl) (by kernel_rfl) (by kernel_rfl) (fun _ _ _ h => h) hCw ⟨.inl ⟨by kernel_rfl, fun W' hW' => ?y13r⟩, fun _ => rfl⟩ ?_
  case y13r => (obtain ⟨q0, q1, q2⟩ := hW'; go_simp; rfl)
  simp only [Act.put, List.setIfInBounds_toArray, List.set_cons_succ, List.set_cons_zero]
  refine anyL_take (i := 14) ?v14r rfl rfl (by kernel_rfl) (by kernel_rfl) (by kernel_rfl) (by kernel_rfl) (by kernel_rfl) (fun _ _ _ h => h) hCw ⟨.inl ⟨by kernel_rfl, fun W' hW' => ?y14r⟩, fun _ => rfl⟩ ?_
  case y14r => (obtain ⟨q0, q1, q2⟩ := hW'; go_simp; rfl)
  simp only [Act.put, List.setIfInBounds_toArray, List.set_cons_succ, List.set_cons_zero]
  refine anyL_take (i := 15) ?v15r rfl rfl (by kernel_rfl) (by kernel_rfl) (by kernel_rfl) (by kernel_rfl) (by kernel_rfl) (fun _ _ _ h => h) hCw ⟨.inl ⟨by kernel_rfl, fun W' hW' => ?y15r⟩, fun _ => rfl⟩ ?_
  case y15r => (obtain ⟨q0, q1, q2⟩ := hW'; go_simp; rfl)
  simp only [Act.put, List.setIfInBounds_toArray, List.set_cons_succ, List.set_cons_zero]
  refine anyL_last (by kernel_rfl) (by kernel_rfl) (wpOpIn_step rfl (fun K' hK' => ?_))
  go_simp
  refine ⟨trivial, rfl, (callsIn_wide.2 (need_yes _ _)).mono ?_⟩
  rintro e w' ⟨rfl, rfl⟩
  refine hK' _ _ ?_
  clear hK' K'
  obtain ⟨tn, htn⟩ : ∃ n : Nat, x.to = n := ⟨x.to.toNat, by omega⟩
  have HA4 := Lib.hid (HA3.out.below (Below.refl _ _).drew)
  have HRT4 := Lib.hid (HRT3.out.kept (fun q c f hq => block_below hq (Below.refl w3.heap.size w3).drew))
  have HS4 := Lib.hid (Hs1.out.below (hBd2.trans ((hBd3.mono hBd2.size).trans ((Below.refl _ _).drew.mono (by have := hBd2.size; have := hBd3.size; omega)))))
  have HFr4 := Lib.hid (HFr3.out.below (Below.refl _ _).drew hsz3)
  have Htl := Lib.hid (show s.tk.length = s.pic.size.toNat from Hg.out.2.2.1)
  obtain ⟨w4, hw4⟩ : ∃ w4, w3.drew = w4 := ⟨_, rfl⟩
  rw [hw4] at HA4 HRT4 HS4 HFr4 ⊢
  have hsz4 : n0 ≤ w4.heap.size := by rw [← hw4]; exact hsz3
  clear hw4 hCw p0 p3 b0 b1 b2 b3 f1
  have b3 := HA4.out.b3
  go_wp2_with fail
  go_loopw [73] (fun i wr => ∃ j : Nat, (j : Int) ≤ x.many ∧ i = .int .i64 j ∧ freeB s.tk tn j = true ∧ Below w4.heap.size w4 wr) (fun i _ => (x.many - intOf i).toNat)
  case atStart => exact ⟨0, by omega, by simp, by simp [freeB], Below.refl _ _⟩
  case round =>
    obtain ⟨j, hj, rfl, hfr, hBr⟩ := hrel
    have har := HA4.out.below hBr
    have HAr := Lib.hid har
    by_cases hlt : (j : Int) < x.many
    · have hti : tn + j < s.tk.length := by have := Htl.out; omega
      have c3 := har.p3
      have c2 := har.b2
      rw [htn] at c2
      have hcT := ((HS4.out.below hBr).cellT hti).1
      have hix : 0 ≤ (tn : Int) + j ∧ (tn : Int) + j < s.tk.length := by omega
      have hto : ((tn : Int) + j).toNat = tn + j := by omega
      have wadd : IntKind.i64.wrap ((tn : Int) + (j : Int)) = (tn : Int) + j := IntWalk.i64_in _ (by omega)
      go_wp2_with fail
      refine wp_region_anyL (L := 11) (C := fun W' => W'.cell? ⟨P, 3, none⟩ = some (.slice (some ⟨T, 0, none⟩) s.tk.length cT) ∧ W'.cell? ⟨b, 2, none⟩ = some (.int .i64 (tn : Int)) ∧ W'.cell? ⟨T, tn + j, none⟩ = some (.bool s.tk[tn + j])) hmx ?_
      have hCw : (fun W' : World => W'.cell? ⟨P, 3, none⟩ = some (.slice (some ⟨T, 0, none⟩) s.tk.length cT) ∧ W'.cell? ⟨b, 2, none⟩ = some (.int .i64 (tn : Int)) ∧ W'.cell? ⟨T, tn + j, none⟩ = some (.bool s.tk[tn + j])) wr.drew := ⟨c3, c2, hcT⟩
      refine anyL_take (i := 0) ?v0t rfl rfl (by kernel_rfl) (by kernel_rfl) (by kernel_rfl) (by kernel_rfl) (by kernel_rfl) (fun _ _ _ h => h) hCw ⟨.inl ⟨by kernel_rfl, fun W' hW' => ?y0t⟩, fun _ => rfl⟩ ?_
      case y0t => (obtain ⟨q0, q1, q2⟩ := hW'; go_simp; rfl)
      simp only [Act.put, List.setIfInBounds_toArray, List.set_cons_succ, List.set_cons_zero]
      refine anyL_take (i := 1) ?v1t rfl rfl (by kernel_rfl) (by kernel_rfl) (by kernel_rfl) (by kernel_rfl) (by kernel_rfl) (fun _ _ _ h => h) hCw ⟨.inl ⟨by kernel_rfl, fun W' hW' => ?y1t⟩, fun _ => rfl⟩ ?_
      case y1t => (obtain ⟨q0, q1, q2⟩ := hW'; go_simp; rfl)
      simp only [Act.put, List.setIfInBounds_toArray, List.set_cons_succ, List.set_cons_zero]
      refine anyL_take (i := 2) ?v2t rfl rfl (by kernel_rfl) (by kernel_rfl) (by kernel_rfl) (by kernel_rfl) (by kernel_rfl) (fun _ _ _ h => h) hCw ⟨.inl ⟨by kernel_rfl, fun W' hW' => ?y2t⟩, fun _ => rfl⟩ ?_
      case y2t => (obtain ⟨q0, q1, q2⟩ := hW'; go_simp; rfl)
      simp only [Act.put, List.setIfInBounds_toArray, List.set_cons_succ, List.set_cons_zero]
      refine anyL_take (i := 3) ?v3t rfl rfl (by kernel_rfl) (by kernel_rfl) (by kernel_rfl) (by kernel_rfl) (by kernel_rfl) (fun _ _ _ h => h) hCw ⟨.inl ⟨by kernel_rfl, fun W' hW' => ?y3t⟩, fun _ => rfl⟩ ?_
      case y3t => (obtain ⟨q0, q1, q2⟩ := hW'; go_simp; rfl)
      simp only [Act.put, List.setIfInBounds_toArray, List.set_cons_succ, List.set_cons_zero]
      refine anyL_take (i := 4) ?v4t rfl rfl (by kernel_rfl) (by kernel_rfl) (by kernel_rfl) (by kernel_rfl) (by kernel_rfl) (fun _ _ _ h => h) hCw ⟨.inl ⟨by kernel_rfl, fun W' hW' => ?y4t⟩, fun _ => rfl⟩ ?_
      case y4t => (obtain ⟨q0, q1, q2⟩ := hW'; go_simp; rfl)
      simp only [Act.put, List.setIfInBounds_toArray, List.set_cons_succ, List.set_cons_zero]
      refine anyL_take (i := 5) ?v5t rfl rfl (by kernel_rfl) (by kernel_rfl) (by kernel_rfl) (by kernel_rfl) (by kernel_rfl) (fun _ _ _ h => h) hCw ⟨.inl ⟨by kernel_rfl, fun W' hW' => ?y5t⟩, fun _ => rfl⟩ ?_
      case y5t => (obtain ⟨q0, q1, q2⟩ := hW'; go_simp; rfl)
      simp only [Act.put, List.setIfInBounds_toArray, List.set_cons_succ, List.set_cons_zero]
      refine anyL_take (i := 6) ?v6t rfl rfl (by kernel_rfl) (by kernel_rfl) (by kernel_rfl) (by kernel_rfl) (by kernel_rfl) (fun _ _ _ h => h) hCw ⟨.inl ⟨by kernel_rfl, fun W' hW' => ?y6t⟩, fun _ => rfl⟩ ?_
      case y6t => (obtain ⟨q0, q1, q2⟩ := hW'; go_simp; rfl)
      simp only [Act.put, List.setIfInBounds_toArray, List.set_cons_succ, List.set_cons_zero]
      refine anyL_take (i := 7) ?v7t rfl rfl (by kernel_rfl) (by kernel_rfl) (by kernel_rfl) (by kernel_rfl) (by kernel_rfl) (fun _ _ _ h => h) hCw ⟨.inl ⟨by kernel_rfl, fun W' hW' => ?y7t⟩, fun _ => rfl⟩ ?_
      case y7t => (obtain ⟨q0, q1, q2⟩ := hW'; go_simp; rfl)
      simp only [Act.put, List.setIfInBounds_toArray, List.set_cons_succ, List.set_cons_zero]
      refine anyL_take (i := 8) ?v8t rfl rfl (by kernel_rfl) (by kernel_rfl) (by kernel_rfl) (by kernel_rfl) (by kernel_rfl) (fun _ _ _ h => h) hCw ⟨.inl ⟨by kernel_rfl, fun W' hW' => ?y8t⟩, fun _ => rfl⟩ ?_
      case y8t => (obtain ⟨q0, q1, q2⟩ := hW'; go_simp; rfl)
      simp only [Act.put, List.setIfInBounds_toArray, List.set_cons_succ, List.set_cons_zero]
      refine anyL_take (i := 9) ?v9t rfl rfl (by kernel_rfl) (by kernel_rfl) (by kernel_rfl) (by kernel_rfl) (by kernel_rfl) (fun _ _ _ h => h) hCw ⟨.inl ⟨by kernel_rfl, fun W' hW' => ?y9t⟩, fun _ => rfl⟩ ?_
      case y9t => (obtain ⟨q0, q1, q2⟩ := hW'; go_simp; rfl)
      simp only [Act.put, List.setIfInBounds_toArray, List.set_cons_succ, List.set_cons_zero]
      refine anyL_take (i := 10) ?v10t rfl rfl (by kernel_rfl) (by kernel_rfl) (by kernel_rfl) (by kernel_rfl) (by kernel_rfl) (fun _ _ _ h => h) hCw ⟨.inl ⟨by kernel_rfl, fun W' hW' => ?y10t⟩, fun _ => rfl⟩ ?_
      case y10t => (obtain ⟨q0, q1, q2⟩ := hW'; go_simp; rfl)
      simp only [Act.put, List.setIfInBounds_toArray, List.set_cons_succ, List.set_cons_zero]
      refine anyL_last (by kernel_rfl) (by kernel_rfl) (wpOpIn_step rfl (fun K' hK' => ?_))
      go_simp
      cases hb : s.tk[tn + j] with
      | false =>
        refine ⟨trivial, rfl, (callsIn_wide.2 (need_yes _ _)).mono ?_⟩
        rintro e w' ⟨rfl, rfl⟩
        refine hK' _ _ ?_
        clear hK' K'
        go_wp2_with fail
        refine ⟨⟨j + 1, by omega, by simp, ?_, hBr.trans ((Below.refl _ _).drew.mono hBr.size)⟩, by simp [intOf]; omega⟩
        rw [freeB_succ, hfr, List.getElem?_eq_getElem hti, hb]; rfl
      | true =>
        refine ⟨trivial, rfl, (callsIn_wide.2 (need_no _ _)).mono ?_⟩
        rintro e w' ⟨rfl, rfl⟩
        refine ⟨rfl, .inr ⟨13, ap6 Hhi.out ⟨m1, m2⟩ (by rw [hR]; exact Hmap.out) ⟨m3, m4⟩ ⟨m5, m6⟩ ?_, rfl⟩, HFr4.out.below (hBr.trans ((Below.refl _ _).drew.mono hBr.size)) hsz4⟩
        rw [htn, Int.toNat_natCast]
        exact freeB_false (k := j) (by omega) (by rw [List.getElem?_eq_getElem hti, hb]; simp)
    · obtain ⟨mn, hmn⟩ : ∃ n : Nat, x.many = n := ⟨x.many.toNat, by omega⟩
      have hfree : freeB s.tk x.to.toNat x.many.toNat = true := by
        have e : j = mn := by omega
        rw [htn, hmn, Int.toNat_natCast, Int.toNat_natCast, ← e]; exact hfr
      have HSr := Lib.hid (HS4.out.below hBr)
      have HRTr := Lib.hid (HRT4.out.kept (fun q c f hq => block_below hq hBr))
      have HFrr := Lib.hid (HFr4.out.below hBr hsz4)
      have hszr : n0 ≤ wr.heap.size := by have := hBr.size; omega
      have Hfree := Lib.hid hfree
      obtain ⟨-, -, -, -, b1, b2, b3, f1⟩ := har
      clear hfree hfr
      go_wp2_with fail
      refine wp_region_anyL (L := 19) (C := fun W' => W'.cell? ⟨F, k * 2 + 1, none⟩ = some (.slice A' R.length c') ∧ W'.cell? ⟨b, 1, none⟩ = some (.int .i64 x.from_) ∧ W'.cell? ⟨b, 2, none⟩ = some (.int .i64 x.to) ∧ W'.cell? ⟨b, 3, none⟩ = some (.int .i64 x.many)) hmx ?_
      have hCw : (fun W' : World => W'.cell? ⟨F, k * 2 + 1, none⟩ = some (.slice A' R.length c') ∧ W'.cell? ⟨b, 1, none⟩ = some (.int .i64 x.from_) ∧ W'.cell? ⟨b, 2, none⟩ = some (.int .i64 x.to) ∧ W'.cell? ⟨b, 3, none⟩ = some (.int .i64 x.many)) wr.drew := ⟨f1, b1, b2, b3⟩
      refine anyL_take (i := 0) ?v0u rfl rfl (by kernel_rfl) (by kernel_rfl) (by kernel_rfl) (by kernel_rfl) (by kernel_rfl) (fun _ _ _ h => h) hCw ⟨.inl ⟨by kernel_rfl, fun W' hW' => ?y0u⟩, fun _ => rfl⟩ ?_
      case y0u => (obtain ⟨q0, q1, q2, q3⟩ := hW'; go_simp; rfl)
      simp only [Act.put, List.setIfInBounds_toArray, List.set_cons_succ, List.set_cons_zero]
      refine anyL_take (i := 1) ?v1u rfl rfl (by kernel_rfl) (by kernel_rfl) (by kernel_rfl) (by kernel_rfl) (by kernel_rfl) (fun _ _ _ h => h) hCw ⟨.inl ⟨by kernel_rfl, fun W' hW' => ?y1u⟩, fun _ => rfl⟩ ?_
      case y1u => (obtain ⟨q0, q1, q2, q3⟩ := hW'; go_simp; rfl)
      simp only [Act.put, List.setIfInBounds_toArray, List.set_cons_succ, List.set_cons_zero]
      refine anyL_take (i := 2) ?v2u rfl rfl (by kernel_rfl) (by kernel_rfl) (by kernel_rfl) (by kernel_rfl) (by kernel_rfl) (fun _ _ _ h => h) hCw ⟨.inl ⟨by kernel_rfl, fun W' hW' => ?y2u⟩, fun _ => rfl⟩ ?_
      case y2u => (obtain ⟨q0, q1, q2, q3⟩ := hW'; go_simp; rfl)
      simp only [Act.put, List.setIfInBounds_toArray, List.set_cons_succ, List.set_cons_zero]
      refine anyL_take (i := 3) ?v3u rfl rfl (by kernel_rfl) (by kernel_rfl) (by kernel_rfl) (by kernel_rfl) (by kernel_rfl) (fun _ _ _ h => h) hCw ⟨.inl ⟨by kernel_rfl, fun W' hW' => ?y3u⟩, fun _ => rfl⟩ ?_
      case y3u => (obtain ⟨q0, q1, q2, q3⟩ := hW'; go_simp; rfl)
      simp only [Act.put, List.setIfInBounds_toArray, List.set_cons_succ, List.set_cons_zero]
      refine anyL_take (i := 4) ?v4u rfl rfl (by kernel_rfl) (by kernel_rfl) (by kernel_rfl) (by kernel_rfl) (by kernel_rfl) (fun _ _ _ h => h) hCw ⟨.inl ⟨by kernel_rfl, fun W' hW' => ?y4u⟩, fun _ => rfl⟩ ?_
      case y4u => (obtain ⟨q0, q1, q2, q3⟩ := hW'; go_simp; rfl)
      simp only [Act.put, List.setIfInBounds_toArray, List.set_cons_succ, List.set_cons_zero]
      refine anyL_take (i := 5) ?v5u rfl rfl (by kernel_rfl) (by kernel_rfl) (by kernel_rfl) (by kernel_rfl) (by kernel_rfl) (fun _ _ _ h => h) hCw ⟨.inl ⟨by kernel_rfl, fun W' hW' => ?y5u⟩, fun _ => rfl⟩ ?_
      case y5u => (obtain ⟨q0, q1, q2, q3⟩ := hW'; go_simp; rfl)
      simp only [Act.put, List.setIfInBounds_toArray, List.set_cons_succ, List.set_cons_zero]
      refine anyL_take (i := 6) ?v6u rfl rfl (by kernel_rfl) (by kernel_rfl) (by kernel_rfl) (by kernel_rfl) (by kernel_rfl) (fun _ _ _ h => h) hCw ⟨.inl ⟨by kernel_rfl, fun W' hW' => ?y6u⟩, fun _ => rfl⟩ ?_
      case y6u => (obtain ⟨q0, q1, q2, q3⟩ := hW'; go_simp; rfl)
      simp only [Act.put, List.setIfInBounds_toArray, List.set_cons_succ, List.set_cons_zero]
      refine anyL_take (i := 7) ?v7u rfl rfl (by kernel_rfl) (by kernel_rfl) (by kernel_rfl) (by kernel_rfl) (by kernel_rfl) (fun _ _ _ h => h) hCw ⟨.inl ⟨by kernel_rfl, fun W' hW' => ?y7u⟩, fun _ => rfl⟩ ?_
      case y7u => (obtain ⟨q0, q1, q2, q3⟩ := hW'; go_simp; rfl)
      simp only [Act.put, List.setIfInBounds_toArray, List.set_cons_succ, List.set_cons_zero]
      refine anyL_take (i := 8) ?v8u rfl rfl (by kernel_rfl) (by kernel_rfl) (by kernel_rfl) (by kernel_rfl) (by kernel_rfl) (fun _ _ _ h => h) hCw ⟨.inl ⟨by kernel_rfl, fun W' hW' => ?y8u⟩, fun _ => rfl⟩ ?_
      case y8u => (obtain ⟨q0, q1, q2, q3⟩ := hW'; go_simp; rfl)
      simp only [Act.put, List.setIfInBounds_toArray, List.set_cons_succ, List.set_cons_zero]
      refine anyL_take (i := 9) ?v9u rfl rfl (by kernel_rfl) (by kernel_rfl) (by kernel_rfl) (by kernel_rfl) (by kernel_rfl) (fun _ _ _ h => h) hCw ⟨.inl ⟨by kernel_rfl, fun W' hW' => ?y9u⟩, fun _ => rfl⟩ ?_
      case y9u => (obtain ⟨q0, q1, q2, q3⟩ := hW'; go_simp; rfl)
      simp only [Act.put, List.setIfInBounds_toArray, List.set_cons_succ, List.set_cons_zero]
      refine anyL_take (i := 10) ?v10u rfl rfl (by kernel_rfl) (by kernel_rfl) (by kernel_rfl) (by kernel_rfl) (by kernel_rfl) (fun _ _ _ h => h) hCw ⟨.inl ⟨by kernel_rfl, fun W' hW' => ?y10u⟩, fun _ => rfl⟩ ?_
      case y10u => (obtain ⟨q0, q1, q2, q3⟩ := hW'; go_simp; rfl)
      simp only [Act.put, List.setIfInBounds_toArray, List.set_cons_succ, List.set_cons_zero]
      refine anyL_only (i := 11) (by kernel_rfl) (wpOpIn_step rfl (fun K' hK' => ?_))
      go_simp
      have hBB : Below wr.heap.size wr (wr.drew.alloc (.cells #[.int .i64 (tn : Int), .int .i64 (mn : Int)] 52)) := (Below.refl _ _).drew.alloc (Nat.le_refl _) _
      have hCwB : (fun W' : World => W'.cell? ⟨F, k * 2 + 1, none⟩ = some (.slice A' R.length c') ∧ W'.cell? ⟨b, 1, none⟩ = some (.int .i64 x.from_) ∧ W'.cell? ⟨b, 2, none⟩ = some (.int .i64 x.to) ∧ W'.cell? ⟨b, 3, none⟩ = some (.int .i64 x.many)) (wr.drew.alloc (.cells #[.int .i64 (tn : Int), .int .i64 (mn : Int)] 52)) := ⟨cell_below f1 hBB, cell_below b1 hBB, cell_below b2 hBB, cell_below b3 hBB⟩
      refine hK' _ _ ⟨fun _ => hCwB, ?_⟩
      clear hK' K'
      refine anyL_only (i := 12) (by kernel_rfl) (wpOpIn_step rfl (fun K' hK' => ?_))
      go_simp
      have hmore : mustE [(⟨(tn : Int), (mn : Int)⟩ : Run)] = 0 := by
        have q1 : okRun ⟨(tn : Int), (mn : Int)⟩ = true := by rw [okRun_iff]; dsimp only; omega
        have q2 : validL [(⟨(tn : Int), (mn : Int)⟩ : Run)] = true := by simp only [validL, List.all_cons, List.all_nil, q1, pagesL]; simp; omega
        rw [mustE, if_neg (by simp), if_pos q2]
      have hnew : RunsC (wr.drew.alloc (.cells #[.int .i64 (tn : Int), .int .i64 (mn : Int)] 52)) (some ⟨wr.heap.size, 0, none⟩) [⟨(tn : Int), (mn : Int)⟩] := by
        intro q hq
        obtain rfl : q = 0 := by simp at hq; omega
        have hn := World.alloc_heap_new wr.drew (.cells #[.int .i64 (tn : Int), .int .i64 (mn : Int)] 52)
        exact ⟨wr.heap.size, 0, rfl, by simpa using cell_at hn 0, by simpa using cell_at hn 1⟩
      refine ⟨trivial, rfl, (callsIn_wide.2 (put_any R [⟨(tn : Int), (mn : Int)⟩] A' (some ⟨wr.heap.size, 0, none⟩) c' 1 x.from_ _ hme hmore (HRTr.out.c.below hBB) hnew m2 (by omega) (by simp [pagesL]; omega))).mono ?_⟩
      have hX : stX s x = putX R x.from_ [⟨(tn : Int), (mn : Int)⟩] := by simp only [stX, hR, htn, hmn]
      have HX2 := Lib.hid hX
      clear hX
      rintro e w5 ⟨⟨hfit, A5, c5, v5, rfl, hown5⟩ | ⟨hfit, rfl⟩, hB5⟩
      rotate_left
      · have hBd5 := below_then hBB hB5
        have hCw5 : (fun W' : World => W'.cell? ⟨F, k * 2 + 1, none⟩ = some (.slice A' R.length c') ∧ W'.cell? ⟨b, 1, none⟩ = some (.int .i64 x.from_) ∧ W'.cell? ⟨b, 2, none⟩ = some (.int .i64 x.to) ∧ W'.cell? ⟨b, 3, none⟩ = some (.int .i64 x.many)) w5 := ⟨cell_below f1 hBd5, cell_below b1 hBd5, cell_below b2 hBd5, cell_below b3 hBd5⟩
        refine hK' _ _ ⟨fun _ => hCw5, ?_⟩
        clear hK' K'
        refine anyL_take (i := 13) ?v13w rfl rfl (by kernel_rfl) (by kernel_rfl) (by kernel_rfl) (by kernel_rfl) (by kernel_rfl) (fun _ _ _ h => h) hCw5 ⟨.inl ⟨by kernel_rfl, fun W' hW' => ?y13w⟩, fun _ => rfl⟩ ?_
        case y13w => (skip; go_simp; rfl)
        simp only [Act.put, List.setIfInBounds_toArray, List.set_cons_succ, List.set_cons_zero]
        refine anyL_take (i := 14) ?v14w rfl rfl (by kernel_rfl) (by kernel_rfl) (by kernel_rfl) (by kernel_rfl) (by kernel_rfl) (fun _ _ _ h => h) hCw5 ⟨.inl ⟨by kernel_rfl, fun W' hW' => ?y14w⟩, fun _ => rfl⟩ ?_
        case y14w => (skip; go_simp; rfl)
        simp only [Act.put, List.setIfInBounds_toArray, List.set_cons_succ, List.set_cons_zero]
        refine anyL_take (i := 15) ?v15w rfl rfl (by kernel_rfl) (by kernel_rfl) (by kernel_rfl) (by kernel_rfl) (by kernel_rfl) (fun _ _ _ h => h) hCw5 ⟨.inl ⟨by kernel_rfl, fun W' hW' => ?y15w⟩, fun _ => rfl⟩ ?_
        case y15w => (skip; go_simp; rfl)
        simp only [Act.put, List.setIfInBounds_toArray, List.set_cons_succ, List.set_cons_zero]
        refine anyL_take (i := 16) ?v16w rfl rfl (by kernel_rfl) (by kernel_rfl) (by kernel_rfl) (by kernel_rfl) (by kernel_rfl) (fun _ _ _ h => h) hCw5 ⟨.inl ⟨by kernel_rfl, fun W' hW' => ?y16w⟩, fun _ => rfl⟩ ?_
        case y16w => (skip; go_simp; rfl)
        simp only [Act.put, List.setIfInBounds_toArray, List.set_cons_succ, List.set_cons_zero]
        refine anyL_take (i := 17) ?v17w rfl rfl (by kernel_rfl) (by kernel_rfl) (by kernel_rfl) (by kernel_rfl) (by kernel_rfl) (fun _ _ _ h => h) hCw5 ⟨.inl ⟨by kernel_rfl, fun W' hW' => ?y17w⟩, fun _ => rfl⟩ ?_
        case y17w => (skip; go_simp; rfl)
        simp only [Act.put, List.setIfInBounds_toArray, List.set_cons_succ, List.set_cons_zero]
        refine anyL_take (i := 18) ?v18w rfl rfl (by kernel_rfl) (by kernel_rfl) (by kernel_rfl) (by kernel_rfl) (by kernel_rfl) (fun _ _ _ h => h) hCw5 ⟨.inl ⟨by kernel_rfl, fun W' hW' => ?y18w⟩, fun _ => rfl⟩ ?_
        case y18w => (skip; go_simp; rfl)
        simp only [Act.put, List.setIfInBounds_toArray, List.set_cons_succ, List.set_cons_zero]
        refine anyL_last (by kernel_rfl) (by kernel_rfl) (wpOpIn_step rfl (fun K' hK' => ?_))
        go_simp
        refine hK' _ _ ?_
        clear hK' K'
        go_wp2_with (go_at_call 37; refine (need_no _ _).mono ?_; rintro e w' ⟨rfl, rfl⟩)
        exact ⟨rfl, .inr ⟨1, ap7 Hhi.out ⟨m1, m2⟩ (by rw [hR]; exact Hmap.out) ⟨m3, m4⟩ ⟨m5, m6⟩ Hfree.out (by rw [HX2.out]; exact hfit), rfl⟩, HFrr.out.below hBd5 hszr⟩
      have hBd5 := below_then hBB hB5
      have hCw5 : (fun W' : World => W'.cell? ⟨F, k * 2 + 1, none⟩ = some (.slice A' R.length c') ∧ W'.cell? ⟨b, 1, none⟩ = some (.int .i64 x.from_) ∧ W'.cell? ⟨b, 2, none⟩ = some (.int .i64 x.to) ∧ W'.cell? ⟨b, 3, none⟩ = some (.int .i64 x.many)) w5 := ⟨cell_below f1 hBd5, cell_below b1 hBd5, cell_below b2 hBd5, cell_below b3 hBd5⟩
      have hT5 := RunsT.of_owns hown5
      have HS5 := Lib.hid (HSr.out.below hBd5)
      have HFr5 := Lib.hid (HFrr.out.below hBd5 hszr)
      have HA5 := Lib.hid (HAr.out.below hBd5)
      have hsz5 : n0 ≤ w5.heap.size := by have := hBd5.size; omega
      have HT5 := Lib.hid hT5
      clear hT5 hown5
      refine hK' _ _ ⟨fun _ => hCw5, ?_⟩
      clear hK' K'
      refine anyL_take (i := 13) ?v13x rfl rfl (by kernel_rfl) (by kernel_rfl) (by kernel_rfl) (by kernel_rfl) (by kernel_rfl) (fun _ _ _ h => h) hCw5 ⟨.inl ⟨by kernel_rfl, fun W' hW' => ?y13x⟩, fun _ => rfl⟩ ?_
      case y13x => (skip; go_simp; rfl)
      simp only [Act.put, List.setIfInBounds_toArray, List.set_cons_succ, List.set_cons_zero]
      refine anyL_take (i := 14) ?v14x rfl rfl (by kernel_rfl) (by kernel_rfl) (by kernel_rfl) (by kernel_rfl) (by kernel_rfl) (fun _ _ _ h => h) hCw5 ⟨.inl ⟨by kernel_rfl, fun W' hW' => ?y14x⟩, fun _ => rfl⟩ ?_
      case y14x => (skip; go_simp; rfl)
      simp only [Act.put, List.setIfInBounds_toArray, List.set_cons_succ, List.set_cons_zero]
      refine anyL_take (i := 15) ?v15x rfl rfl (by kernel_rfl) (by kernel_rfl) (by kernel_rfl) (by kernel_rfl) (by kernel_rfl) (fun _ _ _ h => h) hCw5 ⟨.inl ⟨by kernel_rfl, fun W' hW' => ?y15x⟩, fun _ => rfl⟩ ?_
      case y15x => (skip; go_simp; rfl)
      simp only [Act.put, List.setIfInBounds_toArray, List.set_cons_succ, List.set_cons_zero]
      refine anyL_take (i := 16) ?v16x rfl rfl (by kernel_rfl) (by kernel_rfl) (by kernel_rfl) (by kernel_rfl) (by kernel_rfl) (fun _ _ _ h => h) hCw5 ⟨.inl ⟨by kernel_rfl, fun W' hW' => ?y16x⟩, fun _ => rfl⟩ ?_
      case y16x => (skip; go_simp; rfl)
      simp only [Act.put, List.setIfInBounds_toArray, List.set_cons_succ, List.set_cons_zero]
      refine anyL_take (i := 17) ?v17x rfl rfl (by kernel_rfl) (by kernel_rfl) (by kernel_rfl) (by kernel_rfl) (by kernel_rfl) (fun _ _ _ h => h) hCw5 ⟨.inl ⟨by kernel_rfl, fun W' hW' => ?y17x⟩, fun _ => rfl⟩ ?_
      case y17x => (skip; go_simp; rfl)
      simp only [Act.put, List.setIfInBounds_toArray, List.set_cons_succ, List.set_cons_zero]
      refine anyL_take (i := 18) ?v18x rfl rfl (by kernel_rfl) (by kernel_rfl) (by kernel_rfl) (by kernel_rfl) (by kernel_rfl) (fun _ _ _ h => h) hCw5 ⟨.inl ⟨by kernel_rfl, fun W' hW' => ?y18x⟩, fun _ => rfl⟩ ?_
      case y18x => (skip; go_simp; rfl)
      simp only [Act.put, List.setIfInBounds_toArray, List.set_cons_succ, List.set_cons_zero]
      refine anyL_last (by kernel_rfl) (by kernel_rfl) (wpOpIn_step rfl (fun K' hK' => ?_))
      go_simp
      refine hK' _ _ ?_
      clear hK' K' hCw5 hCwB hCw
      obtain ⟨b0, b1, b2, b3, f1⟩ := And.intro HA5.out.b0 (And.intro HA5.out.b1 (And.intro HA5.out.b2 (And.intro HA5.out.b3 HA5.out.f1)))
      have hfF : w5.frozen? ⟨F, k * 2 + 1, none⟩ = false := by
        obtain ⟨vs5, hvs5⟩ := HS5.out.fileBlock (by intro e; rw [e] at hk; simp at hk)
        exact free_at hvs5 _
      obtain ⟨X, hXd⟩ : ∃ X, putX R x.from_ [⟨(tn : Int), (mn : Int)⟩] = X := ⟨_, rfl⟩
      rw [hXd] at HX2 HT5 hfit ⊢
      have hbF : b ≠ F := fun e => by have h1 := Hbox.out; rw [e, hvs] at h1; cases h1
      have hset : ∀ (q : Nat), (w5.setCell ⟨F, k * 2 + 1, none⟩ (.slice A5 X.length c5)).cell? ⟨b, q, none⟩ = w5.cell? ⟨b, q, none⟩ := fun q => World.cell?_of_block (a := ⟨b, q, none⟩) (Below.heap_setCell _ _ _ _ hbF)
      have b2' := (hset 2).trans b2
      have b3' := (hset 3).trans b3
      go_wp2_with (go_at_call 37; refine (need_yes _ _).mono ?_; rintro e w' ⟨rfl, rfl⟩)
      obtain ⟨hS6, hF6⟩ := HS5.out.putRuns hk HT5.out (c := c5)
      obtain ⟨w6, hw6⟩ : ∃ w6, w5.setCell ⟨F, k * 2 + 1, none⟩ (.slice A5 X.length c5) = w6 := ⟨_, rfl⟩
      rw [hw6] at hS6 hF6 hset b2' b3' ⊢
      have b0' := (hset 0).trans b0
      have b1' := (hset 1).trans b1
      have hbT : b ≠ T := fun e => by
        have h1 := Hbox.out
        obtain ⟨_, _, _, _, _, _, _, _, _, _, _, _, hTt, _⟩ := Hs1.out
        rw [e, hTt] at h1; simp at h1
      have hPF : P ≠ F := fun e => by
        obtain ⟨_, _, _, _, _, _, _, _, _, hPp, _⟩ := Hs1.out
        rw [e, hvs] at hPp; cases hPp
      have hPT : P ≠ T := fun e => by
        obtain ⟨_, _, _, _, _, _, _, _, _, hPp, _, _, hTt, _⟩ := Hs1.out
        rw [e, hTt] at hPp; simp at hPp
      have g4 : w6.cell? ⟨P, 4, none⟩ = some st := by
        rw [← hw6]
        exact (World.cell?_of_block (a := ⟨P, 4, none⟩) (Below.heap_setCell _ _ _ _ hPF)).trans HA5.out.p4
      have hgr := (Hg.out.2.2.2.2.2 _ (List.getElem_mem hk)).2.2
      rw [hRd] at hgr
      have hrr2 := hgr _ hrr
      have htl := Htl.out
      have HFr6 := Lib.hid (HFr5.out.trans hF6)
      have hfn : 0 ≤ f ∧ f + x.many ≤ s.tk.length := by
        rcases M5 with ⟨_, h⟩ | ⟨h, h2, h3⟩
        · omega
        · omega
      have Hfn := Lib.hid hfn
      have hXs : (⟨⟨s.pic.size, s.pic.fixed, setRuns s.pic.files k X⟩, s.tk, s.steps⟩ : Spc).tk = s.tk := rfl
      refine (take_only n0 P F T _ tn mn true _ hS6 (by dsimp only; omega) (by dsimp only; omega)).mono ?_
      have htn' : x.to.toNat = tn := by omega
      have hmn' : x.many.toNat = mn := by omega
      have hap := fun (t : List Bool) (t' : List Bool) (h8 : takeL s.tk tn true mn = some t) (h9 : takeL t f.toNat false mn = some t') =>
        ap10 (s := s) (x := x) (f := f) (m := m) Hhi.out ⟨m1, m2⟩ (by rw [hR]; exact Hmap.out) ⟨m3, m4⟩ ⟨m5, m6⟩ Hfree.out (by rw [HX2.out]; exact hfit) (by rw [htn', hmn']; exact h8) (by rw [hmn']; exact h9)
      have Hap := Lib.hid hap
      clear hap
      rintro e w7 ⟨⟨⟨t, ht, rfl, hS7⟩ | ⟨ht, rfl⟩, hF7⟩, hO7⟩
      rotate_left
      · exact ⟨rfl, .inr ⟨9, ap8 Hhi.out ⟨m1, m2⟩ (by rw [hR]; exact Hmap.out) ⟨m3, m4⟩ ⟨m5, m6⟩ Hfree.out (by rw [HX2.out]; exact hfit) (by rw [htn', hmn']; exact ht), rfl⟩, HFr6.out.trans hF7⟩
      have b0' := hO7.cell hbT b0'
      have b1' := hO7.cell hbT b1'
      have b2' := hO7.cell hbT b2'
      have b3' := hO7.cell hbT b3'
      have Ht := Lib.hid ht
      have HS7 := Lib.hid hS7
      have HFr7 := Lib.hid (HFr6.out.trans hF7)
      have htl7 := takeL_length ht
      dsimp only at htl7
      clear ht hS7 hF7 hS6 hF6
      go_wp2_with fail
      refine (take_int2 n0 P F T _ f (mn : Int) false _ (by omega) (by omega) HS7.out (by dsimp only; omega) (by dsimp only; omega)).mono ?_
      rintro e w8 ⟨⟨⟨t2, ht2, rfl, hS8⟩ | ⟨ht2, rfl⟩, hF8⟩, hO8⟩
      rotate_left
      · exact ⟨rfl, .inr ⟨9, ap9 Hhi.out ⟨m1, m2⟩ (by rw [hR]; exact Hmap.out) ⟨m3, m4⟩ ⟨m5, m6⟩ Hfree.out (by rw [HX2.out]; exact hfit) (by rw [htn', hmn']; exact Ht.out) (by rw [hmn']; simpa using ht2), rfl⟩, HFr7.out.trans hF8⟩
      rw [Int.toNat_natCast] at ht2
      have e0 := hO8.cell hbT b0'
      have e1 := hO8.cell hbT b1'
      have e2 := hO8.cell hbT b2'
      have e3 := hO8.cell hbT b3'
      have HR10 := Lib.hid (Hap.out t t2 Ht.out ht2)
      obtain ⟨_, _, _, _, _, st8, -, -, -, -, p4, -, -, hown8⟩ := hS8.cellP
      have h88 := hO8.cell hPT (hO7.cell hPT g4)
      rw [p4] at h88
      obtain rfl : st8 = st := by cases h88; rfl
      clear h88 g4
      have HS8 := Lib.hid hS8
      have HO8 := Lib.hid hown8
      have HFr8 := Lib.hid (HFr7.out.trans hF8)
      clear ht2 hS8 hF8 hown8 b0' b1' b2' b3' b0 b1 b2 b3
      go_wp2_with fail
      refine wp_region_anyL (L := 10) (C := fun W' => W'.cell? ⟨P, 4, none⟩ = some st8 ∧ W'.cell? ⟨b, 0, none⟩ = some (.int .i64 x.no) ∧ W'.cell? ⟨b, 1, none⟩ = some (.int .i64 x.from_) ∧ W'.cell? ⟨b, 2, none⟩ = some (.int .i64 x.to) ∧ W'.cell? ⟨b, 3, none⟩ = some (.int .i64 x.many)) hmx ?_
      have hCw : (fun W' : World => W'.cell? ⟨P, 4, none⟩ = some st8 ∧ W'.cell? ⟨b, 0, none⟩ = some (.int .i64 x.no) ∧ W'.cell? ⟨b, 1, none⟩ = some (.int .i64 x.from_) ∧ W'.cell? ⟨b, 2, none⟩ = some (.int .i64 x.to) ∧ W'.cell? ⟨b, 3, none⟩ = some (.int .i64 x.many)) w8.drew := ⟨p4, e0, e1, e2, e3⟩
      refine anyL_take (i := 0) ?v0z rfl rfl (by kernel_rfl) (by kernel_rfl) (by kernel_rfl) (by kernel_rfl) (by kernel_rfl) (fun _ _ _ h => h) hCw ⟨.inl ⟨by kernel_rfl, fun W' hW' => ?y0z⟩, fun _ => rfl⟩ ?_
      case y0z => (obtain ⟨q0, q1, q2, q3, q4⟩ := hW'; go_simp; rfl)
      simp only [Act.put, List.setIfInBounds_toArray, List.set_cons_succ, List.set_cons_zero]
      refine anyL_take (i := 1) ?v1z rfl rfl (by kernel_rfl) (by kernel_rfl) (by kernel_rfl) (by kernel_rfl) (by kernel_rfl) (fun _ _ _ h => h) hCw ⟨.inl ⟨by kernel_rfl, fun W' hW' => ?y1z⟩, fun _ => rfl⟩ ?_
      case y1z => (obtain ⟨q0, q1, q2, q3, q4⟩ := hW'; go_simp; rfl)
      simp only [Act.put, List.setIfInBounds_toArray, List.set_cons_succ, List.set_cons_zero]
      refine anyL_take (i := 2) ?v2z rfl rfl (by kernel_rfl) (by kernel_rfl) (by kernel_rfl) (by kernel_rfl) (by kernel_rfl) (fun _ _ _ h => h) hCw ⟨.inl ⟨by kernel_rfl, fun W' hW' => ?y2z⟩, fun _ => rfl⟩ ?_
      case y2z => (obtain ⟨q0, q1, q2, q3, q4⟩ := hW'; go_simp; rfl)
      simp only [Act.put, List.setIfInBounds_toArray, List.set_cons_succ, List.set_cons_zero]
      refine anyL_take (i := 3) ?v3z rfl rfl (by kernel_rfl) (by kernel_rfl) (by kernel_rfl) (by kernel_rfl) (by kernel_rfl) (fun _ _ _ h => h) hCw ⟨.inl ⟨by kernel_rfl, fun W' hW' => ?y3z⟩, fun _ => rfl⟩ ?_
      case y3z => (obtain ⟨q0, q1, q2, q3, q4⟩ := hW'; go_simp; rfl)
      simp only [Act.put, List.setIfInBounds_toArray, List.set_cons_succ, List.set_cons_zero]
      refine anyL_take (i := 4) ?v4z rfl rfl (by kernel_rfl) (by kernel_rfl) (by kernel_rfl) (by kernel_rfl) (by kernel_rfl) (fun _ _ _ h => h) hCw ⟨.inl ⟨by kernel_rfl, fun W' hW' => ?y4z⟩, fun _ => rfl⟩ ?_
      case y4z => (obtain ⟨q0, q1, q2, q3, q4⟩ := hW'; go_simp; rfl)
      simp only [Act.put, List.setIfInBounds_toArray, List.set_cons_succ, List.set_cons_zero]
      refine anyL_take (i := 5) ?v5z rfl rfl (by kernel_rfl) (by kernel_rfl) (by kernel_rfl) (by kernel_rfl) (by kernel_rfl) (fun _ _ _ h => h) hCw ⟨.inl ⟨by kernel_rfl, fun W' hW' => ?y5z⟩, fun _ => rfl⟩ ?_
      case y5z => (obtain ⟨q0, q1, q2, q3, q4⟩ := hW'; go_simp; rfl)
      simp only [Act.put, List.setIfInBounds_toArray, List.set_cons_succ, List.set_cons_zero]
      refine anyL_only (i := 6) (by kernel_rfl) (wpOpIn_step rfl (fun K' hK' => ?_))
      go_simp
      have hBB : Below w8.heap.size w8 (w8.drew.alloc (.cells #[.int .i64 x.no, .int .i64 x.from_, .int .i64 (tn : Int), .int .i64 (mn : Int)] 35)) := (Below.refl _ _).drew.alloc (Nat.le_refl _) _
      have hCwB : (fun W' : World => W'.cell? ⟨P, 4, none⟩ = some st8 ∧ W'.cell? ⟨b, 0, none⟩ = some (.int .i64 x.no) ∧ W'.cell? ⟨b, 1, none⟩ = some (.int .i64 x.from_) ∧ W'.cell? ⟨b, 2, none⟩ = some (.int .i64 x.to) ∧ W'.cell? ⟨b, 3, none⟩ = some (.int .i64 x.many)) (w8.drew.alloc (.cells #[.int .i64 x.no, .int .i64 x.from_, .int .i64 (tn : Int), .int .i64 (mn : Int)] 35)) := ⟨cell_below p4 hBB, cell_below e0 hBB, cell_below e1 hBB, cell_below e2 hBB, cell_below e3 hBB⟩
      refine hK' _ _ ⟨fun _ => hCwB, ?_⟩
      clear hK' K'
      obtain ⟨i0, hi0, hz0, hz1, hz2⟩ := info_parts info35
      have hSB := HS8.out.below hBB
      have hst9 : s.steps.length ≤ 1099511627776 := Hg.out.2.2.2.2.1
      obtain ⟨_, _, _, _, _, stB, -, -, -, -, p4B, -, -, hownB⟩ := hSB.cellP
      obtain rfl : stB = st8 := by have h1 := hCwB.1; rw [p4B] at h1; cases h1; rfl
      obtain ⟨g9, c9, w9, hr9, hown9, hg9, -⟩ := run_append_one (P := Try.prog) (w8.drew.alloc (.cells #[.int .i64 x.no, .int .i64 x.from_, .int .i64 (tn : Int), .int .i64 (mn : Int)] 35)) n0 26 26 35 i0 (.agg #[.int .i64 0, .int .i64 0, .int .i64 0, .int .i64 0]) 4 32 Try.underlying26 hi0 hz0 hz1 hz2 rfl (by decide) stB s.steps.length (flatS s.steps) hownB ⟨w8.heap.size, 0, none⟩ 1 (flatS [x]) rfl
        (by
          intro q u hq
          have hn := World.alloc_heap_new w8.drew (.cells #[.int .i64 x.no, .int .i64 x.from_, .int .i64 (tn : Int), .int .i64 (mn : Int)] 35)
          have hadd : ((⟨w8.heap.size, 0, none⟩ : Addr).add q) = ⟨w8.heap.size, q, none⟩ := by unfold Addr.add; split <;> simp_all
          rw [hadd]
          refine (cell_at hn q).trans ?_
          simp only [flatS, htn, hmn] at hq
          simpa using hq)
        (by intro u hu; simp only [flatS, List.mem_cons, List.not_mem_nil, or_false] at hu; rcases hu with rfl | rfl | rfl | rfl <;> rfl)
        (by simp only [maxLen]; omega) (by omega) (by have := hSB.1; obtain ⟨_, _, _, _, _, _, _, _, _, hPp, _⟩ := hSB; have := lt_of_block hPp; omega)
      obtain ⟨hS9, hF9⟩ := hSB.addStep p4B x hown9 hg9
      have hPn : some P ≠ stB.ownBlock := fun e => by
        obtain ⟨_, _, _, _, _, _, _, _, _, hPp, _⟩ := hSB
        rcases hownB.2 with ⟨rfl, _⟩ | ⟨g, cap, cur, rfl, _, hgg, _⟩
        · simp [Value.ownBlock] at e
        · simp [Value.ownBlock] at e; subst e; rw [hPp] at hgg; cases hgg
      have hbn : some b ≠ stB.ownBlock := fun e => by have := hstb b e.symm; omega
      have hCw9 : (fun W' : World => W'.cell? ⟨P, 4, none⟩ = some stB ∧ W'.cell? ⟨b, 0, none⟩ = some (.int .i64 x.no) ∧ W'.cell? ⟨b, 1, none⟩ = some (.int .i64 x.from_) ∧ W'.cell? ⟨b, 2, none⟩ = some (.int .i64 x.to) ∧ W'.cell? ⟨b, 3, none⟩ = some (.int .i64 x.many)) w9 := ⟨hg9.cell hCwB.1 hPn, hg9.cell hCwB.2.1 hbn, hg9.cell hCwB.2.2.1 hbn, hg9.cell hCwB.2.2.2.1 hbn, hg9.cell hCwB.2.2.2.2 hbn⟩
      refine anyL_only (i := 7) (by kernel_rfl) (wpOpIn_value rfl rfl (by kernel_rfl) rfl (run_exec_append rfl hr9) ⟨fun _ => hCw9, ?_⟩)
      refine anyL_take (i := 8) ?v8zz rfl rfl (by kernel_rfl) (by kernel_rfl) (by kernel_rfl) (by kernel_rfl) (by kernel_rfl) (fun _ _ _ h => h) hCw9 ⟨.inl ⟨by kernel_rfl, fun W' hW' => ?y8zz⟩, fun _ => rfl⟩ ?_
      case y8zz => (skip; go_simp; rfl)
      simp only [Act.put, List.setIfInBounds_toArray, List.set_cons_succ, List.set_cons_zero]
      refine anyL_take (i := 9) ?v9zz rfl rfl (by kernel_rfl) (by kernel_rfl) (by kernel_rfl) (by kernel_rfl) (by kernel_rfl) (fun _ _ _ h => h) hCw9 ⟨.inl ⟨by kernel_rfl, fun W' hW' => ?y9zz⟩, fun _ => rfl⟩ ?_
      case y9zz => (skip; go_simp; rfl)
      simp only [Act.put, List.setIfInBounds_toArray, List.set_cons_succ, List.set_cons_zero]
      have hPb : ∃ cs, w9.heap[P]? = some (.cells cs 72 (0, 0)) := by
        obtain ⟨_, _, _, _, _, _, _, _, _, hPp, _⟩ := hSB
        exact ⟨_, (hg9.block P (lt_of_block hPp) hPn).trans hPp⟩
      obtain ⟨cs9, hcs9⟩ := hPb
      have z9 := free_at hcs9 4
      have q4 := hCw9.1
      refine anyL_last (by kernel_rfl) (by kernel_rfl) (wpOpIn_step rfl (fun K' hK' => ?_))
      go_simp
      refine hK' _ _ ?_
      clear hK' K'
      go_wp2_with fail
      go_end0
      refine ⟨.inl ⟨_, HR10.out, rfl, ?_⟩, HFr8.out.trans ((FrS.refl _ _ _ _ _).below hBB (by have := HFr8.out.1.size; have := hsz5; obtain ⟨_, _, _, _, _, _, _, _, _, hPp, _⟩ := HS8.out; have := lt_of_block hPp; have := HS8.out.1; omega) |>.trans hF9)⟩
      rw [hik, Int.toNat_natCast, HX2.out]
      exact hS9
end Go.Proofs.Yteipclnlfanfeaa
