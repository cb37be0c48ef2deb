/- MoveSteps answers true at every picture and every list of steps, and leaves what it was given as it was. No conditions. -/
import Derived.Test.YteipclnlfanfeaaArgs
import Derived.Test.YteipclnlfanfeaaLawS
import Derived.Test.YteipclnlfanfeaaOwnA
set_option linter.unusedVariables false
set_option linter.unusedSimpArgs false
namespace Go.Proofs.Yteipclnlfanfeaa
open Go.Joins Go.ChangeShapes Go.WideShapes Go.ChangeAt Go.RowKit Go.Deep

section
variable {H : Type} {enc : TypeId × Value → H} {w : World} {base : Nat} {spare : Nat → Bool} {held : Bool}
set_option maxRecDepth 100000 in
theorem reads_steps {r : Reach} {b0 : Nat} {v : Value} {d : DataW H} {p : List MemPlace} (hv : Value.okWide Try.prog w r b0 26 v) (h : DataW.Trod enc Try.prog w base spare held 26 v d p) : ∃ A c l, v = .slice A l.length c ∧ StepC w A l := by
  obtain ⟨a0, len0, cap0, rfl⟩ := okWide_slice Try.underlying26 hv
  obtain ⟨n, h⟩ := h
  rcases open_slice_fields Try.underlying26 Try.underlying35 (by kernel_rfl) (by kernel_rfl) h with ⟨h0, -⟩ | ⟨a, len, cap, m, D, Pl, hcs, -, hl, -, hm, -, hf⟩
  · simp [Value.cells] at h0
    obtain ⟨rfl, rfl, rfl⟩ := h0
    exact ⟨none, 0, [], rfl, fun k hk => absurd hk (by simp)⟩
  simp [Value.cells] at hcs
  obtain ⟨rfl, rfl, rfl⟩ := hcs
  have hlm : len0 ≤ m := by subst hm; split <;> omega
  have key : ∀ i, ∃ e : Step, i < len0 → w.cell? (a.add (i * 4 + 0)) = some (.int .i64 e.no) ∧ w.cell? (a.add (i * 4 + 1)) = some (.int .i64 e.from_) ∧ w.cell? (a.add (i * 4 + 2)) = some (.int .i64 e.to) ∧ w.cell? (a.add (i * 4 + 3)) = some (.int .i64 e.many) := by
    intro i
    by_cases hi : i < len0
    · obtain ⟨ys, n', -, -, -, hg⟩ := hf i (by omega)
      obtain ⟨v0, y0, hc0, -, ht0⟩ := hg 0 _ rfl
      obtain ⟨v1, y1, hc1, -, ht1⟩ := hg 1 _ rfl
      obtain ⟨v2, y2, hc2, -, ht2⟩ := hg 2 _ rfl
      obtain ⟨v3, y3, hc3, -, ht3⟩ := hg 3 _ rfl
      obtain ⟨n0, e0, -⟩ := DataW.trod_int Try.underlying3 ht0
      obtain ⟨n1, e1, -⟩ := DataW.trod_int Try.underlying3 ht1
      obtain ⟨n2, e2, -⟩ := DataW.trod_int Try.underlying3 ht2
      obtain ⟨n3, e3, -⟩ := DataW.trod_int Try.underlying3 ht3
      cases e0; cases e1; cases e2; cases e3
      exact ⟨⟨n0, n1, n2, n3⟩, fun _ => ⟨hc0, hc1, hc2, hc3⟩⟩
    · exact ⟨⟨0, 0, 0, 0⟩, fun h => absurd h hi⟩
  obtain ⟨E, hE⟩ := Classical.axiomOfChoice key
  refine ⟨some a, cap0, (List.range len0).map E, by simp, fun k hk => ?_⟩
  have hk' : k < len0 := by simpa using hk
  obtain ⟨h0, h1, h2, h3⟩ := hE k hk'
  have hsp := World.cell?_spot (hE 0 (by omega)).1
  obtain ⟨b, o, sp⟩ := a
  simp [Addr.add] at hsp
  subst hsp
  refine ⟨b, o, rfl, ?_, ?_, ?_, ?_⟩
  · simpa [add_is] using h0
  · simpa [add_is, Nat.add_assoc] using h1
  · simpa [add_is, Nat.add_assoc] using h2
  · simpa [add_is, Nat.add_assoc] using h3
end

theorem steps_any (p : Pic) (l : List Step) (v : Value) (A : Option Addr) (c : Nat) (w : World) (hp : PicC w v p) (hl : StepC w A l) :
    Calls Try.prog 3 #[v, .slice A l.length c] w fun e w' => e = .returned (.bool true) ∧ Below w.heap.size w w' := steps_of own_walk p l v A c w hp hl

set_option maxRecDepth 100000 in
theorem steps_contract {H : Type} {enc : TypeId × Value → H} {fresh handsOn again : Bool} (W : World) (base : Nat) (args : Array Value) (ds gs : List (DataW H)) (before : List MemPlace)
    (hval0 : ∀ (j : Nat) t v, Try.f3.params[j]? = some t → args[j]? = some v → Value.okWide Try.prog W .any base t v)
    (hW : DataW.Whole enc Try.prog Try.f3.params.toList Rows.moveStepsSpec.vars false W args.toList ds gs before) :
    Calls Try.prog 3 args W fun e W' => ∃ v, e = .returned v ∧ Rows.moveStepsSpec.post enc Try.prog Try.f3 false fresh handsOn again W args v W' := by
  have hval := hval0
  have hW' := hW
  obtain ⟨p, q, hA0, hV, rfl, -, -⟩ := hW
  have hA : DataW.TrodAll enc Try.prog W 0 (fun _ => true) true Try.f3.params.toList args.toList ds p := hA0
  rw [Try.params3] at hA hval
  obtain ⟨v0, vs0, d0, ds0, p0, q0, hargs, rfl, rfl, h0, r0⟩ := trodAll_cons hA
  obtain ⟨v1, vs1, d1, ds1, p1, q1, rfl, rfl, rfl, h1, r1⟩ := trodAll_cons r0
  obtain ⟨rfl, rfl, rfl⟩ := trodAll_nil r1
  obtain rfl : args = #[v0, v1] := by cases args; simp_all
  obtain ⟨rfl, rfl⟩ := trodVars_none hV
  obtain ⟨pc, hpc⟩ := reads_pic (hval 0 25 v0 rfl rfl) h0
  obtain ⟨A, c, l, rfl, hl⟩ := reads_steps (hval 1 26 v1 rfl rfl) h1
  refine (steps_any pc l v0 A c W hpc hl).mono ?_
  rintro e W' ⟨rfl, hb⟩
  refine ⟨_, rfl, row_true rfl (by kernel_rfl) ?_ hW' rfl rfl rfl hb⟩
  intro t ht
  rw [Try.params3] at ht
  simp only [List.mem_cons, List.not_mem_nil, or_false] at ht
  rcases ht with rfl | rfl
  · exact ⟨by kernel_rfl, of_decide_eq_true (by kernel_rfl)⟩
  · exact ⟨by kernel_rfl, of_decide_eq_true (by kernel_rfl)⟩

set_option maxRecDepth 100000 in
theorem steps_lifted (os : Os) (started : os.Started) (H : Type) (enc : TypeId × Value → H) :
    ReturnsInHanded {} Try.checked os 3 .any (Rows.moveStepsSpec.pre6 enc Try.prog Try.f3 Rows.moveStepsRow.domain false) (Rows.moveStepsSpec.post enc Try.prog Try.f3 false true false false) := by
  refine returnsInHanded_of_change (C := Try.checked) try_own started (by kernel_rfl) Try.func3
    (ChangeSpec.witness6 (enc := enc) (C := Try.checked) false ⟨#[], #[.agg #[.int .i64 0, .slice none 0 0, .slice none 0 0], .slice none 0 0], []⟩ 8 (by kernel_rfl) (by kernel_rfl) (by kernel_rfl) (by kernel_rfl)) ?_
  intro W base args ds gs before hval hW _ _
  exact steps_contract W base args ds gs before hval hW

set_option maxRecDepth 100000 in
theorem steps_holds : Rows.MoveStepsSaid :=
  OpenClaim.holds_of_wide 3 Try.f3 rfl rfl rfl rfl rfl rfl rfl ⟨rfl, rfl, rfl, rfl, rfl⟩ rfl rfl rfl rfl rfl (by kernel_rfl) Try.func3 (by kernel_rfl)
    (of_decide_eq_true (by kernel_rfl)) (by unfold Func.isWrapper; first | (rw [if_pos (by decide +kernel)]; kernel_rfl) | (rw [if_neg (by decide +kernel)]; exact ⟨rfl, rfl⟩))
    (fun os started H enc _ => steps_lifted os started H enc)
end Go.Proofs.Yteipclnlfanfeaa
