/- LawA, LawB, LawC, PureU, PureV in one text. -/
import Derived.Test.YteipclnlfanfeaaBaseJ
import Derived.Laws.StructEq
import Derived.Deep.QuietTactic
import Derived.BigQuiet
import Derived.Test.YteipclnlfanfeaaBaseH
import Derived.Test.YteipclnlfanfeaaBaseB
import Derived.Deep.CutRange
import Derived.Test.YteipclnlfanfeaaBaseI
set_option linter.unusedVariables false
set_option linter.unusedSimpArgs false
/- law: sample, step, SameSteps, few. -/
namespace Go.Proofs.Yteipclnlfanfeaa
open Go.RowKit

abbrev vSt (x : Step) : Value := .agg #[.int .i64 x.no, .int .i64 x.from_, .int .i64 x.to, .int .i64 x.many]

theorem step_any (a b c d : Int) (w : World) : Calls Try.prog 28 #[.int .i64 a, .int .i64 b, .int .i64 c, .int .i64 d] w fun e w' => e = .returned (vSt ⟨a, b, c, d⟩) ∧ Below w.heap.size w w' := by
  have hB := (((((below_alloc (Below.refl _ w) (.cells #[.int .i64 0, .int .i64 0, .int .i64 0, .int .i64 0] 35)).setCell (p := ⟨w.heap.size, 0, none⟩) (Nat.le_refl _) (.int .i64 a)).setCell (p := ⟨w.heap.size, 1, none⟩) (Nat.le_refl _) (.int .i64 b)).setCell (p := ⟨w.heap.size, 2, none⟩) (Nat.le_refl _) (.int .i64 c)).setCell (p := ⟨w.heap.size, 3, none⟩) (Nat.le_refl _) (.int .i64 d))
  go_enter Try.func28, Try.ntmps28
  go_wp2_with fail
  refine bodyPost_ret (v := vSt ⟨a, b, c, d⟩) (by simp [results, Try.results28, go_sem]) rfl ⟨rfl, ?_⟩
  first | exact hB | exact below_alloc (Below.refl _ w) _

/-- the picture of the document's examples -/
def sampP : Pic := ⟨20, [⟨0, 3⟩, ⟨10, 1⟩], [⟨1, [⟨4, 2⟩, ⟨8, 1⟩]⟩, ⟨2, [⟨6, 1⟩, ⟨-1, 2⟩, ⟨12, 2⟩]⟩]⟩

set_option maxHeartbeats 1000000 in
theorem sample_any (w : World) : Calls Try.prog 34 #[] w fun e w' => (∃ v, e = .returned v ∧ PicC w' v sampP) ∧ Below w.heap.size w w' := by
  go_enter Try.func34, Try.ntmps34
  go_wp2_with fail
  obtain ⟨n, hn⟩ : ∃ n, w.heap.size = n := ⟨_, rfl⟩
  have hB := below_alloc (below_alloc (below_alloc (below_alloc (below_alloc (Below.refl _ w) (.cells #[.int .i64 20, .slice (some ⟨n + 1, 0, none⟩) 2 2, .slice (some ⟨n + 1 + 1 + 1 + 1, 0, none⟩) 2 2] 25)) (.cells #[.int .i64 0, .int .i64 3, .int .i64 10, .int .i64 1] 54)) (.cells #[.int .i64 4, .int .i64 2, .int .i64 8, .int .i64 1] 52)) (.cells #[.int .i64 6, .int .i64 1, .int .i64 (-1), .int .i64 2, .int .i64 12, .int .i64 2] 52)) (.cells #[.int .i64 1, .slice (some ⟨n + 1 + 1, 0, none⟩) 2 2, .int .i64 2, .slice (some ⟨n + 1 + 1 + 1, 0, none⟩) 3 3] 46)
  have b0 := heap_alloc_old' (heap_alloc_old' (heap_alloc_old' (heap_alloc_old' (heap_new w (.cells #[.int .i64 20, .slice (some ⟨n + 1, 0, none⟩) 2 2, .slice (some ⟨n + 1 + 1 + 1 + 1, 0, none⟩) 2 2] 25) hn) (.cells #[.int .i64 0, .int .i64 3, .int .i64 10, .int .i64 1] 54)) (.cells #[.int .i64 4, .int .i64 2, .int .i64 8, .int .i64 1] 52)) (.cells #[.int .i64 6, .int .i64 1, .int .i64 (-1), .int .i64 2, .int .i64 12, .int .i64 2] 52)) (.cells #[.int .i64 1, .slice (some ⟨n + 1 + 1, 0, none⟩) 2 2, .int .i64 2, .slice (some ⟨n + 1 + 1 + 1, 0, none⟩) 3 3] 46)
  have b1 := heap_alloc_old' (heap_alloc_old' (heap_alloc_old' (heap_new (w.alloc (.cells #[.int .i64 20, .slice (some ⟨n + 1, 0, none⟩) 2 2, .slice (some ⟨n + 1 + 1 + 1 + 1, 0, none⟩) 2 2] 25)) (.cells #[.int .i64 0, .int .i64 3, .int .i64 10, .int .i64 1] 54) (n := n + 1) (by simp; omega)) (.cells #[.int .i64 4, .int .i64 2, .int .i64 8, .int .i64 1] 52)) (.cells #[.int .i64 6, .int .i64 1, .int .i64 (-1), .int .i64 2, .int .i64 12, .int .i64 2] 52)) (.cells #[.int .i64 1, .slice (some ⟨n + 1 + 1, 0, none⟩) 2 2, .int .i64 2, .slice (some ⟨n + 1 + 1 + 1, 0, none⟩) 3 3] 46)
  have b2 := heap_alloc_old' (heap_alloc_old' (heap_new ((w.alloc (.cells #[.int .i64 20, .slice (some ⟨n + 1, 0, none⟩) 2 2, .slice (some ⟨n + 1 + 1 + 1 + 1, 0, none⟩) 2 2] 25)).alloc (.cells #[.int .i64 0, .int .i64 3, .int .i64 10, .int .i64 1] 54)) (.cells #[.int .i64 4, .int .i64 2, .int .i64 8, .int .i64 1] 52) (n := n + 1 + 1) (by simp; omega)) (.cells #[.int .i64 6, .int .i64 1, .int .i64 (-1), .int .i64 2, .int .i64 12, .int .i64 2] 52)) (.cells #[.int .i64 1, .slice (some ⟨n + 1 + 1, 0, none⟩) 2 2, .int .i64 2, .slice (some ⟨n + 1 + 1 + 1, 0, none⟩) 3 3] 46)
  have b3 := heap_alloc_old' (heap_new (((w.alloc (.cells #[.int .i64 20, .slice (some ⟨n + 1, 0, none⟩) 2 2, .slice (some ⟨n + 1 + 1 + 1 + 1, 0, none⟩) 2 2] 25)).alloc (.cells #[.int .i64 0, .int .i64 3, .int .i64 10, .int .i64 1] 54)).alloc (.cells #[.int .i64 4, .int .i64 2, .int .i64 8, .int .i64 1] 52)) (.cells #[.int .i64 6, .int .i64 1, .int .i64 (-1), .int .i64 2, .int .i64 12, .int .i64 2] 52) (n := n + 1 + 1 + 1) (by simp; omega)) (.cells #[.int .i64 1, .slice (some ⟨n + 1 + 1, 0, none⟩) 2 2, .int .i64 2, .slice (some ⟨n + 1 + 1 + 1, 0, none⟩) 3 3] 46)
  have b4 := heap_new ((((w.alloc (.cells #[.int .i64 20, .slice (some ⟨n + 1, 0, none⟩) 2 2, .slice (some ⟨n + 1 + 1 + 1 + 1, 0, none⟩) 2 2] 25)).alloc (.cells #[.int .i64 0, .int .i64 3, .int .i64 10, .int .i64 1] 54)).alloc (.cells #[.int .i64 4, .int .i64 2, .int .i64 8, .int .i64 1] 52)).alloc (.cells #[.int .i64 6, .int .i64 1, .int .i64 (-1), .int .i64 2, .int .i64 12, .int .i64 2] 52)) (.cells #[.int .i64 1, .slice (some ⟨n + 1 + 1, 0, none⟩) 2 2, .int .i64 2, .slice (some ⟨n + 1 + 1 + 1, 0, none⟩) 3 3] 46) (n := n + 1 + 1 + 1 + 1) (by simp; omega)
  rw [hn]
  obtain ⟨W, hW⟩ : ∃ W, ((((w.alloc (.cells #[.int .i64 20, .slice (some ⟨n + 1, 0, none⟩) 2 2, .slice (some ⟨n + 1 + 1 + 1 + 1, 0, none⟩) 2 2] 25)).alloc (.cells #[.int .i64 0, .int .i64 3, .int .i64 10, .int .i64 1] 54)).alloc (.cells #[.int .i64 4, .int .i64 2, .int .i64 8, .int .i64 1] 52)).alloc (.cells #[.int .i64 6, .int .i64 1, .int .i64 (-1), .int .i64 2, .int .i64 12, .int .i64 2] 52)).alloc (.cells #[.int .i64 1, .slice (some ⟨n + 1 + 1, 0, none⟩) 2 2, .int .i64 2, .slice (some ⟨n + 1 + 1 + 1, 0, none⟩) 3 3] 46) = W := ⟨_, rfl⟩
  rw [hW] at hB b0 b1 b2 b3 b4 ⊢
  clear hW
  have c0 := cell_at b0 0; have c1 := cell_at b0 1; have c2 := cell_at b0 2
  simp only [List.getElem?_toArray, List.getElem?_cons_zero, List.getElem?_cons_succ] at c0 c1 c2
  refine bodyPost_ret (v := .agg #[.int .i64 20, .slice (some ⟨n + 1, 0, none⟩) 2 2, .slice (some ⟨n + 1 + 1 + 1 + 1, 0, none⟩) 2 2]) (by simp [results, Try.results34, go_sem, c0, c1, c2]) rfl ⟨⟨_, rfl, some ⟨n + 1, 0, none⟩, 2, some ⟨n + 1 + 1 + 1 + 1, 0, none⟩, 2, rfl, ?_, ?_⟩, by rw [← hn]; exact hB⟩
  · intro k hk
    have hk2 : k = 0 ∨ k = 1 := by simp [sampP] at hk; omega
    rcases hk2 with rfl | rfl
    · exact ⟨n + 1, 0, rfl, by simp [World.cell?, b1, sampP], by simp [World.cell?, b1, sampP]⟩
    · exact ⟨n + 1, 0, rfl, by simp [World.cell?, b1, sampP], by simp [World.cell?, b1, sampP]⟩
  · intro k hk
    have hk2 : k = 0 ∨ k = 1 := by simp [sampP] at hk; omega
    rcases hk2 with rfl | rfl
    · refine ⟨n + 1 + 1 + 1 + 1, 0, some ⟨n + 1 + 1, 0, none⟩, 2, rfl, by simp [World.cell?, b4, sampP], by simp [World.cell?, b4, sampP], fun j hj => ?_⟩
      have hj2 : j = 0 ∨ j = 1 := by simp [sampP] at hj; omega
      rcases hj2 with rfl | rfl
      · exact ⟨n + 1 + 1, 0, rfl, by simp [World.cell?, b2, sampP], by simp [World.cell?, b2, sampP]⟩
      · exact ⟨n + 1 + 1, 0, rfl, by simp [World.cell?, b2, sampP], by simp [World.cell?, b2, sampP]⟩
    · refine ⟨n + 1 + 1 + 1 + 1, 0, some ⟨n + 1 + 1 + 1, 0, none⟩, 3, rfl, by simp [World.cell?, b4, sampP], by simp [World.cell?, b4, sampP], fun j hj => ?_⟩
      have hj2 : j = 0 ∨ j = 1 ∨ j = 2 := by simp [sampP] at hj; omega
      rcases hj2 with rfl | rfl | rfl
      · exact ⟨n + 1 + 1 + 1, 0, rfl, by simp [World.cell?, b3, sampP], by simp [World.cell?, b3, sampP]⟩
      · exact ⟨n + 1 + 1 + 1, 0, rfl, by simp [World.cell?, b3, sampP], by simp [World.cell?, b3, sampP]⟩
      · exact ⟨n + 1 + 1 + 1, 0, rfl, by simp [World.cell?, b3, sampP], by simp [World.cell?, b3, sampP]⟩

theorem eq35 (a b : Step) (w : World) : (binOp .neq 35 (vSt a) (vSt b)).run Try.prog w = .ok (.bool (!decide (a = b))) w := by
  have u3 := Try.underlying3
  have hS : Try.prog.underlying 35 = some (.struct (Try.prog.fieldsOf 35)) := by kernel_rfl
  have hp : Try.prog.stoodInHeld 35 = false := by kernel_rfl
  rw [run_neq_struct, show (10000 : Nat) = 9999 + 1 from rfl, run_equalIn_agg w 9999 35 _ _ hS hp]
  simp only [Program.fieldsOf, Try.underlying35]
  go_simp
  cases a; cases b
  rename_i a1 a2 a3 a4 b1 b2 b3 b4
  by_cases h1 : a1 = b1 <;> by_cases h2 : a2 = b2 <;> by_cases h3 : a3 = b3 <;> by_cases h4 : a4 = b4 <;> simp [h1, h2, h3, h4]

set_option maxRecDepth 100000 in
set_option maxHeartbeats 1000000 in
theorem sameSteps_any (l l2 : List Step) (A A2 : Option Addr) (c c2 : Nat) (w : World) (hlen : l.length ≤ 1099511627776) (hl : StepC w A l) (hl2 : StepC w A2 l2) :
    Calls Try.prog 20 #[.slice A l.length c, .slice A2 l2.length c2] w fun e w' => e = .returned (.bool (decide (l = l2))) ∧ Below w.heap.size w w' := by
  by_cases hn : l.length = l2.length
  rotate_left
  · have hd : ((l.length : Int) != (l2.length : Int)) = true := by simp; omega
    have Hn := Lib.hid hn
    clear hn
    go_enter Try.func20, Try.ntmps20
    go_wp2_with fail
    go_ret
    have : ¬ l = l2 := fun e => Hn.out (by rw [e])
    exact ⟨by simp [this], Below.refl _ _⟩
  have hd : ((l.length : Int) != (l2.length : Int)) = false := by simp; omega
  have Hn := Lib.hid hn
  clear hn
  go_enter Try.func20, Try.ntmps20
  go_wp2_with fail
  go_loopw [5] (fun i wr => ∃ k : Nat, k ≤ l.length ∧ i = .int .i64 k ∧ Hid (l.take k = l2.take k) ∧ Below w.heap.size w wr) (fun i _ => l.length - (intOf i).toNat)
  case atStart => exact ⟨0, by omega, by simp, Lib.hid (by simp), Below.refl _ _⟩
  case round =>
    obtain ⟨k, hk, rfl, Hno, hB⟩ := hrel
    by_cases hlt : k < l.length
    · have hlt2 : k < l2.length := by have := Hn.out; omega
      obtain ⟨b, o, rfl, h0, h1, h2, h3⟩ := (hl.below hB) k hlt
      obtain ⟨b', o', rfl, g0, g1, g2, g3⟩ := (hl2.below hB) k hlt2
      have hq := eq35 l[k] l2[k]
      dsimp only [vSt] at hq
      by_cases he : l[k] = l2[k]
      · have hdd : (!decide (l[k] = l2[k])) = false := by simp [he]
        rw [hdd] at hq
        have He := Lib.hid he; clear he hdd
        go_wp2_with fail
        go_quiet (fail)
        go_wp2_with fail
        refine ⟨⟨k + 1, by omega, by simp, Lib.hid ?_, below_dr hB _⟩, by simp [intOf]; omega⟩
        rw [take_succ_snoc hlt, take_succ_snoc hlt2, Hno.out, He.out]
      · have hdd : (!decide (l[k] = l2[k])) = true := by simp [he]
        rw [hdd] at hq
        have He := Lib.hid he; clear he hdd
        go_wp2_with fail
        go_quiet (fail)
        go_wp2_with fail
        go_ret
        refine ⟨?_, below_dr hB _⟩
        have : ¬ l = l2 := fun e => He.out (by subst e; rfl)
        simp [this]
    · obtain rfl : k = l.length := by omega
      go_wp2_with fail
      go_ret
      refine ⟨?_, hB⟩
      have : l = l2 := by have := Hno.out; have hn := Hn.out; rw [List.take_length] at this; rw [this, hn, List.take_length]
      simp [this]

def fewB (p : Pic) : Bool := decide (p.fixed.length ≤ 210) && (decide (p.files.length ≤ 210) && (!(decide (200 < p.size) && decide (p.size ≤ 768)) && p.files.all fun f => decide (f.runs.length ≤ 200)))
section
attribute [local go_sem] undef
set_option maxRecDepth 100000 in
set_option maxHeartbeats 2000000 in
theorem few_any (p : Pic) (v : Value) (w : World) (hp : PicC w v p) : Calls Try.prog 8 #[v] w fun e w' => e = .returned (.bool (fewB p)) ∧ Below w.heap.size w w' := by
  obtain ⟨Ax, cx, Fa, cf, rfl, hx, hf⟩ := hp
  have hB := below_alloc (Below.refl _ w) (.cells #[.int .i64 p.size, .slice Ax p.fixed.length cx, .slice Fa p.files.length cf] 25)
  have hf1 := hf.below hB
  have Hb := Lib.hid (show fewB p = (decide (p.fixed.length ≤ 210) && (decide (p.files.length ≤ 210) && (!(decide (200 < p.size) && decide (p.size ≤ 768)) && p.files.all fun f => decide (f.runs.length ≤ 200)))) from rfl)
  by_cases h1 : 210 < p.fixed.length
  · have d1 : decide ((210 : Int) < (p.fixed.length : Int)) = true := by simp; omega
    have Hf := Lib.hid (show fewB p = false by rw [Hb.out, show decide (p.fixed.length ≤ 210) = false by simp; omega]; rfl)
    go_enter Try.func8, Try.ntmps8
    go_wp2_with fail
    go_ret
    exact ⟨by rw [Hf.out]; rfl, hB⟩
  have d1 : decide ((210 : Int) < (p.fixed.length : Int)) = false := by simp; omega
  have e1 : decide (p.fixed.length ≤ 210) = true := by simp; omega
  by_cases h2 : 210 < p.files.length
  · have d2 : decide ((210 : Int) < (p.files.length : Int)) = true := by simp; omega
    have Hf := Lib.hid (show fewB p = false by rw [Hb.out, show decide (p.files.length ≤ 210) = false by simp; omega, e1]; rfl)
    clear e1
    go_enter Try.func8, Try.ntmps8
    go_wp2_with fail
    go_ret
    exact ⟨by rw [Hf.out]; rfl, hB⟩
  have d2 : decide ((210 : Int) < (p.files.length : Int)) = false := by simp; omega
  have e2 : decide (p.files.length ≤ 210) = true := by simp; omega
  by_cases h3 : 200 < p.size ∧ p.size ≤ 768
  · have d3 : decide (200 < p.size) = true := by simp; omega
    have d4 : decide (p.size ≤ 768) = true := by simp; omega
    have Hf := Lib.hid (show fewB p = false by rw [Hb.out, e1, e2, d3, d4]; rfl)
    clear e1 e2 h3
    go_enter Try.func8, Try.ntmps8
    go_wp2_with fail
    go_ret
    exact ⟨by rw [Hf.out]; rfl, hB⟩
  have e3 : (!(decide (200 < p.size) && decide (p.size ≤ 768))) = true := by simp; omega
  have Hall := Lib.hid (show fewB p = (p.files.all fun f => decide (f.runs.length ≤ 200)) by rw [Hb.out, e1, e2, e3]; rfl)
  clear e1 e2 e3
  have main : ∀ (c1 : decide (200 < p.size) = false ∨ (decide (200 < p.size) = true ∧ decide (p.size ≤ 768) = false)), Calls Try.prog 8 #[.agg #[.int .i64 p.size, .slice Ax p.fixed.length cx, .slice Fa p.files.length cf]] w fun e w' => e = .returned (.bool (fewB p)) ∧ Below w.heap.size w w' := by
    rintro (d3 | ⟨d3, d4⟩)
    all_goals
      clear h3
      go_enter Try.func8, Try.ntmps8
      go_wp2_with fail
      go_loopw [3] (fun i wr => ∃ k : Nat, k ≤ p.files.length ∧ i = .int .i64 k ∧ Hid (∀ j (hj : j < p.files.length), j < k → p.files[j].runs.length ≤ 200) ∧ wr = w.alloc (.cells #[.int .i64 p.size, .slice Ax p.fixed.length cx, .slice Fa p.files.length cf] 25)) (fun i _ => p.files.length - (intOf i).toNat)
      case atStart => exact ⟨0, by omega, by simp, Lib.hid (fun j _ hj => by omega), rfl⟩
      case round =>
        obtain ⟨k, hk, rfl, HA, rfl⟩ := hrel
        by_cases hlt : k < p.files.length
        · obtain ⟨b, o, A', c', rfl, g0, g1, g2⟩ := hf1 k hlt
          by_cases hr : 200 < p.files[k].runs.length
          · have d5 : decide ((200 : Int) < (p.files[k].runs.length : Int)) = true := by simp; omega
            have Hf := Lib.hid (show fewB p = false by
              rw [Hall.out, List.all_eq_false]
              exact ⟨p.files[k], List.getElem_mem hlt, by simp; omega⟩)
            go_wp2_with fail
            go_ret
            exact ⟨by rw [Hf.out]; rfl, hB⟩
          · have d5 : decide ((200 : Int) < (p.files[k].runs.length : Int)) = false := by simp; omega
            have Hr := Lib.hid hr
            clear hr
            go_wp2_with fail
            refine ⟨?AA, ?BB⟩
            case BB => simp [intOf]; omega
            case AA =>
              refine ⟨k + 1, by omega, by simp, Lib.hid (fun j hj hjk => ?_), trivial⟩
              by_cases e : j = k
              · subst e; have := Hr.out; omega
              · exact HA.out j hj (by omega)
        · obtain rfl : k = p.files.length := by omega
          have Hf := Lib.hid (show fewB p = true by
            rw [Hall.out, List.all_eq_true]
            intro f hf'
            obtain ⟨j, hj, rfl⟩ := List.getElem_of_mem hf'
            have := HA.out j hj hj
            simpa using this)
          go_wp2_with fail
          go_ret
          exact ⟨by rw [Hf.out]; rfl, hB⟩
  by_cases c : 200 < p.size
  · exact main (.inr ⟨by simpa using c, by simp; omega⟩)
  · exact main (.inl (by simpa using c))
end
theorem few_ok {p : Pic} (h : fewB p = true) : PicOk p := by
  simp only [fewB, Bool.and_eq_true, decide_eq_true_eq, List.all_eq_true] at h
  obtain ⟨h1, h2, _, h4⟩ := h
  exact ⟨by omega, by omega, fun f hf => by have := h4 f hf; omega⟩
end Go.Proofs.Yteipclnlfanfeaa

/- law: sanity. -/
namespace Go.Proofs.Yteipclnlfanfeaa
open Go.RowKit

theorem san1 : fragN sampP 2 = (2, 0) := by kernel_rfl
theorem san2 : (freeP sampP).1.length = 5 := by kernel_rfl
theorem san2e : (freeP sampP).2 = 0 := by kernel_rfl
theorem san3 : defragP sampP = ([⟨1, 0, 14, 2⟩, ⟨1, 2, 16, 1⟩, ⟨2, 0, 3, 1⟩, ⟨2, 3, 4, 2⟩], 0) := by kernel_rfl
theorem san4 : shrinkP sampP 12 = ([⟨2, 3, 3, 1⟩, ⟨2, 4, 7, 1⟩], 0) := by kernel_rfl
theorem san5e : (compactP sampP).2 = 0 := by kernel_rfl
theorem san5h : (compactP sampP).1.head? = some ⟨2, 4, 3, 1⟩ := by kernel_rfl
theorem san5 : ∃ l, compactP sampP = (⟨2, 4, 3, 1⟩ :: l, 0) := by
  have h1 := san5e
  have h2 := san5h
  obtain ⟨l, e⟩ : ∃ l, compactP sampP = l := ⟨_, rfl⟩
  rw [e] at h1 h2 ⊢
  obtain ⟨a, b⟩ := l
  cases a with
  | nil => cases h2
  | cons x l => cases h2; cases h1; exact ⟨l, rfl⟩
theorem san6 : (runP sampP [⟨1, 1, 6, 1⟩]).2 = 13 := by kernel_rfl
theorem san7 : (runP sampP [⟨1, 1, 9, 2⟩]).2 = 1 := by kernel_rfl
theorem san8 : (resizeP sampP 13).2 = 13 := by kernel_rfl
theorem sampOk : PicOk sampP := by
  refine ⟨by decide, by decide, fun f hf => ?_⟩
  simp only [sampP, List.mem_cons, List.not_mem_nil, or_false] at hf
  rcases hf with rfl | rfl <;> decide

theorem anyC_two {F : Fence} {n : Nat} {P : Program} {ops : Array Oper} {Q : Exit → Act → World → Prop} {md : Region.Mode} {C : World → Prop} {i j : Nat} {fuel : Nat} {listed : Array Bool} {a : Act} {w : World} (hr : Region.ready md ops listed = [i, j])
    (h1 : wpOpIn F n P ops Q i (fun a' w' => C w' ∧ anyC F n P md ops C Q fuel (listed.setIfInBounds i true) a' w') a w)
    (h2 : wpOpIn F n P ops Q j (fun a' w' => C w' ∧ anyC F n P md ops C Q fuel (listed.setIfInBounds j true) a' w') a w) : anyC F n P md ops C Q (fuel + 1) listed a w :=
  ⟨fun h0 => (by rw [hr] at h0; cases h0), fun k hk => (by
    rw [hr] at hk
    simp only [List.mem_cons, List.not_mem_nil, or_false] at hk
    rcases hk with rfl | rfl
    · exact h1
    · exact h2)⟩
theorem wpOpIn_want {F : Fence} {n : Nat} {P : Program} {ops : Array Oper} {Q : Exit → Act → World → Prop} {i : Nat} {o : Oper} {K : Act → World → Prop} {a : Act} {w : World} (ho : ops[i]? = some o) (hw : Region.wanted o (yielded ops a.tmps) = true)
    (h : ∀ K' : Act → World → Prop, (∀ a w, K a w → K' a w) → Oper.wpIn F n P o a w K' Q) : wpOpIn F n P ops Q i K a w :=
  wpOpIn_step ho (fun K' hK' => by rw [if_pos hw]; exact h K' hK')
theorem wp_region_anyC {P : Program} {ops : Array Oper} {Q : Exit → Act → World → Prop} {C : World → Prop} {id : Nat} {a : Act} {w : World} (hm : P.follows .mixedOrders = true)
    (h : anyC Fence.wide 0 P .any ops C Q ops.size (Array.replicate ops.size false) a w.drew) : (Code.region id ops true).wp P Q a w :=
  wpIn_wide.1 (wpIn_region_anyC hm h)

theorem wp_region_anyN {P : Program} {ops : Array Oper} {Q : Exit → Act → World → Prop} {C : World → Prop} {id : Nat} {a : Act} {w : World} (N : Nat) (hN : ops.size = N) (hm : P.follows .mixedOrders = true)
    (h : anyC Fence.wide 0 P .any ops C Q N (Array.replicate N false) a w.drew) : (Code.region id ops true).wp P Q a w := by
  subst hN
  exact wp_region_anyC hm h

theorem anyC_onlyW {F : Fence} {n : Nat} {P : Program} {ops : Array Oper} {Q : Exit → Act → World → Prop} {md : Region.Mode} {C : World → Prop} {i : Nat} {o : Oper} {fuel : Nat} {listed : Array Bool} {a : Act} {w : World} (hr : Region.ready md ops listed = [i]) (ho : ops[i]? = some o) (hw : Region.wanted o (yielded ops a.tmps) = true)
    (h : ∀ K' : Act → World → Prop, (∀ a' w', (C w' ∧ anyC F n P md ops C Q fuel (listed.setIfInBounds i true) a' w') → K' a' w') → Oper.wpIn F n P o a w K' Q) : anyC F n P md ops C Q (fuel + 1) listed a w :=
  anyC_only hr (wpOpIn_want ho hw h)

/-- the sample in its box -/
structure San (nb : Nat) (A1 A2 : Option Addr) (k1 k2 : Nat) (W : World) : Prop where
  box : W.heap[nb]? = some (.cells #[.int .i64 sampP.size, .slice A1 sampP.fixed.length k1, .slice A2 sampP.files.length k2] 25 (0, 0))
  pic : PicC W (.agg #[.int .i64 sampP.size, .slice A1 sampP.fixed.length k1, .slice A2 sampP.files.length k2]) sampP
theorem San.below {nb : Nat} {A1 A2 : Option Addr} {k1 k2 : Nat} {W W' : World} (h : San nb A1 A2 k1 k2 W) (hB : Below W.heap.size W W') : San nb A1 A2 k1 k2 W' := ⟨block_below h.box hB, h.pic.below hB⟩
theorem San.drew {nb : Nat} {A1 A2 : Option Addr} {k1 k2 : Nat} {W : World} (h : San nb A1 A2 k1 k2 W) : San nb A1 A2 k1 k2 W.drew := h.below (Below.refl _ _).drew
theorem San.c0 {nb : Nat} {A1 A2 : Option Addr} {k1 k2 : Nat} {W : World} (h : San nb A1 A2 k1 k2 W) : W.cell? ⟨nb, 0, none⟩ = some (.int .i64 sampP.size) := by simpa using cell_at h.box 0
theorem San.c1 {nb : Nat} {A1 A2 : Option Addr} {k1 k2 : Nat} {W : World} (h : San nb A1 A2 k1 k2 W) : W.cell? ⟨nb, 1, none⟩ = some (.slice A1 sampP.fixed.length k1) := by simpa using cell_at h.box 1
theorem San.c2 {nb : Nat} {A1 A2 : Option Addr} {k1 k2 : Nat} {W : World} (h : San nb A1 A2 k1 k2 W) : W.cell? ⟨nb, 2, none⟩ = some (.slice A2 sampP.files.length k2) := by simpa using cell_at h.box 2

set_option maxRecDepth 100000 in
set_option maxHeartbeats 4000000 in
theorem sanity_any (w : World) : Calls Try.prog 9 #[] w fun e w' => e = .returned (.bool true) ∧ Below w.heap.size w w' := by
  have hmx : Try.prog.follows .mixedOrders = true := by kernel_rfl
  go_enter Try.func9, Try.ntmps9
  go_wp2_with fail
  refine (sample_any w).mono ?_
  rintro e w0 ⟨⟨v, rfl, hv⟩, hB0⟩
  have hv' := hv
  obtain ⟨A1, k1, A2, k2, rfl, -, -⟩ := hv'
  have hS1 : San w0.heap.size A1 A2 k1 k2 (w0.alloc (.cells #[.int .i64 sampP.size, .slice A1 sampP.fixed.length k1, .slice A2 sampP.files.length k2] 25)) :=
    ⟨World.alloc_heap_new _ _, hv.below (below_alloc (Below.refl _ _) _)⟩
  have hB1 := below_alloc hB0 (.cells #[.int .i64 sampP.size, .slice A1 sampP.fixed.length k1, .slice A2 sampP.files.length k2] 25)
  have HS1 := Lib.hid hS1
  clear hS1 hv
  go_wp2_with fail
  obtain ⟨nb, hnb⟩ : ∃ nb, w0.heap.size = nb := ⟨_, rfl⟩
  obtain ⟨w1, hw1⟩ : ∃ w1, w0.alloc (.cells #[.int .i64 sampP.size, .slice A1 sampP.fixed.length k1, .slice A2 sampP.files.length k2] 25) = w1 := ⟨_, rfl⟩
  rw [hw1, hnb] at HS1
  rw [hw1] at hB1 ⊢
  rw [hnb]
  clear hw1 hnb
  have c0 := HS1.out.c0; have c1 := HS1.out.c1; have c2 := HS1.out.c2
  refine (fragments_pic sampP 2 _ _ HS1.out.pic sampOk).mono ?_
  rintro e w2 ⟨rfl, hB2⟩
  rw [san1]
  have HS2 := Lib.hid (HS1.out.below hB2)
  have hBw2 := below_then hB1 hB2
  clear c0 c1 c2
  have c0 := HS2.out.c0; have c1 := HS2.out.c1; have c2 := HS2.out.c2
  go_wp2_with fail
  refine (free_pic sampP _ _ HS2.out.pic sampOk).mono ?_
  rintro e w3 ⟨⟨Af, kf, rfl, hXf⟩, hB3⟩
  rw [san2, san2e]
  have HS3 := Lib.hid (HS2.out.below hB3)
  have hBw3 := below_then hBw2 hB3
  clear c0 c1 c2 hXf
  have c0 := HS3.out.c0; have c1 := HS3.out.c1; have c2 := HS3.out.c2
  go_wp2_with fail
  refine (defrag_pic sampP _ _ HS3.out.pic sampOk).mono ?_
  rintro e w4 ⟨⟨Ad, kd, rfl, hXd⟩, hB4⟩
  rw [san3] at hXd ⊢
  have HS4 := Lib.hid (HS3.out.below hB4)
  have HD4 := Lib.hid hXd
  have hBw4 := below_then hBw3 hB4
  clear c0 c1 c2 hXd
  have c0 := HS4.out.c0; have c1 := HS4.out.c1; have c2 := HS4.out.c2
  go_wp2_with fail
  refine (shrink_pic sampP 12 _ _ HS4.out.pic sampOk).mono ?_
  rintro e w5 ⟨⟨Ah, kh, rfl, hXh⟩, hB5⟩
  rw [san4] at hXh ⊢
  have HS5 := Lib.hid (HS4.out.below hB5)
  have HD5 := Lib.hid (HD4.out.below hB5)
  have HH5 := Lib.hid hXh
  have hBw5 := below_then hBw4 hB5
  clear c0 c1 c2 hXh
  have c0 := HS5.out.c0; have c1 := HS5.out.c1; have c2 := HS5.out.c2
  go_wp2_with fail
  refine (compact_pic sampP _ _ HS5.out.pic sampOk).mono ?_
  rintro e w6 ⟨⟨Ac, kc, rfl, hXc⟩, hB6⟩
  obtain ⟨lc, hlc⟩ := san5
  rw [hlc] at hXc ⊢
  have HS6 := Lib.hid (HS5.out.below hB6)
  have HD6 := Lib.hid (HD5.out.below hB6)
  have HH6 := Lib.hid (HH5.out.below hB6)
  have HC6 := Lib.hid hXc
  have hBw6 := below_then hBw5 hB6
  clear c0 c1 c2 hXc hlc
  go_wp2_with fail
  go_cut [12, 13] from 44 to 50 (fun q e wx => ∃ bz, q = .pointer (some ⟨bz, 0, none⟩) ∧ e = .int .i64 13 ∧ Below w6.heap.size w6 wx)
  case first =>
    refine wp_region_anyC (C := fun W' : World => San nb A1 A2 k1 k2 W') hmx ?_
    have hCw : (fun W' : World => San nb A1 A2 k1 k2 W') w6.drew := HS6.out.drew
    refine anyC_take (i := 0) ?v0p rfl rfl (by kernel_rfl) (by kernel_rfl) (by kernel_rfl) (fun _ _ _ h => h) hCw ⟨.inl ⟨by kernel_rfl, fun W' hW' => ?y0p⟩, fun _ => rfl⟩ ?_
    case y0p => (have q0 := hW'.c0; have q1 := hW'.c1; have q2 := hW'.c2; go_simp; rfl)
    simp only [Act.put, List.setIfInBounds_toArray, List.set_cons_succ, List.set_cons_zero]
    have key : ∀ (wB : World), Below w6.heap.size w6 wB → True := fun _ _ => trivial
    refine anyC_two (i := 1) (j := 6) (by kernel_rfl) (wpOpIn_step rfl (fun K' hK' => ?_)) (wpOpIn_step rfl (fun K' hK' => ?_))
    · go_simp
      refine ⟨trivial, rfl, (callsIn_wide.2 (step_any 1 1 6 1 _)).mono ?_⟩
      rintro e wApa ⟨rfl, hApa⟩
      have hDApa : Below w6.heap.size w6 wApa := below_then (show Below w6.heap.size w6 w6.drew from (Below.refl _ _).drew) hApa
      have hCApa : (fun W' : World => San nb A1 A2 k1 k2 W') wApa := HS6.out.below hDApa
      refine hK' _ _ ⟨hCApa, ?_⟩
      clear hK' K'
      refine anyC_two (i := 2) (j := 6) (by kernel_rfl) (wpOpIn_step rfl (fun K' hK' => ?_)) (wpOpIn_step rfl (fun K' hK' => ?_))
      · go_simp
        refine ⟨trivial, rfl, (callsIn_wide.2 (apply_pic sampP ⟨1, 1, 6, 1⟩ _ _ (HS6.out.below hDApa).pic sampOk)).mono ?_⟩
        rintro e wBpaa ⟨⟨u, rfl, hu⟩, hBpaa⟩
        rw [san6]
        obtain ⟨Ax, cx, Fa, cf, F', rfl, -, -⟩ := hu
        have hDBpaa : Below w6.heap.size w6 wBpaa := below_then hDApa hBpaa
        have hCBpaa : (fun W' : World => San nb A1 A2 k1 k2 W') wBpaa := HS6.out.below hDBpaa
        refine hK' _ _ ⟨hCBpaa, ?_⟩
        clear hK' K'
        refine anyC_take (i := 3) ?v3paa rfl rfl (by kernel_rfl) (by kernel_rfl) (by kernel_rfl) (fun _ _ _ h => h) hCBpaa ⟨.inl ⟨by kernel_rfl, fun W' hW' => ?y3paa⟩, fun _ => rfl⟩ ?_
        case y3paa => (skip; go_simp; rfl)
        simp only [Act.put, List.setIfInBounds_toArray, List.set_cons_succ, List.set_cons_zero]
        refine anyC_take (i := 4) ?v4paa rfl rfl (by kernel_rfl) (by kernel_rfl) (by kernel_rfl) (fun _ _ _ h => h) hCBpaa ⟨.inl ⟨by kernel_rfl, fun W' hW' => ?y4paa⟩, fun _ => rfl⟩ ?_
        case y4paa => (skip; go_simp; rfl)
        simp only [Act.put, List.setIfInBounds_toArray, List.set_cons_succ, List.set_cons_zero]
        refine anyC_take (i := 5) ?v5paa rfl rfl (by kernel_rfl) (by kernel_rfl) (by kernel_rfl) (fun _ _ _ h => h) hCBpaa ⟨.inl ⟨by kernel_rfl, fun W' hW' => ?y5paa⟩, fun _ => rfl⟩ ?_
        case y5paa => (skip; go_simp; rfl)
        simp only [Act.put, List.setIfInBounds_toArray, List.set_cons_succ, List.set_cons_zero]
        refine anyC_only (i := 6) (by kernel_rfl) (wpOpIn_step rfl (fun K' hK' => ?_))
        go_simp
        have hDNpaa : Below w6.heap.size w6 (wBpaa.alloc (.cells #[.int .i64 0, .slice none 0 0, .slice none 0 0] 25)) := below_alloc hDBpaa _
        have hCNpaa : (fun W' : World => San nb A1 A2 k1 k2 W') (wBpaa.alloc (.cells #[.int .i64 0, .slice none 0 0, .slice none 0 0] 25)) := HS6.out.below hDNpaa
        refine hK' _ _ ⟨hCNpaa, ?_⟩
        clear hK' K'
        have hbzpaa : (wBpaa.alloc (.cells #[.int .i64 0, .slice none 0 0, .slice none 0 0] 25)).heap[wBpaa.heap.size]? = some (.cells #[.int .i64 0, .slice none 0 0, .slice none 0 0] 25 (0, 0)) := World.alloc_heap_new _ _
        have y0 := cell_at hbzpaa 0; have y1 := cell_at hbzpaa 1; have y2 := cell_at hbzpaa 2
        simp only [List.getElem?_toArray, List.getElem?_cons_zero, List.getElem?_cons_succ] at y0 y1 y2
        have z0 := free_at hbzpaa 0; have z1 := free_at hbzpaa 1; have z2 := free_at hbzpaa 2
        have hlzpaa : w6.heap.size ≤ wBpaa.heap.size := by have := hDBpaa.size; omega
        have hendpaa : Below w6.heap.size w6 (wBpaa.alloc (.cells #[.int .i64 (runP sampP [⟨1, 1, 6, 1⟩]).1.size, .slice Ax (runP sampP [⟨1, 1, 6, 1⟩]).1.fixed.length cx, .slice Fa (runP sampP [⟨1, 1, 6, 1⟩]).1.files.length cf] 25)) := below_alloc hDBpaa _
        refine anyC_only (i := 7) (by kernel_rfl) (wpOpIn_step rfl (fun K' hK' => ?_))
        go_simp
        refine hK' _ _ ⟨HS6.out.below hendpaa, ?_⟩
        clear hK' K'
        refine anyC_only (i := 8) (by kernel_rfl) (wpOpIn_step rfl (fun K' hK' => ?_))
        go_simp
        refine hK' _ _ ⟨HS6.out.below hendpaa, ?_⟩
        clear hK' K'
        refine anyC_done (by kernel_rfl) ?_
        go_wp2_with fail
        go_meet
        exact ⟨wBpaa.heap.size, rfl, rfl, hendpaa⟩
      · go_simp
        have hDNpab : Below w6.heap.size w6 (wApa.alloc (.cells #[.int .i64 0, .slice none 0 0, .slice none 0 0] 25)) := below_alloc hDApa _
        have hCNpab : (fun W' : World => San nb A1 A2 k1 k2 W') (wApa.alloc (.cells #[.int .i64 0, .slice none 0 0, .slice none 0 0] 25)) := HS6.out.below hDNpab
        refine hK' _ _ ⟨hCNpab, ?_⟩
        clear hK' K'
        refine anyC_only (i := 2) (by kernel_rfl) (wpOpIn_step rfl (fun K' hK' => ?_))
        go_simp
        refine ⟨trivial, rfl, (callsIn_wide.2 (apply_pic sampP ⟨1, 1, 6, 1⟩ _ _ (HS6.out.below hDNpab).pic sampOk)).mono ?_⟩
        rintro e wBpab ⟨⟨u, rfl, hu⟩, hBpab⟩
        rw [san6]
        obtain ⟨Ax, cx, Fa, cf, F', rfl, -, -⟩ := hu
        have hDBpab : Below w6.heap.size w6 wBpab := below_then hDNpab hBpab
        have hCBpab : (fun W' : World => San nb A1 A2 k1 k2 W') wBpab := HS6.out.below hDBpab
        refine hK' _ _ ⟨hCBpab, ?_⟩
        clear hK' K'
        refine anyC_take (i := 3) ?v3pab rfl rfl (by kernel_rfl) (by kernel_rfl) (by kernel_rfl) (fun _ _ _ h => h) hCBpab ⟨.inl ⟨by kernel_rfl, fun W' hW' => ?y3pab⟩, fun _ => rfl⟩ ?_
        case y3pab => (skip; go_simp; rfl)
        simp only [Act.put, List.setIfInBounds_toArray, List.set_cons_succ, List.set_cons_zero]
        refine anyC_take (i := 4) ?v4pab rfl rfl (by kernel_rfl) (by kernel_rfl) (by kernel_rfl) (fun _ _ _ h => h) hCBpab ⟨.inl ⟨by kernel_rfl, fun W' hW' => ?y4pab⟩, fun _ => rfl⟩ ?_
        case y4pab => (skip; go_simp; rfl)
        simp only [Act.put, List.setIfInBounds_toArray, List.set_cons_succ, List.set_cons_zero]
        refine anyC_take (i := 5) ?v5pab rfl rfl (by kernel_rfl) (by kernel_rfl) (by kernel_rfl) (fun _ _ _ h => h) hCBpab ⟨.inl ⟨by kernel_rfl, fun W' hW' => ?y5pab⟩, fun _ => rfl⟩ ?_
        case y5pab => (skip; go_simp; rfl)
        simp only [Act.put, List.setIfInBounds_toArray, List.set_cons_succ, List.set_cons_zero]
        have hbzpab : (wBpab).heap[wApa.heap.size]? = some (.cells #[.int .i64 0, .slice none 0 0, .slice none 0 0] 25 (0, 0)) := block_below (World.alloc_heap_new wApa _) hBpab
        have y0 := cell_at hbzpab 0; have y1 := cell_at hbzpab 1; have y2 := cell_at hbzpab 2
        simp only [List.getElem?_toArray, List.getElem?_cons_zero, List.getElem?_cons_succ] at y0 y1 y2
        have z0 := free_at hbzpab 0; have z1 := free_at hbzpab 1; have z2 := free_at hbzpab 2
        have hlzpab : w6.heap.size ≤ wApa.heap.size := by have := hDApa.size; omega
        have hendpab : Below w6.heap.size w6 (((((wBpab).setCell ⟨wApa.heap.size, 0, none⟩ (.int .i64 (runP sampP [⟨1, 1, 6, 1⟩]).1.size)).setCell ⟨wApa.heap.size, 1, none⟩ (.slice Ax (runP sampP [⟨1, 1, 6, 1⟩]).1.fixed.length cx)).setCell ⟨wApa.heap.size, 2, none⟩ (.slice Fa (runP sampP [⟨1, 1, 6, 1⟩]).1.files.length cf))) := (((hDBpab).setCell (p := ⟨wApa.heap.size, 0, none⟩) hlzpab _).setCell (p := ⟨wApa.heap.size, 1, none⟩) hlzpab _).setCell (p := ⟨wApa.heap.size, 2, none⟩) hlzpab _
        refine anyC_only (i := 7) (by kernel_rfl) (wpOpIn_step rfl (fun K' hK' => ?_))
        go_simp
        refine hK' _ _ ⟨HS6.out.below hendpab, ?_⟩
        clear hK' K'
        refine anyC_only (i := 8) (by kernel_rfl) (wpOpIn_step rfl (fun K' hK' => ?_))
        go_simp
        refine hK' _ _ ⟨HS6.out.below hendpab, ?_⟩
        clear hK' K'
        refine anyC_done (by kernel_rfl) ?_
        go_wp2_with fail
        go_meet
        exact ⟨wApa.heap.size, rfl, rfl, hendpab⟩
    · go_simp
      have hDNpb : Below w6.heap.size w6 (w6.drew.alloc (.cells #[.int .i64 0, .slice none 0 0, .slice none 0 0] 25)) := below_alloc (show Below w6.heap.size w6 w6.drew from (Below.refl _ _).drew) _
      have hCNpb : (fun W' : World => San nb A1 A2 k1 k2 W') (w6.drew.alloc (.cells #[.int .i64 0, .slice none 0 0, .slice none 0 0] 25)) := HS6.out.below hDNpb
      refine hK' _ _ ⟨hCNpb, ?_⟩
      clear hK' K'
      refine anyC_only (i := 1) (by kernel_rfl) (wpOpIn_step rfl (fun K' hK' => ?_))
      go_simp
      refine ⟨trivial, rfl, (callsIn_wide.2 (step_any 1 1 6 1 _)).mono ?_⟩
      rintro e wApb ⟨rfl, hApb⟩
      have hDApb : Below w6.heap.size w6 wApb := below_then hDNpb hApb
      have hCApb : (fun W' : World => San nb A1 A2 k1 k2 W') wApb := HS6.out.below hDApb
      refine hK' _ _ ⟨hCApb, ?_⟩
      clear hK' K'
      refine anyC_only (i := 2) (by kernel_rfl) (wpOpIn_step rfl (fun K' hK' => ?_))
      go_simp
      refine ⟨trivial, rfl, (callsIn_wide.2 (apply_pic sampP ⟨1, 1, 6, 1⟩ _ _ (HS6.out.below hDApb).pic sampOk)).mono ?_⟩
      rintro e wBpb ⟨⟨u, rfl, hu⟩, hBpb⟩
      rw [san6]
      obtain ⟨Ax, cx, Fa, cf, F', rfl, -, -⟩ := hu
      have hDBpb : Below w6.heap.size w6 wBpb := below_then hDApb hBpb
      have hCBpb : (fun W' : World => San nb A1 A2 k1 k2 W') wBpb := HS6.out.below hDBpb
      refine hK' _ _ ⟨hCBpb, ?_⟩
      clear hK' K'
      refine anyC_take (i := 3) ?v3pb rfl rfl (by kernel_rfl) (by kernel_rfl) (by kernel_rfl) (fun _ _ _ h => h) hCBpb ⟨.inl ⟨by kernel_rfl, fun W' hW' => ?y3pb⟩, fun _ => rfl⟩ ?_
      case y3pb => (skip; go_simp; rfl)
      simp only [Act.put, List.setIfInBounds_toArray, List.set_cons_succ, List.set_cons_zero]
      refine anyC_take (i := 4) ?v4pb rfl rfl (by kernel_rfl) (by kernel_rfl) (by kernel_rfl) (fun _ _ _ h => h) hCBpb ⟨.inl ⟨by kernel_rfl, fun W' hW' => ?y4pb⟩, fun _ => rfl⟩ ?_
      case y4pb => (skip; go_simp; rfl)
      simp only [Act.put, List.setIfInBounds_toArray, List.set_cons_succ, List.set_cons_zero]
      refine anyC_take (i := 5) ?v5pb rfl rfl (by kernel_rfl) (by kernel_rfl) (by kernel_rfl) (fun _ _ _ h => h) hCBpb ⟨.inl ⟨by kernel_rfl, fun W' hW' => ?y5pb⟩, fun _ => rfl⟩ ?_
      case y5pb => (skip; go_simp; rfl)
      simp only [Act.put, List.setIfInBounds_toArray, List.set_cons_succ, List.set_cons_zero]
      have hbzpb : (wBpb).heap[w6.heap.size]? = some (.cells #[.int .i64 0, .slice none 0 0, .slice none 0 0] 25 (0, 0)) := block_below (block_below (World.alloc_heap_new w6.drew _) hApb) hBpb
      have y0 := cell_at hbzpb 0; have y1 := cell_at hbzpb 1; have y2 := cell_at hbzpb 2
      simp only [List.getElem?_toArray, List.getElem?_cons_zero, List.getElem?_cons_succ] at y0 y1 y2
      have z0 := free_at hbzpb 0; have z1 := free_at hbzpb 1; have z2 := free_at hbzpb 2
      have hlzpb : w6.heap.size ≤ w6.heap.size := by exact Nat.le_refl _
      have hendpb : Below w6.heap.size w6 (((((wBpb).setCell ⟨w6.heap.size, 0, none⟩ (.int .i64 (runP sampP [⟨1, 1, 6, 1⟩]).1.size)).setCell ⟨w6.heap.size, 1, none⟩ (.slice Ax (runP sampP [⟨1, 1, 6, 1⟩]).1.fixed.length cx)).setCell ⟨w6.heap.size, 2, none⟩ (.slice Fa (runP sampP [⟨1, 1, 6, 1⟩]).1.files.length cf))) := (((hDBpb).setCell (p := ⟨w6.heap.size, 0, none⟩) hlzpb _).setCell (p := ⟨w6.heap.size, 1, none⟩) hlzpb _).setCell (p := ⟨w6.heap.size, 2, none⟩) hlzpb _
      refine anyC_only (i := 7) (by kernel_rfl) (wpOpIn_step rfl (fun K' hK' => ?_))
      go_simp
      refine hK' _ _ ⟨HS6.out.below hendpb, ?_⟩
      clear hK' K'
      refine anyC_only (i := 8) (by kernel_rfl) (wpOpIn_step rfl (fun K' hK' => ?_))
      go_simp
      refine hK' _ _ ⟨HS6.out.below hendpb, ?_⟩
      clear hK' K'
      refine anyC_done (by kernel_rfl) ?_
      go_wp2_with fail
      go_meet
      exact ⟨w6.heap.size, rfl, rfl, hendpb⟩
  case rest =>
  obtain ⟨bz7, rfl, rfl, hB7⟩ := hcut
  obtain ⟨w7, rfl⟩ : ∃ w7 : World, w7 = wc := ⟨_, rfl⟩
  have HS7 := Lib.hid (HS6.out.below hB7)
  have HD7 := Lib.hid (HD6.out.below hB7)
  have HH7 := Lib.hid (HH6.out.below hB7)
  have HC7 := Lib.hid (HC6.out.below hB7)
  have hBw7 := below_then hBw6 hB7
  go_wp2_with fail
  go_cut [14, 15] from 50 to 56 (fun q e wx => ∃ bz, q = .pointer (some ⟨bz, 0, none⟩) ∧ e = .int .i64 1 ∧ Below w7.heap.size w7 wx)
  case first =>
    refine wp_region_anyC (C := fun W' : World => San nb A1 A2 k1 k2 W') hmx ?_
    have hCw : (fun W' : World => San nb A1 A2 k1 k2 W') w7.drew := HS7.out.drew
    refine anyC_take (i := 0) ?v0r rfl rfl (by kernel_rfl) (by kernel_rfl) (by kernel_rfl) (fun _ _ _ h => h) hCw ⟨.inl ⟨by kernel_rfl, fun W' hW' => ?y0r⟩, fun _ => rfl⟩ ?_
    case y0r => (have q0 := hW'.c0; have q1 := hW'.c1; have q2 := hW'.c2; go_simp; rfl)
    simp only [Act.put, List.setIfInBounds_toArray, List.set_cons_succ, List.set_cons_zero]
    have key : ∀ (wB : World), Below w7.heap.size w7 wB → True := fun _ _ => trivial
    refine anyC_two (i := 1) (j := 6) (by kernel_rfl) (wpOpIn_step rfl (fun K' hK' => ?_)) (wpOpIn_step rfl (fun K' hK' => ?_))
    · go_simp
      refine ⟨trivial, rfl, (callsIn_wide.2 (step_any 1 1 9 2 _)).mono ?_⟩
      rintro e wAra ⟨rfl, hAra⟩
      have hDAra : Below w7.heap.size w7 wAra := below_then (show Below w7.heap.size w7 w7.drew from (Below.refl _ _).drew) hAra
      have hCAra : (fun W' : World => San nb A1 A2 k1 k2 W') wAra := HS7.out.below hDAra
      refine hK' _ _ ⟨hCAra, ?_⟩
      clear hK' K'
      refine anyC_two (i := 2) (j := 6) (by kernel_rfl) (wpOpIn_step rfl (fun K' hK' => ?_)) (wpOpIn_step rfl (fun K' hK' => ?_))
      · go_simp
        refine ⟨trivial, rfl, (callsIn_wide.2 (apply_pic sampP ⟨1, 1, 9, 2⟩ _ _ (HS7.out.below hDAra).pic sampOk)).mono ?_⟩
        rintro e wBraa ⟨⟨u, rfl, hu⟩, hBraa⟩
        rw [san7]
        obtain ⟨Ax, cx, Fa, cf, F', rfl, -, -⟩ := hu
        have hDBraa : Below w7.heap.size w7 wBraa := below_then hDAra hBraa
        have hCBraa : (fun W' : World => San nb A1 A2 k1 k2 W') wBraa := HS7.out.below hDBraa
        refine hK' _ _ ⟨hCBraa, ?_⟩
        clear hK' K'
        refine anyC_take (i := 3) ?v3raa rfl rfl (by kernel_rfl) (by kernel_rfl) (by kernel_rfl) (fun _ _ _ h => h) hCBraa ⟨.inl ⟨by kernel_rfl, fun W' hW' => ?y3raa⟩, fun _ => rfl⟩ ?_
        case y3raa => (skip; go_simp; rfl)
        simp only [Act.put, List.setIfInBounds_toArray, List.set_cons_succ, List.set_cons_zero]
        refine anyC_take (i := 4) ?v4raa rfl rfl (by kernel_rfl) (by kernel_rfl) (by kernel_rfl) (fun _ _ _ h => h) hCBraa ⟨.inl ⟨by kernel_rfl, fun W' hW' => ?y4raa⟩, fun _ => rfl⟩ ?_
        case y4raa => (skip; go_simp; rfl)
        simp only [Act.put, List.setIfInBounds_toArray, List.set_cons_succ, List.set_cons_zero]
        refine anyC_take (i := 5) ?v5raa rfl rfl (by kernel_rfl) (by kernel_rfl) (by kernel_rfl) (fun _ _ _ h => h) hCBraa ⟨.inl ⟨by kernel_rfl, fun W' hW' => ?y5raa⟩, fun _ => rfl⟩ ?_
        case y5raa => (skip; go_simp; rfl)
        simp only [Act.put, List.setIfInBounds_toArray, List.set_cons_succ, List.set_cons_zero]
        refine anyC_only (i := 6) (by kernel_rfl) (wpOpIn_step rfl (fun K' hK' => ?_))
        go_simp
        have hDNraa : Below w7.heap.size w7 (wBraa.alloc (.cells #[.int .i64 0, .slice none 0 0, .slice none 0 0] 25)) := below_alloc hDBraa _
        have hCNraa : (fun W' : World => San nb A1 A2 k1 k2 W') (wBraa.alloc (.cells #[.int .i64 0, .slice none 0 0, .slice none 0 0] 25)) := HS7.out.below hDNraa
        refine hK' _ _ ⟨hCNraa, ?_⟩
        clear hK' K'
        have hbzraa : (wBraa.alloc (.cells #[.int .i64 0, .slice none 0 0, .slice none 0 0] 25)).heap[wBraa.heap.size]? = some (.cells #[.int .i64 0, .slice none 0 0, .slice none 0 0] 25 (0, 0)) := World.alloc_heap_new _ _
        have y0 := cell_at hbzraa 0; have y1 := cell_at hbzraa 1; have y2 := cell_at hbzraa 2
        simp only [List.getElem?_toArray, List.getElem?_cons_zero, List.getElem?_cons_succ] at y0 y1 y2
        have z0 := free_at hbzraa 0; have z1 := free_at hbzraa 1; have z2 := free_at hbzraa 2
        have hlzraa : w7.heap.size ≤ wBraa.heap.size := by have := hDBraa.size; omega
        have hendraa : Below w7.heap.size w7 (wBraa.alloc (.cells #[.int .i64 (runP sampP [⟨1, 1, 9, 2⟩]).1.size, .slice Ax (runP sampP [⟨1, 1, 9, 2⟩]).1.fixed.length cx, .slice Fa (runP sampP [⟨1, 1, 9, 2⟩]).1.files.length cf] 25)) := below_alloc hDBraa _
        refine anyC_only (i := 7) (by kernel_rfl) (wpOpIn_step rfl (fun K' hK' => ?_))
        go_simp
        refine hK' _ _ ⟨HS7.out.below hendraa, ?_⟩
        clear hK' K'
        refine anyC_only (i := 8) (by kernel_rfl) (wpOpIn_step rfl (fun K' hK' => ?_))
        go_simp
        refine hK' _ _ ⟨HS7.out.below hendraa, ?_⟩
        clear hK' K'
        refine anyC_done (by kernel_rfl) ?_
        go_wp2_with fail
        go_meet
        exact ⟨wBraa.heap.size, rfl, rfl, hendraa⟩
      · go_simp
        have hDNrab : Below w7.heap.size w7 (wAra.alloc (.cells #[.int .i64 0, .slice none 0 0, .slice none 0 0] 25)) := below_alloc hDAra _
        have hCNrab : (fun W' : World => San nb A1 A2 k1 k2 W') (wAra.alloc (.cells #[.int .i64 0, .slice none 0 0, .slice none 0 0] 25)) := HS7.out.below hDNrab
        refine hK' _ _ ⟨hCNrab, ?_⟩
        clear hK' K'
        refine anyC_only (i := 2) (by kernel_rfl) (wpOpIn_step rfl (fun K' hK' => ?_))
        go_simp
        refine ⟨trivial, rfl, (callsIn_wide.2 (apply_pic sampP ⟨1, 1, 9, 2⟩ _ _ (HS7.out.below hDNrab).pic sampOk)).mono ?_⟩
        rintro e wBrab ⟨⟨u, rfl, hu⟩, hBrab⟩
        rw [san7]
        obtain ⟨Ax, cx, Fa, cf, F', rfl, -, -⟩ := hu
        have hDBrab : Below w7.heap.size w7 wBrab := below_then hDNrab hBrab
        have hCBrab : (fun W' : World => San nb A1 A2 k1 k2 W') wBrab := HS7.out.below hDBrab
        refine hK' _ _ ⟨hCBrab, ?_⟩
        clear hK' K'
        refine anyC_take (i := 3) ?v3rab rfl rfl (by kernel_rfl) (by kernel_rfl) (by kernel_rfl) (fun _ _ _ h => h) hCBrab ⟨.inl ⟨by kernel_rfl, fun W' hW' => ?y3rab⟩, fun _ => rfl⟩ ?_
        case y3rab => (skip; go_simp; rfl)
        simp only [Act.put, List.setIfInBounds_toArray, List.set_cons_succ, List.set_cons_zero]
        refine anyC_take (i := 4) ?v4rab rfl rfl (by kernel_rfl) (by kernel_rfl) (by kernel_rfl) (fun _ _ _ h => h) hCBrab ⟨.inl ⟨by kernel_rfl, fun W' hW' => ?y4rab⟩, fun _ => rfl⟩ ?_
        case y4rab => (skip; go_simp; rfl)
        simp only [Act.put, List.setIfInBounds_toArray, List.set_cons_succ, List.set_cons_zero]
        refine anyC_take (i := 5) ?v5rab rfl rfl (by kernel_rfl) (by kernel_rfl) (by kernel_rfl) (fun _ _ _ h => h) hCBrab ⟨.inl ⟨by kernel_rfl, fun W' hW' => ?y5rab⟩, fun _ => rfl⟩ ?_
        case y5rab => (skip; go_simp; rfl)
        simp only [Act.put, List.setIfInBounds_toArray, List.set_cons_succ, List.set_cons_zero]
        have hbzrab : (wBrab).heap[wAra.heap.size]? = some (.cells #[.int .i64 0, .slice none 0 0, .slice none 0 0] 25 (0, 0)) := block_below (World.alloc_heap_new wAra _) hBrab
        have y0 := cell_at hbzrab 0; have y1 := cell_at hbzrab 1; have y2 := cell_at hbzrab 2
        simp only [List.getElem?_toArray, List.getElem?_cons_zero, List.getElem?_cons_succ] at y0 y1 y2
        have z0 := free_at hbzrab 0; have z1 := free_at hbzrab 1; have z2 := free_at hbzrab 2
        have hlzrab : w7.heap.size ≤ wAra.heap.size := by have := hDAra.size; omega
        have hendrab : Below w7.heap.size w7 (((((wBrab).setCell ⟨wAra.heap.size, 0, none⟩ (.int .i64 (runP sampP [⟨1, 1, 9, 2⟩]).1.size)).setCell ⟨wAra.heap.size, 1, none⟩ (.slice Ax (runP sampP [⟨1, 1, 9, 2⟩]).1.fixed.length cx)).setCell ⟨wAra.heap.size, 2, none⟩ (.slice Fa (runP sampP [⟨1, 1, 9, 2⟩]).1.files.length cf))) := (((hDBrab).setCell (p := ⟨wAra.heap.size, 0, none⟩) hlzrab _).setCell (p := ⟨wAra.heap.size, 1, none⟩) hlzrab _).setCell (p := ⟨wAra.heap.size, 2, none⟩) hlzrab _
        refine anyC_only (i := 7) (by kernel_rfl) (wpOpIn_step rfl (fun K' hK' => ?_))
        go_simp
        refine hK' _ _ ⟨HS7.out.below hendrab, ?_⟩
        clear hK' K'
        refine anyC_only (i := 8) (by kernel_rfl) (wpOpIn_step rfl (fun K' hK' => ?_))
        go_simp
        refine hK' _ _ ⟨HS7.out.below hendrab, ?_⟩
        clear hK' K'
        refine anyC_done (by kernel_rfl) ?_
        go_wp2_with fail
        go_meet
        exact ⟨wAra.heap.size, rfl, rfl, hendrab⟩
    · go_simp
      have hDNrb : Below w7.heap.size w7 (w7.drew.alloc (.cells #[.int .i64 0, .slice none 0 0, .slice none 0 0] 25)) := below_alloc (show Below w7.heap.size w7 w7.drew from (Below.refl _ _).drew) _
      have hCNrb : (fun W' : World => San nb A1 A2 k1 k2 W') (w7.drew.alloc (.cells #[.int .i64 0, .slice none 0 0, .slice none 0 0] 25)) := HS7.out.below hDNrb
      refine hK' _ _ ⟨hCNrb, ?_⟩
      clear hK' K'
      refine anyC_only (i := 1) (by kernel_rfl) (wpOpIn_step rfl (fun K' hK' => ?_))
      go_simp
      refine ⟨trivial, rfl, (callsIn_wide.2 (step_any 1 1 9 2 _)).mono ?_⟩
      rintro e wArb ⟨rfl, hArb⟩
      have hDArb : Below w7.heap.size w7 wArb := below_then hDNrb hArb
      have hCArb : (fun W' : World => San nb A1 A2 k1 k2 W') wArb := HS7.out.below hDArb
      refine hK' _ _ ⟨hCArb, ?_⟩
      clear hK' K'
      refine anyC_only (i := 2) (by kernel_rfl) (wpOpIn_step rfl (fun K' hK' => ?_))
      go_simp
      refine ⟨trivial, rfl, (callsIn_wide.2 (apply_pic sampP ⟨1, 1, 9, 2⟩ _ _ (HS7.out.below hDArb).pic sampOk)).mono ?_⟩
      rintro e wBrb ⟨⟨u, rfl, hu⟩, hBrb⟩
      rw [san7]
      obtain ⟨Ax, cx, Fa, cf, F', rfl, -, -⟩ := hu
      have hDBrb : Below w7.heap.size w7 wBrb := below_then hDArb hBrb
      have hCBrb : (fun W' : World => San nb A1 A2 k1 k2 W') wBrb := HS7.out.below hDBrb
      refine hK' _ _ ⟨hCBrb, ?_⟩
      clear hK' K'
      refine anyC_take (i := 3) ?v3rb rfl rfl (by kernel_rfl) (by kernel_rfl) (by kernel_rfl) (fun _ _ _ h => h) hCBrb ⟨.inl ⟨by kernel_rfl, fun W' hW' => ?y3rb⟩, fun _ => rfl⟩ ?_
      case y3rb => (skip; go_simp; rfl)
      simp only [Act.put, List.setIfInBounds_toArray, List.set_cons_succ, List.set_cons_zero]
      refine anyC_take (i := 4) ?v4rb rfl rfl (by kernel_rfl) (by kernel_rfl) (by kernel_rfl) (fun _ _ _ h => h) hCBrb ⟨.inl ⟨by kernel_rfl, fun W' hW' => ?y4rb⟩, fun _ => rfl⟩ ?_
      case y4rb => (skip; go_simp; rfl)
      simp only [Act.put, List.setIfInBounds_toArray, List.set_cons_succ, List.set_cons_zero]
      refine anyC_take (i := 5) ?v5rb rfl rfl (by kernel_rfl) (by kernel_rfl) (by kernel_rfl) (fun _ _ _ h => h) hCBrb ⟨.inl ⟨by kernel_rfl, fun W' hW' => ?y5rb⟩, fun _ => rfl⟩ ?_
      case y5rb => (skip; go_simp; rfl)
      simp only [Act.put, List.setIfInBounds_toArray, List.set_cons_succ, List.set_cons_zero]
      have hbzrb : (wBrb).heap[w7.heap.size]? = some (.cells #[.int .i64 0, .slice none 0 0, .slice none 0 0] 25 (0, 0)) := block_below (block_below (World.alloc_heap_new w7.drew _) hArb) hBrb
      have y0 := cell_at hbzrb 0; have y1 := cell_at hbzrb 1; have y2 := cell_at hbzrb 2
      simp only [List.getElem?_toArray, List.getElem?_cons_zero, List.getElem?_cons_succ] at y0 y1 y2
      have z0 := free_at hbzrb 0; have z1 := free_at hbzrb 1; have z2 := free_at hbzrb 2
      have hlzrb : w7.heap.size ≤ w7.heap.size := by exact Nat.le_refl _
      have hendrb : Below w7.heap.size w7 (((((wBrb).setCell ⟨w7.heap.size, 0, none⟩ (.int .i64 (runP sampP [⟨1, 1, 9, 2⟩]).1.size)).setCell ⟨w7.heap.size, 1, none⟩ (.slice Ax (runP sampP [⟨1, 1, 9, 2⟩]).1.fixed.length cx)).setCell ⟨w7.heap.size, 2, none⟩ (.slice Fa (runP sampP [⟨1, 1, 9, 2⟩]).1.files.length cf))) := (((hDBrb).setCell (p := ⟨w7.heap.size, 0, none⟩) hlzrb _).setCell (p := ⟨w7.heap.size, 1, none⟩) hlzrb _).setCell (p := ⟨w7.heap.size, 2, none⟩) hlzrb _
      refine anyC_only (i := 7) (by kernel_rfl) (wpOpIn_step rfl (fun K' hK' => ?_))
      go_simp
      refine hK' _ _ ⟨HS7.out.below hendrb, ?_⟩
      clear hK' K'
      refine anyC_only (i := 8) (by kernel_rfl) (wpOpIn_step rfl (fun K' hK' => ?_))
      go_simp
      refine hK' _ _ ⟨HS7.out.below hendrb, ?_⟩
      clear hK' K'
      refine anyC_done (by kernel_rfl) ?_
      go_wp2_with fail
      go_meet
      exact ⟨w7.heap.size, rfl, rfl, hendrb⟩
  case rest =>
  obtain ⟨bz8, rfl, rfl, hB8⟩ := hcut
  obtain ⟨w8, rfl⟩ : ∃ w8 : World, w8 = wc := ⟨_, rfl⟩
  have HS8 := Lib.hid (HS7.out.below hB8)
  have HD8 := Lib.hid (HD7.out.below hB8)
  have HH8 := Lib.hid (HH7.out.below hB8)
  have HC8 := Lib.hid (HC7.out.below hB8)
  have hBw8 := below_then hBw7 hB8
  have c0 := HS8.out.c0; have c1 := HS8.out.c1; have c2 := HS8.out.c2
  go_wp2_with fail
  refine (resize_pic sampP 13 _ _ HS8.out.pic sampOk).mono ?_
  rintro e w9' ⟨⟨u, rfl, hu⟩, hB9'⟩
  rw [san8]
  obtain ⟨Ax, cx, Fa, cf, F', rfl, -, -⟩ := hu
  have hB9 := below_then hB9' (below_alloc (Below.refl _ _) (.cells #[.int .i64 (resizeP sampP 13).1.size, .slice Ax (resizeP sampP 13).1.fixed.length cx, .slice Fa (resizeP sampP 13).1.files.length cf] 25))
  have HD9 := Lib.hid (HD8.out.below hB9)
  have HH9 := Lib.hid (HH8.out.below hB9)
  have HC9 := Lib.hid (HC8.out.below hB9)
  have hBw9 := below_then hBw8 hB9
  clear c0 c1 c2 hB9' hB9
  go_wp2_with fail
  obtain ⟨w9, hw9⟩ : ∃ w9, w9'.alloc (.cells #[.int .i64 (resizeP sampP 13).1.size, .slice Ax (resizeP sampP 13).1.fixed.length cx, .slice Fa (resizeP sampP 13).1.files.length cf] 25) = w9 := ⟨_, rfl⟩
  rw [hw9] at HD9 HH9 HC9 hBw9 ⊢
  clear hw9
  obtain ⟨bc, oc, rfl, m0, m1, m2, m3⟩ := HC9.out 0 (by simp)
  simp only [Nat.zero_mul, Nat.add_zero, List.getElem_cons_zero] at m0 m1 m2 m3
  have hCC : ∀ W, Below w9.heap.size w9 W → (fun W' : World => W'.cell? ⟨bc, oc, none⟩ = some (.int .i64 2) ∧ W'.cell? ⟨bc, oc + 1, none⟩ = some (.int .i64 4) ∧ W'.cell? ⟨bc, oc + 2, none⟩ = some (.int .i64 3) ∧ W'.cell? ⟨bc, oc + 3, none⟩ = some (.int .i64 1)) W := fun W hW => ⟨cell_below m0 hW, cell_below m1 hW, cell_below m2 hW, cell_below m3 hW⟩
  have hq35 : ∀ (W : World), (binOp .eql 35 (.agg #[.int .i64 2, .int .i64 4, .int .i64 3, .int .i64 1]) (.agg #[.int .i64 2, .int .i64 4, .int .i64 3, .int .i64 1])).run Try.prog W = .ok (.bool true) W := fun W => by kernel_rfl
  clear m0 m1 m2 m3
  refine wp_region_anyN (C := fun W' : World => W'.cell? ⟨bc, oc, none⟩ = some (.int .i64 2) ∧ W'.cell? ⟨bc, oc + 1, none⟩ = some (.int .i64 4) ∧ W'.cell? ⟨bc, oc + 2, none⟩ = some (.int .i64 3) ∧ W'.cell? ⟨bc, oc + 3, none⟩ = some (.int .i64 1)) 36 (by kernel_rfl) hmx ?_
  have hB0d : Below w9.heap.size w9 w9.drew := (Below.refl _ _).drew
  have hC0 : (fun W' : World => W'.cell? ⟨bc, oc, none⟩ = some (.int .i64 2) ∧ W'.cell? ⟨bc, oc + 1, none⟩ = some (.int .i64 4) ∧ W'.cell? ⟨bc, oc + 2, none⟩ = some (.int .i64 3) ∧ W'.cell? ⟨bc, oc + 3, none⟩ = some (.int .i64 1)) w9.drew := hCC _ hB0d
  refine anyC_take (i := 0) ?v0s rfl rfl (by kernel_rfl) (by kernel_rfl) (by kernel_rfl) (fun _ _ _ h => h) hC0 ⟨.inl ⟨by kernel_rfl, fun W' hW' => ?y0s⟩, fun _ => rfl⟩ ?_
  case y0s => (obtain ⟨q0, q1, q2, q3⟩ := hW'; go_simp; rfl)
  simp only [Act.put, List.setIfInBounds_toArray, List.set_cons_succ, List.set_cons_zero]
  refine anyC_take (i := 1) ?v1s rfl rfl (by kernel_rfl) (by kernel_rfl) (by kernel_rfl) (fun _ _ _ h => h) hC0 ⟨.inl ⟨by kernel_rfl, fun W' hW' => ?y1s⟩, fun _ => rfl⟩ ?_
  case y1s => (obtain ⟨q0, q1, q2, q3⟩ := hW'; go_simp; rfl)
  simp only [Act.put, List.setIfInBounds_toArray, List.set_cons_succ, List.set_cons_zero]
  refine anyC_take (i := 2) ?v2s rfl rfl (by kernel_rfl) (by kernel_rfl) (by kernel_rfl) (fun _ _ _ h => h) hC0 ⟨.inl ⟨by kernel_rfl, fun W' hW' => ?y2s⟩, fun _ => rfl⟩ ?_
  case y2s => (obtain ⟨q0, q1, q2, q3⟩ := hW'; go_simp; rfl)
  simp only [Act.put, List.setIfInBounds_toArray, List.set_cons_succ, List.set_cons_zero]
  refine anyC_take (i := 3) ?v3s rfl rfl (by kernel_rfl) (by kernel_rfl) (by kernel_rfl) (fun _ _ _ h => h) hC0 ⟨.inl ⟨by kernel_rfl, fun W' hW' => ?y3s⟩, fun _ => rfl⟩ ?_
  case y3s => (obtain ⟨q0, q1, q2, q3⟩ := hW'; go_simp; rfl)
  simp only [Act.put, List.setIfInBounds_toArray, List.set_cons_succ, List.set_cons_zero]
  refine anyC_take (i := 4) ?v4s rfl rfl (by kernel_rfl) (by kernel_rfl) (by kernel_rfl) (fun _ _ _ h => h) hC0 ⟨.inl ⟨by kernel_rfl, fun W' hW' => ?y4s⟩, fun _ => rfl⟩ ?_
  case y4s => (obtain ⟨q0, q1, q2, q3⟩ := hW'; go_simp; rfl)
  simp only [Act.put, List.setIfInBounds_toArray, List.set_cons_succ, List.set_cons_zero]
  refine anyC_take (i := 5) ?v5s rfl rfl (by kernel_rfl) (by kernel_rfl) (by kernel_rfl) (fun _ _ _ h => h) hC0 ⟨.inl ⟨by kernel_rfl, fun W' hW' => ?y5s⟩, fun _ => rfl⟩ ?_
  case y5s => (obtain ⟨q0, q1, q2, q3⟩ := hW'; go_simp; rfl)
  simp only [Act.put, List.setIfInBounds_toArray, List.set_cons_succ, List.set_cons_zero]
  refine anyC_take (i := 6) ?v6s rfl rfl (by kernel_rfl) (by kernel_rfl) (by kernel_rfl) (fun _ _ _ h => h) hC0 ⟨.inl ⟨by kernel_rfl, fun W' hW' => ?y6s⟩, fun _ => rfl⟩ ?_
  case y6s => (obtain ⟨q0, q1, q2, q3⟩ := hW'; go_simp; rfl)
  simp only [Act.put, List.setIfInBounds_toArray, List.set_cons_succ, List.set_cons_zero]
  refine anyC_take (i := 7) ?v7s rfl rfl (by kernel_rfl) (by kernel_rfl) (by kernel_rfl) (fun _ _ _ h => h) hC0 ⟨.inl ⟨by kernel_rfl, fun W' hW' => ?y7s⟩, fun _ => rfl⟩ ?_
  case y7s => (obtain ⟨q0, q1, q2, q3⟩ := hW'; go_simp; rfl)
  simp only [Act.put, List.setIfInBounds_toArray, List.set_cons_succ, List.set_cons_zero]
  refine anyC_take (i := 8) ?v8s rfl rfl (by kernel_rfl) (by kernel_rfl) (by kernel_rfl) (fun _ _ _ h => h) hC0 ⟨.inl ⟨by kernel_rfl, fun W' hW' => ?y8s⟩, fun _ => rfl⟩ ?_
  case y8s => (obtain ⟨q0, q1, q2, q3⟩ := hW'; go_simp; rfl)
  simp only [Act.put, List.setIfInBounds_toArray, List.set_cons_succ, List.set_cons_zero]
  refine anyC_onlyW (i := 9) (by kernel_rfl) rfl (by kernel_rfl) (fun K' hK' => ?_)
  go_simp
  refine ⟨trivial, rfl, (callsIn_wide.2 (step_any 1 0 14 2 _)).mono ?_⟩
  rintro e x1 ⟨rfl, hXx1⟩
  have hBx1 : Below w9.heap.size w9 x1 := below_then hB0d hXx1
  have hCx1 : (fun W' : World => W'.cell? ⟨bc, oc, none⟩ = some (.int .i64 2) ∧ W'.cell? ⟨bc, oc + 1, none⟩ = some (.int .i64 4) ∧ W'.cell? ⟨bc, oc + 2, none⟩ = some (.int .i64 3) ∧ W'.cell? ⟨bc, oc + 3, none⟩ = some (.int .i64 1)) x1 := hCC _ hBx1
  refine hK' _ _ ⟨hCx1, ?_⟩
  clear hK' K'
  refine anyC_onlyW (i := 10) (by kernel_rfl) rfl (by kernel_rfl) (fun K' hK' => ?_)
  go_simp
  refine ⟨trivial, rfl, (callsIn_wide.2 (step_any 1 2 16 1 _)).mono ?_⟩
  rintro e x2 ⟨rfl, hXx2⟩
  have hBx2 : Below w9.heap.size w9 x2 := below_then hBx1 hXx2
  have hCx2 : (fun W' : World => W'.cell? ⟨bc, oc, none⟩ = some (.int .i64 2) ∧ W'.cell? ⟨bc, oc + 1, none⟩ = some (.int .i64 4) ∧ W'.cell? ⟨bc, oc + 2, none⟩ = some (.int .i64 3) ∧ W'.cell? ⟨bc, oc + 3, none⟩ = some (.int .i64 1)) x2 := hCC _ hBx2
  refine hK' _ _ ⟨hCx2, ?_⟩
  clear hK' K'
  refine anyC_onlyW (i := 11) (by kernel_rfl) rfl (by kernel_rfl) (fun K' hK' => ?_)
  go_simp
  refine ⟨trivial, rfl, (callsIn_wide.2 (step_any 2 0 3 1 _)).mono ?_⟩
  rintro e x3 ⟨rfl, hXx3⟩
  have hBx3 : Below w9.heap.size w9 x3 := below_then hBx2 hXx3
  have hCx3 : (fun W' : World => W'.cell? ⟨bc, oc, none⟩ = some (.int .i64 2) ∧ W'.cell? ⟨bc, oc + 1, none⟩ = some (.int .i64 4) ∧ W'.cell? ⟨bc, oc + 2, none⟩ = some (.int .i64 3) ∧ W'.cell? ⟨bc, oc + 3, none⟩ = some (.int .i64 1)) x3 := hCC _ hBx3
  refine hK' _ _ ⟨hCx3, ?_⟩
  clear hK' K'
  refine anyC_onlyW (i := 12) (by kernel_rfl) rfl (by kernel_rfl) (fun K' hK' => ?_)
  go_simp
  refine ⟨trivial, rfl, (callsIn_wide.2 (step_any 2 3 4 2 _)).mono ?_⟩
  rintro e x4 ⟨rfl, hXx4⟩
  have hBx4 : Below w9.heap.size w9 x4 := below_then hBx3 hXx4
  have hCx4 : (fun W' : World => W'.cell? ⟨bc, oc, none⟩ = some (.int .i64 2) ∧ W'.cell? ⟨bc, oc + 1, none⟩ = some (.int .i64 4) ∧ W'.cell? ⟨bc, oc + 2, none⟩ = some (.int .i64 3) ∧ W'.cell? ⟨bc, oc + 3, none⟩ = some (.int .i64 1)) x4 := hCC _ hBx4
  refine hK' _ _ ⟨hCx4, ?_⟩
  clear hK' K'
  refine anyC_onlyW (i := 13) (by kernel_rfl) rfl (by kernel_rfl) (fun K' hK' => ?_)
  go_simp
  obtain ⟨x5, hx5⟩ : ∃ x5, x4.alloc (.cells #[.int .i64 1, .int .i64 0, .int .i64 14, .int .i64 2, .int .i64 1, .int .i64 2, .int .i64 16, .int .i64 1, .int .i64 2, .int .i64 0, .int .i64 3, .int .i64 1, .int .i64 2, .int .i64 3, .int .i64 4, .int .i64 2] 35) = x5 := ⟨_, rfl⟩
  have hBx5 : Below w9.heap.size w9 x5 := by rw [← hx5]; exact below_alloc hBx4 _
  have hbkx5 : x5.heap[x4.heap.size]? = some (.cells #[.int .i64 1, .int .i64 0, .int .i64 14, .int .i64 2, .int .i64 1, .int .i64 2, .int .i64 16, .int .i64 1, .int .i64 2, .int .i64 0, .int .i64 3, .int .i64 1, .int .i64 2, .int .i64 3, .int .i64 4, .int .i64 2] 35 (0, 0)) := by rw [← hx5]; exact World.alloc_heap_new _ _
  have hCx5 : (fun W' : World => W'.cell? ⟨bc, oc, none⟩ = some (.int .i64 2) ∧ W'.cell? ⟨bc, oc + 1, none⟩ = some (.int .i64 4) ∧ W'.cell? ⟨bc, oc + 2, none⟩ = some (.int .i64 3) ∧ W'.cell? ⟨bc, oc + 3, none⟩ = some (.int .i64 1)) x5 := hCC _ hBx5
  rw [hx5]
  refine hK' _ _ ⟨hCx5, ?_⟩
  clear hK' K' hx5
  have hstx6 : StepC x5 (some ⟨x4.heap.size, 0, none⟩) [⟨1, 0, 14, 2⟩, ⟨1, 2, 16, 1⟩, ⟨2, 0, 3, 1⟩, ⟨2, 3, 4, 2⟩] := by
    intro j hj
    have hj2 : j = 0 ∨ j = 1 ∨ j = 2 ∨ j = 3 := by simp at hj; omega
    rcases hj2 with rfl | rfl | rfl | rfl
    all_goals exact ⟨_, _, rfl, by simp [World.cell?, hbkx5], by simp [World.cell?, hbkx5], by simp [World.cell?, hbkx5], by simp [World.cell?, hbkx5]⟩
  refine anyC_onlyW (i := 14) (by kernel_rfl) rfl (by kernel_rfl) (fun K' hK' => ?_)
  go_simp
  refine ⟨trivial, rfl, (callsIn_wide.2 (sameSteps_any [⟨1, 0, 14, 2⟩, ⟨1, 2, 16, 1⟩, ⟨2, 0, 3, 1⟩, ⟨2, 3, 4, 2⟩] [⟨1, 0, 14, 2⟩, ⟨1, 2, 16, 1⟩, ⟨2, 0, 3, 1⟩, ⟨2, 3, 4, 2⟩] Ad _ kd 4 _ (by decide) (HD9.out.below hBx5) hstx6)).mono ?_⟩
  rintro e x6 ⟨rfl, hXx6⟩
  rw [show decide (([⟨1, 0, 14, 2⟩, ⟨1, 2, 16, 1⟩, ⟨2, 0, 3, 1⟩, ⟨2, 3, 4, 2⟩] : List Step) = [⟨1, 0, 14, 2⟩, ⟨1, 2, 16, 1⟩, ⟨2, 0, 3, 1⟩, ⟨2, 3, 4, 2⟩]) = true by decide]
  have hBx6 : Below w9.heap.size w9 x6 := below_then hBx5 hXx6
  have hCx6 : (fun W' : World => W'.cell? ⟨bc, oc, none⟩ = some (.int .i64 2) ∧ W'.cell? ⟨bc, oc + 1, none⟩ = some (.int .i64 4) ∧ W'.cell? ⟨bc, oc + 2, none⟩ = some (.int .i64 3) ∧ W'.cell? ⟨bc, oc + 3, none⟩ = some (.int .i64 1)) x6 := hCC _ hBx6
  refine hK' _ _ ⟨hCx6, ?_⟩
  clear hK' K'
  refine anyC_take (i := 15) ?v15s rfl rfl (by kernel_rfl) (by kernel_rfl) (by kernel_rfl) (fun _ _ _ h => h) hCx6 ⟨.inl ⟨by kernel_rfl, fun W' hW' => ?y15s⟩, fun _ => rfl⟩ ?_
  case y15s => (obtain ⟨q0, q1, q2, q3⟩ := hW'; go_simp; rfl)
  simp only [Act.put, List.setIfInBounds_toArray, List.set_cons_succ, List.set_cons_zero]
  refine anyC_take (i := 16) ?v16s rfl rfl (by kernel_rfl) (by kernel_rfl) (by kernel_rfl) (fun _ _ _ h => h) hCx6 ⟨.inl ⟨by kernel_rfl, fun W' hW' => ?y16s⟩, fun _ => rfl⟩ ?_
  case y16s => (obtain ⟨q0, q1, q2, q3⟩ := hW'; go_simp; rfl)
  simp only [Act.put, List.setIfInBounds_toArray, List.set_cons_succ, List.set_cons_zero]
  refine anyC_take (i := 17) ?v17s rfl rfl (by kernel_rfl) (by kernel_rfl) (by kernel_rfl) (fun _ _ _ h => h) hCx6 ⟨.inl ⟨by kernel_rfl, fun W' hW' => ?y17s⟩, fun _ => rfl⟩ ?_
  case y17s => (obtain ⟨q0, q1, q2, q3⟩ := hW'; go_simp; rfl)
  simp only [Act.put, List.setIfInBounds_toArray, List.set_cons_succ, List.set_cons_zero]
  refine anyC_onlyW (i := 18) (by kernel_rfl) rfl (by kernel_rfl) (fun K' hK' => ?_)
  go_simp
  refine ⟨trivial, rfl, (callsIn_wide.2 (step_any 2 3 3 1 _)).mono ?_⟩
  rintro e x7 ⟨rfl, hXx7⟩
  have hBx7 : Below w9.heap.size w9 x7 := below_then hBx6 hXx7
  have hCx7 : (fun W' : World => W'.cell? ⟨bc, oc, none⟩ = some (.int .i64 2) ∧ W'.cell? ⟨bc, oc + 1, none⟩ = some (.int .i64 4) ∧ W'.cell? ⟨bc, oc + 2, none⟩ = some (.int .i64 3) ∧ W'.cell? ⟨bc, oc + 3, none⟩ = some (.int .i64 1)) x7 := hCC _ hBx7
  refine hK' _ _ ⟨hCx7, ?_⟩
  clear hK' K'
  refine anyC_onlyW (i := 19) (by kernel_rfl) rfl (by kernel_rfl) (fun K' hK' => ?_)
  go_simp
  refine ⟨trivial, rfl, (callsIn_wide.2 (step_any 2 4 7 1 _)).mono ?_⟩
  rintro e x8 ⟨rfl, hXx8⟩
  have hBx8 : Below w9.heap.size w9 x8 := below_then hBx7 hXx8
  have hCx8 : (fun W' : World => W'.cell? ⟨bc, oc, none⟩ = some (.int .i64 2) ∧ W'.cell? ⟨bc, oc + 1, none⟩ = some (.int .i64 4) ∧ W'.cell? ⟨bc, oc + 2, none⟩ = some (.int .i64 3) ∧ W'.cell? ⟨bc, oc + 3, none⟩ = some (.int .i64 1)) x8 := hCC _ hBx8
  refine hK' _ _ ⟨hCx8, ?_⟩
  clear hK' K'
  refine anyC_onlyW (i := 20) (by kernel_rfl) rfl (by kernel_rfl) (fun K' hK' => ?_)
  go_simp
  obtain ⟨x9, hx9⟩ : ∃ x9, x8.alloc (.cells #[.int .i64 2, .int .i64 3, .int .i64 3, .int .i64 1, .int .i64 2, .int .i64 4, .int .i64 7, .int .i64 1] 35) = x9 := ⟨_, rfl⟩
  have hBx9 : Below w9.heap.size w9 x9 := by rw [← hx9]; exact below_alloc hBx8 _
  have hbkx9 : x9.heap[x8.heap.size]? = some (.cells #[.int .i64 2, .int .i64 3, .int .i64 3, .int .i64 1, .int .i64 2, .int .i64 4, .int .i64 7, .int .i64 1] 35 (0, 0)) := by rw [← hx9]; exact World.alloc_heap_new _ _
  have hCx9 : (fun W' : World => W'.cell? ⟨bc, oc, none⟩ = some (.int .i64 2) ∧ W'.cell? ⟨bc, oc + 1, none⟩ = some (.int .i64 4) ∧ W'.cell? ⟨bc, oc + 2, none⟩ = some (.int .i64 3) ∧ W'.cell? ⟨bc, oc + 3, none⟩ = some (.int .i64 1)) x9 := hCC _ hBx9
  rw [hx9]
  refine hK' _ _ ⟨hCx9, ?_⟩
  clear hK' K' hx9
  have hstxa : StepC x9 (some ⟨x8.heap.size, 0, none⟩) [⟨2, 3, 3, 1⟩, ⟨2, 4, 7, 1⟩] := by
    intro j hj
    have hj2 : j = 0 ∨ j = 1 := by simp at hj; omega
    rcases hj2 with rfl | rfl
    all_goals exact ⟨_, _, rfl, by simp [World.cell?, hbkx9], by simp [World.cell?, hbkx9], by simp [World.cell?, hbkx9], by simp [World.cell?, hbkx9]⟩
  refine anyC_onlyW (i := 21) (by kernel_rfl) rfl (by kernel_rfl) (fun K' hK' => ?_)
  go_simp
  refine ⟨trivial, rfl, (callsIn_wide.2 (sameSteps_any [⟨2, 3, 3, 1⟩, ⟨2, 4, 7, 1⟩] [⟨2, 3, 3, 1⟩, ⟨2, 4, 7, 1⟩] Ah _ kh 2 _ (by decide) (HH9.out.below hBx9) hstxa)).mono ?_⟩
  rintro e xa ⟨rfl, hXxa⟩
  rw [show decide (([⟨2, 3, 3, 1⟩, ⟨2, 4, 7, 1⟩] : List Step) = [⟨2, 3, 3, 1⟩, ⟨2, 4, 7, 1⟩]) = true by decide]
  have hBxa : Below w9.heap.size w9 xa := below_then hBx9 hXxa
  have hCxa : (fun W' : World => W'.cell? ⟨bc, oc, none⟩ = some (.int .i64 2) ∧ W'.cell? ⟨bc, oc + 1, none⟩ = some (.int .i64 4) ∧ W'.cell? ⟨bc, oc + 2, none⟩ = some (.int .i64 3) ∧ W'.cell? ⟨bc, oc + 3, none⟩ = some (.int .i64 1)) xa := hCC _ hBxa
  refine hK' _ _ ⟨hCxa, ?_⟩
  clear hK' K'
  refine anyC_take (i := 22) ?v22s rfl rfl (by kernel_rfl) (by kernel_rfl) (by kernel_rfl) (fun _ _ _ h => h) hCxa ⟨.inl ⟨by kernel_rfl, fun W' hW' => ?y22s⟩, fun _ => rfl⟩ ?_
  case y22s => (obtain ⟨q0, q1, q2, q3⟩ := hW'; go_simp; rfl)
  simp only [Act.put, List.setIfInBounds_toArray, List.set_cons_succ, List.set_cons_zero]
  refine anyC_take (i := 23) ?v23s rfl rfl (by kernel_rfl) (by kernel_rfl) (by kernel_rfl) (fun _ _ _ h => h) hCxa ⟨.inl ⟨by kernel_rfl, fun W' hW' => ?y23s⟩, fun _ => rfl⟩ ?_
  case y23s => (obtain ⟨q0, q1, q2, q3⟩ := hW'; go_simp; rfl)
  simp only [Act.put, List.setIfInBounds_toArray, List.set_cons_succ, List.set_cons_zero]
  refine anyC_take (i := 24) ?v24s rfl rfl (by kernel_rfl) (by kernel_rfl) (by kernel_rfl) (fun _ _ _ h => h) hCxa ⟨.inl ⟨by kernel_rfl, fun W' hW' => ?y24s⟩, fun _ => rfl⟩ ?_
  case y24s => (obtain ⟨q0, q1, q2, q3⟩ := hW'; go_simp; rfl)
  simp only [Act.put, List.setIfInBounds_toArray, List.set_cons_succ, List.set_cons_zero]
  refine anyC_take (i := 25) ?v25s rfl rfl (by kernel_rfl) (by kernel_rfl) (by kernel_rfl) (fun _ _ _ h => h) hCxa ⟨.inl ⟨by kernel_rfl, fun W' hW' => ?y25s⟩, fun _ => rfl⟩ ?_
  case y25s => (obtain ⟨q0, q1, q2, q3⟩ := hW'; go_simp; rfl)
  simp only [Act.put, List.setIfInBounds_toArray, List.set_cons_succ, List.set_cons_zero]
  refine anyC_take (i := 26) ?v26s rfl rfl (by kernel_rfl) (by kernel_rfl) (by kernel_rfl) (fun _ _ _ h => h) hCxa ⟨.inl ⟨by kernel_rfl, fun W' hW' => ?y26s⟩, fun _ => rfl⟩ ?_
  case y26s => (obtain ⟨q0, q1, q2, q3⟩ := hW'; go_simp; rfl)
  simp only [Act.put, List.setIfInBounds_toArray, List.set_cons_succ, List.set_cons_zero]
  refine anyC_take (i := 27) ?v27s rfl rfl (by kernel_rfl) (by kernel_rfl) (by kernel_rfl) (fun _ _ _ h => h) hCxa ⟨.inl ⟨by kernel_rfl, fun W' hW' => ?y27s⟩, fun _ => rfl⟩ ?_
  case y27s => (obtain ⟨q0, q1, q2, q3⟩ := hW'; go_simp; rfl)
  simp only [Act.put, List.setIfInBounds_toArray, List.set_cons_succ, List.set_cons_zero]
  refine anyC_take (i := 28) ?v28s rfl rfl (by kernel_rfl) (by kernel_rfl) (by kernel_rfl) (fun _ _ _ h => h) hCxa ⟨.inl ⟨by kernel_rfl, fun W' hW' => ?y28s⟩, fun _ => rfl⟩ ?_
  case y28s => (obtain ⟨q0, q1, q2, q3⟩ := hW'; go_simp; rfl)
  simp only [Act.put, List.setIfInBounds_toArray, List.set_cons_succ, List.set_cons_zero]
  refine anyC_take (i := 29) ?v29s rfl rfl (by kernel_rfl) (by kernel_rfl) (by kernel_rfl) (fun _ _ _ h => h) hCxa ⟨.inl ⟨by kernel_rfl, fun W' hW' => ?y29s⟩, fun _ => rfl⟩ ?_
  case y29s => (obtain ⟨q0, q1, q2, q3⟩ := hW'; go_simp; rfl)
  simp only [Act.put, List.setIfInBounds_toArray, List.set_cons_succ, List.set_cons_zero]
  refine anyC_take (i := 30) ?v30s rfl rfl (by kernel_rfl) (by kernel_rfl) (by kernel_rfl) (fun _ _ _ h => h) hCxa ⟨.inl ⟨by kernel_rfl, fun W' hW' => ?y30s⟩, fun _ => rfl⟩ ?_
  case y30s => (obtain ⟨q0, q1, q2, q3⟩ := hW'; go_simp; rfl)
  simp only [Act.put, List.setIfInBounds_toArray, List.set_cons_succ, List.set_cons_zero]
  refine anyC_take (i := 31) ?v31s rfl rfl (by kernel_rfl) (by kernel_rfl) (by kernel_rfl) (fun _ _ _ h => h) hCxa ⟨.inl ⟨by kernel_rfl, fun W' hW' => ?y31s⟩, fun _ => rfl⟩ ?_
  case y31s => (obtain ⟨q0, q1, q2, q3⟩ := hW'; go_simp; rfl)
  simp only [Act.put, List.setIfInBounds_toArray, List.set_cons_succ, List.set_cons_zero]
  refine anyC_onlyW (i := 32) (by kernel_rfl) rfl (by kernel_rfl) (fun K' hK' => ?_)
  go_simp
  refine ⟨trivial, rfl, (callsIn_wide.2 (step_any 2 4 3 1 _)).mono ?_⟩
  rintro e xb ⟨rfl, hXxb⟩
  have hBxb : Below w9.heap.size w9 xb := below_then hBxa hXxb
  have hCxb : (fun W' : World => W'.cell? ⟨bc, oc, none⟩ = some (.int .i64 2) ∧ W'.cell? ⟨bc, oc + 1, none⟩ = some (.int .i64 4) ∧ W'.cell? ⟨bc, oc + 2, none⟩ = some (.int .i64 3) ∧ W'.cell? ⟨bc, oc + 3, none⟩ = some (.int .i64 1)) xb := hCC _ hBxb
  refine hK' _ _ ⟨hCxb, ?_⟩
  clear hK' K'
  refine anyC_take (i := 33) ?v33s rfl rfl (by kernel_rfl) (by kernel_rfl) (by kernel_rfl) (fun _ _ _ h => h) hCxb ⟨.inl ⟨by kernel_rfl, fun W' hW' => ?y33s⟩, fun _ => rfl⟩ ?_
  case y33s => (obtain ⟨q0, q1, q2, q3⟩ := hW'; go_simp; rfl)
  simp only [Act.put, List.setIfInBounds_toArray, List.set_cons_succ, List.set_cons_zero]
  refine anyC_take (i := 34) ?v34s rfl rfl (by kernel_rfl) (by kernel_rfl) (by kernel_rfl) (fun _ _ _ h => h) hCxb ⟨.inl ⟨by kernel_rfl, fun W' hW' => ?y34s⟩, fun _ => rfl⟩ ?_
  case y34s => (obtain ⟨q0, q1, q2, q3⟩ := hW'; go_simp; rfl)
  simp only [Act.put, List.setIfInBounds_toArray, List.set_cons_succ, List.set_cons_zero]
  refine anyC_take (i := 35) ?v35s rfl rfl (by kernel_rfl) (by kernel_rfl) (by kernel_rfl) (fun _ _ _ h => h) hCxb ⟨.inl ⟨by kernel_rfl, fun W' hW' => ?y35s⟩, fun _ => rfl⟩ ?_
  case y35s => (obtain ⟨q0, q1, q2, q3⟩ := hW'; go_simp; rfl)
  simp only [Act.put, List.setIfInBounds_toArray, List.set_cons_succ, List.set_cons_zero]
  refine anyC_done (by kernel_rfl) ?_
  go_wp2_with fail
  go_ret
  exact ⟨rfl, below_then hBw9 hBxb⟩
end Go.Proofs.Yteipclnlfanfeaa

/- law: Same. -/
namespace Go.Proofs.Yteipclnlfanfeaa
open Go.RowKit

theorem eq54 (a b c d : Int) (w : World) : (binOp .neq 54 (.agg #[.int .i64 a, .int .i64 b]) (.agg #[.int .i64 c, .int .i64 d])).run Try.prog w = .ok (.bool (!(a == c && b == d))) w := by
  have u3 := Try.underlying3
  have hS : Try.prog.underlying 54 = some (.struct (Try.prog.fieldsOf 54)) := by kernel_rfl
  have hp : Try.prog.stoodInHeld 54 = false := by kernel_rfl
  rw [run_neq_struct, show (10000 : Nat) = 9999 + 1 from rfl, run_equalIn_agg w 9999 54 _ _ hS hp]
  simp only [Program.fieldsOf, Try.underlying54]
  go_simp
  by_cases h1 : a = c <;> by_cases h2 : b = d <;> simp [h1, h2]
theorem eq52 (a b c d : Int) (w : World) : (binOp .neq 52 (.agg #[.int .i64 a, .int .i64 b]) (.agg #[.int .i64 c, .int .i64 d])).run Try.prog w = .ok (.bool (!(a == c && b == d))) w := by
  have u3 := Try.underlying3
  have hS : Try.prog.underlying 52 = some (.struct (Try.prog.fieldsOf 52)) := by kernel_rfl
  have hp : Try.prog.stoodInHeld 52 = false := by kernel_rfl
  rw [run_neq_struct, show (10000 : Nat) = 9999 + 1 from rfl, run_equalIn_agg w 9999 52 _ _ hS hp]
  simp only [Program.fieldsOf, Try.underlying52]
  go_simp
  by_cases h1 : a = c <;> by_cases h2 : b = d <;> simp [h1, h2]

theorem drewN_two (w : World) (a b : Nat) : (w.drewN a).drewN b = w.drewN (a + b) := by simp

set_option maxRecDepth 100000 in
set_option maxHeartbeats 1000000 in
theorem refSameE_q (l l2 : List Ext) (A A2 : Option Addr) (c c2 : Nat) (w : World) (hlen : l.length ≤ 1099511627776) (hl : ExtC w A l) (hl2 : ExtC w A2 l2) :
    Calls Try.prog 33 #[.slice A l.length c, .slice A2 l2.length c2] w fun e w' => e = .returned (.bool (decide (l = l2))) ∧ ∃ n, w' = w.drewN n := by
  by_cases hn : l.length = l2.length
  rotate_left
  · have hd : ((l.length : Int) != (l2.length : Int)) = true := by simp; omega
    have Hn := Lib.hid hn
    clear hn
    go_enter Try.func33, Try.ntmps33
    go_wp2_with fail
    go_ret
    have : ¬ l = l2 := fun e => Hn.out (by rw [e])
    exact ⟨by simp [this], 0, rfl⟩
  have hd : ((l.length : Int) != (l2.length : Int)) = false := by simp; omega
  have Hn := Lib.hid hn
  clear hn
  go_enter Try.func33, Try.ntmps33
  go_wp2_with fail
  go_loopw [5] (fun i wr => ∃ k : Nat, k ≤ l.length ∧ i = .int .i64 k ∧ Hid (l.take k = l2.take k) ∧ ∃ n, wr = w.drewN n) (fun i _ => l.length - (intOf i).toNat)
  case atStart => exact ⟨0, by omega, by simp, Lib.hid (by simp), 0, rfl⟩
  case round =>
    obtain ⟨k, hk, rfl, Hno, n, rfl⟩ := hrel
    by_cases hlt : k < l.length
    · have hlt2 : k < l2.length := by have := Hn.out; omega
      obtain ⟨b, o, rfl, h0, h1⟩ := hl k hlt
      obtain ⟨b', o', rfl, g0, g1⟩ := hl2 k hlt2
      have hq := eq54 l[k].page l[k].many l2[k].page l2[k].many
      by_cases he : l[k] = l2[k]
      · have hdd : (!(l[k].page == l2[k].page && l[k].many == l2[k].many)) = false := by simp [he]
        rw [hdd] at hq
        have He := Lib.hid he; clear he hdd
        go_wp2_with fail
        go_quiet (fail)
        go_wp2_with fail
        refine ⟨⟨k + 1, by omega, by simp, Lib.hid ?_, n + nq, ?_⟩, by simp [intOf]; omega⟩
        · rw [take_succ_snoc hlt, take_succ_snoc hlt2, Hno.out, He.out]
        · first | rfl | trivial | exact drewN_two _ _ _
      · have hdd : (!(l[k].page == l2[k].page && l[k].many == l2[k].many)) = true := by
          cases hb : (l[k].page == l2[k].page && l[k].many == l2[k].many) with
          | false => rfl
          | true =>
            simp only [Bool.and_eq_true, beq_iff_eq] at hb
            refine absurd ?_ he
            cases h1 : l[k]; cases h2 : l2[k]
            simp only [h1, h2] at hb
            rw [hb.1, hb.2]
        rw [hdd] at hq
        have He := Lib.hid he; clear he hdd
        go_wp2_with fail
        go_quiet (fail)
        go_wp2_with fail
        go_ret
        refine ⟨?_, n + nq, ?_⟩
        · have : ¬ l = l2 := fun e => He.out (by subst e; rfl)
          simp [this]
        · first | rfl | trivial | exact drewN_two _ _ _
    · obtain rfl : k = l.length := by omega
      go_wp2_with fail
      go_ret
      refine ⟨?_, n, rfl⟩
      have : l = l2 := by have := Hno.out; have hn := Hn.out; rw [List.take_length] at this; rw [this, hn, List.take_length]
      simp [this]

set_option maxRecDepth 100000 in
set_option maxHeartbeats 1000000 in
theorem refSameR_q (l l2 : List Run) (A A2 : Option Addr) (c c2 : Nat) (w : World) (hlen : l.length ≤ 1099511627776) (hl : RunsC w A l) (hl2 : RunsC w A2 l2) :
    Calls Try.prog 39 #[.slice A l.length c, .slice A2 l2.length c2] w fun e w' => e = .returned (.bool (decide (l = l2))) ∧ ∃ n, w' = w.drewN n := by
  by_cases hn : l.length = l2.length
  rotate_left
  · have hd : ((l.length : Int) != (l2.length : Int)) = true := by simp; omega
    have Hn := Lib.hid hn
    clear hn
    go_enter Try.func39, Try.ntmps39
    go_wp2_with fail
    go_ret
    have : ¬ l = l2 := fun e => Hn.out (by rw [e])
    exact ⟨by simp [this], 0, rfl⟩
  have hd : ((l.length : Int) != (l2.length : Int)) = false := by simp; omega
  have Hn := Lib.hid hn
  clear hn
  go_enter Try.func39, Try.ntmps39
  go_wp2_with fail
  go_loopw [5] (fun i wr => ∃ k : Nat, k ≤ l.length ∧ i = .int .i64 k ∧ Hid (l.take k = l2.take k) ∧ ∃ n, wr = w.drewN n) (fun i _ => l.length - (intOf i).toNat)
  case atStart => exact ⟨0, by omega, by simp, Lib.hid (by simp), 0, rfl⟩
  case round =>
    obtain ⟨k, hk, rfl, Hno, n, rfl⟩ := hrel
    by_cases hlt : k < l.length
    · have hlt2 : k < l2.length := by have := Hn.out; omega
      obtain ⟨b, o, rfl, h0, h1⟩ := hl k hlt
      obtain ⟨b', o', rfl, g0, g1⟩ := hl2 k hlt2
      have hq := eq52 l[k].to l[k].many l2[k].to l2[k].many
      by_cases he : l[k] = l2[k]
      · have hdd : (!(l[k].to == l2[k].to && l[k].many == l2[k].many)) = false := by simp [he]
        rw [hdd] at hq
        have He := Lib.hid he; clear he hdd
        go_wp2_with fail
        go_quiet (fail)
        go_wp2_with fail
        refine ⟨⟨k + 1, by omega, by simp, Lib.hid ?_, n + nq, ?_⟩, by simp [intOf]; omega⟩
        · rw [take_succ_snoc hlt, take_succ_snoc hlt2, Hno.out, He.out]
        · first | rfl | trivial | exact drewN_two _ _ _
      · have hdd : (!(l[k].to == l2[k].to && l[k].many == l2[k].many)) = true := by
          cases hb : (l[k].to == l2[k].to && l[k].many == l2[k].many) with
          | false => rfl
          | true =>
            simp only [Bool.and_eq_true, beq_iff_eq] at hb
            refine absurd ?_ he
            cases h1 : l[k]; cases h2 : l2[k]
            simp only [h1, h2] at hb
            rw [hb.1, hb.2]
        rw [hdd] at hq
        have He := Lib.hid he; clear he hdd
        go_wp2_with fail
        go_quiet (fail)
        go_wp2_with fail
        go_ret
        refine ⟨?_, n + nq, ?_⟩
        · have : ¬ l = l2 := fun e => He.out (by subst e; rfl)
          simp [this]
        · first | rfl | trivial | exact drewN_two _ _ _
    · obtain rfl : k = l.length := by omega
      go_wp2_with fail
      go_ret
      refine ⟨?_, n, rfl⟩
      have : l = l2 := by have := Hno.out; have hn := Hn.out; rw [List.take_length] at this; rw [this, hn, List.take_length]
      simp [this]

theorem refSameE_any (l l2 : List Ext) (A A2 : Option Addr) (c c2 : Nat) (w : World) (hlen : l.length ≤ 1099511627776) (hl : ExtC w A l) (hl2 : ExtC w A2 l2) :
    Calls Try.prog 33 #[.slice A l.length c, .slice A2 l2.length c2] w fun e w' => e = .returned (.bool (decide (l = l2))) ∧ Below w.heap.size w w' :=
  (refSameE_q l l2 A A2 c c2 w hlen hl hl2).mono fun _ _ ⟨h, n, hn⟩ => ⟨h, by rw [hn]; exact below_dr (Below.refl _ _) _⟩

section
attribute [local go_sem] undef
set_option maxRecDepth 100000 in
set_option maxHeartbeats 4000000 in
theorem refSame_pic (p q : Pic) (v u : Value) (w : World) (hp : PicC w v p) (hq : PicC w u q) (hn : PicOk p) :
    Calls Try.prog 12 #[v, u] w fun e w' => e = .returned (.bool (decide (p = q))) ∧ Below w.heap.size w w' := by
  obtain ⟨Ax, cx, Fa, cf, rfl, hx, hf⟩ := hp
  obtain ⟨Ax2, cx2, Fa2, cf2, rfl, hx2, hf2⟩ := hq
  have hB := below_alloc (below_alloc (Below.refl _ w) (.cells #[.int .i64 p.size, .slice Ax p.fixed.length cx, .slice Fa p.files.length cf] 25)) (.cells #[.int .i64 q.size, .slice Ax2 q.fixed.length cx2, .slice Fa2 q.files.length cf2] 25)
  have hbx := heap_alloc_old' (World.alloc_heap_new w (.cells #[.int .i64 p.size, .slice Ax p.fixed.length cx, .slice Fa p.files.length cf] 25)) (.cells #[.int .i64 q.size, .slice Ax2 q.fixed.length cx2, .slice Fa2 q.files.length cf2] 25)
  have hby := heap_new (w.alloc (.cells #[.int .i64 p.size, .slice Ax p.fixed.length cx, .slice Fa p.files.length cf] 25)) (.cells #[.int .i64 q.size, .slice Ax2 q.fixed.length cx2, .slice Fa2 q.files.length cf2] 25) (n := w.heap.size + 1) (by simp)
  have h1 := hx.below hB
  have h2 := hx2.below hB
  have h3 := hf.below hB
  have h4 := hf2.below hB
  obtain ⟨n1, n2, n3⟩ := hn
  have Hd := Lib.hid (pic_eq p q)
  have Hbx := Lib.hid hbx; have Hby := Lib.hid hby; have N3 := Lib.hid n3
  clear hbx hby n3
  have hno : ∀ (h : ¬ p = q), Ending.returned (.bool false) = Ending.returned (.bool (decide (p = q))) := fun h => by simp [h]
  have Hno := Lib.hid hno
  clear hno
  by_cases hs : p.size = q.size
  rotate_left
  · have d1 : (p.size != q.size) = true := by simpa using hs
    have Hs := Lib.hid hs
    clear hs
    go_enter Try.func12, Try.ntmps12
    go_wp2_with fail
    go_ret
    exact ⟨Hno.out (fun e => Hs.out (Hd.out.1 e).1), hB⟩
  have d1 : (p.size != q.size) = false := by simpa using hs
  have Hs := Lib.hid hs
  clear hs
  go_enter Try.func12, Try.ntmps12
  go_wp2_with fail
  refine (refSameE_any _ _ _ _ _ _ _ n1 h1 h2).mono ?_
  rintro e w1 ⟨rfl, hB1⟩
  have hBw := below_then hB hB1
  have bx := block_below Hbx.out hB1
  have bz := block_below Hby.out hB1
  have q1 := cell_at bx 2; have q2 := cell_at bz 2
  simp only [List.getElem?_toArray, List.getElem?_cons_zero, List.getElem?_cons_succ] at q1 q2
  have hf3 := h3.below hB1
  have hf4 := h4.below hB1
  clear bx bz
  by_cases hfx : p.fixed = q.fixed
  rotate_left
  · have d3 : decide (p.fixed = q.fixed) = false := by simpa using hfx
    rw [d3]
    have Hf := Lib.hid hfx
    clear hfx d3
    go_wp2_with fail
    go_ret
    exact ⟨Hno.out (fun e => Hf.out (Hd.out.1 e).2.1), hBw⟩
  have d3 : decide (p.fixed = q.fixed) = true := by simpa using hfx
  rw [d3]
  have Hf := Lib.hid hfx
  clear hfx d3
  by_cases hl : p.files.length = q.files.length
  rotate_left
  · have d4 : ((p.files.length : Int) != (q.files.length : Int)) = true := by simp; omega
    have Hl := Lib.hid hl
    clear hl
    go_wp2_with fail
    go_ret
    exact ⟨Hno.out (fun e => Hl.out (by rw [(Hd.out.1 e).2.2])), hBw⟩
  have d4 : ((p.files.length : Int) != (q.files.length : Int)) = false := by simp; omega
  have Hl := Lib.hid hl
  clear hl
  go_wp2_with fail
  obtain ⟨nb, hnb⟩ : ∃ nb, w.heap.size = nb := ⟨_, rfl⟩
  have Hnb := Lib.hid hnb
  rw [hnb] at q1 q2 ⊢
  clear hnb
  go_loopw [5] (fun i wr => ∃ k : Nat, k ≤ p.files.length ∧ i = .int .i64 k ∧ Hid (p.files.take k = q.files.take k) ∧ Below w1.heap.size w1 wr) (fun i _ => p.files.length - (intOf i).toNat)
  case atStart => exact ⟨0, by omega, by simp, Lib.hid (by simp), Below.refl _ _⟩
  case round =>
    obtain ⟨k, hk, rfl, HT, hBr⟩ := hrel
    have hBe := below_then hBw hBr
    have q1' := cell_below q1 hBr
    have q2' := cell_below q2 hBr
    clear q1 q2
    by_cases hlt : k < p.files.length
    rotate_left
    · obtain rfl : k = p.files.length := by omega
      go_wp2_with fail
      go_ret
      have he : p.files = q.files := by have h := HT.out; have hl := Hl.out; rw [List.take_length] at h; rw [h, hl, List.take_length]
      exact ⟨by rw [show decide (p = q) = true by simp [Hd.out, Hs.out, Hf.out, he]]; rfl, by rw [Hnb.out] at hBe; rw [Hnb.out]; exact hBe⟩
    have hlt2 : k < q.files.length := by have := Hl.out; omega
    obtain ⟨b, o, A', c', rfl, g0, g1, g2⟩ := (hf3.below hBr) k hlt
    obtain ⟨b2, o2, A2', c2', rfl, j0, j1, j2⟩ := (hf4.below hBr) k hlt2
    have hrl := N3.out _ (List.getElem_mem hlt)
    by_cases hn : p.files[k].no = q.files[k].no
    rotate_left
    · have d5 : (p.files[k].no != q.files[k].no) = true := by simpa using hn
      have Hn := Lib.hid hn
      clear hn
      go_wp2_with fail
      go_quiet (fail)
      go_wp2_with fail
      go_ret
      exact ⟨Hno.out (fun e => Hn.out (by have := (Hd.out.1 e).2.2; simp only [this])), by rw [Hnb.out] at hBe; rw [Hnb.out]; exact hBe.trans (Below.drewN' _ _ _)⟩
    have d5 : (p.files[k].no != q.files[k].no) = false := by simpa using hn
    have Hn := Lib.hid hn
    clear hn
    have g2' : ∀ m, RunsC (wr.drewN m) A' p.files[k].runs := fun m => g2
    have j2' : ∀ m, RunsC (wr.drewN m) A2' q.files[k].runs := fun m => j2
    by_cases hr : p.files[k].runs = q.files[k].runs
    · have hdd : decide (p.files[k].runs = q.files[k].runs) = true := by simpa using hr
      have hcon : ∀ m, Calls Try.prog 39 #[.slice A' p.files[k].runs.length c', .slice A2' q.files[k].runs.length c2'] (wr.drewN m) fun e w' => e = .returned (.bool true) ∧ ∃ n, w' = (wr.drewN m).drewN n := fun m => by
        have := refSameR_q p.files[k].runs q.files[k].runs A' A2' c' c2' (wr.drewN m) hrl (g2' m) (j2' m)
        rw [hdd] at this; exact this
      have Hr := Lib.hid hr
      have Hcon := Lib.hid hcon
      clear hr hdd hcon g2' j2'
      go_wp2_with fail
      go_quiet ((go_at_call 39; exact Calls.quiet_of (Hcon.out _)))
      go_wp2_with fail
      refine ⟨⟨k + 1, by omega, by simp, Lib.hid ?_, below_dr hBr _⟩, by simp [intOf]; omega⟩
      rw [take_succ_snoc hlt, take_succ_snoc hlt2, HT.out, (fil_eq p.files[k] q.files[k]).2 ⟨Hn.out, Hr.out⟩]
    · have hdd : decide (p.files[k].runs = q.files[k].runs) = false := by simpa using hr
      have hcon : ∀ m, Calls Try.prog 39 #[.slice A' p.files[k].runs.length c', .slice A2' q.files[k].runs.length c2'] (wr.drewN m) fun e w' => e = .returned (.bool false) ∧ ∃ n, w' = (wr.drewN m).drewN n := fun m => by
        have := refSameR_q p.files[k].runs q.files[k].runs A' A2' c' c2' (wr.drewN m) hrl (g2' m) (j2' m)
        rw [hdd] at this; exact this
      have Hr := Lib.hid hr
      have Hcon := Lib.hid hcon
      clear hr hdd hcon g2' j2'
      go_wp2_with fail
      go_quiet ((go_at_call 39; exact Calls.quiet_of (Hcon.out _)))
      go_wp2_with fail
      go_ret
      exact ⟨Hno.out (fun e => Hr.out (by have := (Hd.out.1 e).2.2; simp only [this])), by rw [Hnb.out] at hBe; rw [Hnb.out]; exact hBe.trans (Below.drewN' _ _ _)⟩
end

end Go.Proofs.Yteipclnlfanfeaa

/- MoveUndone's plain law: a step is undone; two steps may be made in either order; no code here. -/
namespace Go.Proofs.Yteipclnlfanfeaa

theorem applyL_steps_irrel {p : Pic} {tk : List Bool} {st st' : List Step} {x : Step} {s1 : Spc} (h : applyL ⟨p, tk, st⟩ x = .ok s1) : applyL ⟨p, tk, st'⟩ x = .ok ⟨s1.pic, s1.tk, st' ++ [x]⟩ := by
  obtain ⟨f, m, t, h1, h2, h3, h4, h5, h6, h7, h8, h9, h10, h11, h12, h13, h14⟩ := applyL_ok h
  unfold applyL
  dsimp only at *
  rw [if_neg (by omega), if_neg (by omega)]
  rw [show mapL (runsOf p.files (fileI p.files x.no).toNat) x.from_ = some (f, m) from h4]
  dsimp only
  rw [if_neg (fun h => h ⟨h5, h6⟩), if_neg (fun h => h ⟨h7, h8⟩), if_neg (by rw [h9]; decide), if_neg (fun h => h h10), h11]
  dsimp only
  rw [h12]
  rw [h13]

theorem runP_open {p : Pic} {s : Spc} (h : openL p = some s) (x : Step) : runP p [x] = match applyL s x with
    | .ok s' => (s'.pic, 0)
    | .error e => (picZ, e) := by
  simp only [runP, h, applyAll]
  rw [if_pos (by simp)]
  cases applyL s x <;> rfl

/-- what a step that is made is known by -/
structure Made (s : Spc) (x : Step) (s1 : Spc) (k : Nat) (f m : Int) : Prop where
  inv : Inv s
  inv1 : Inv s1
  app : applyL s x = .ok s1
  kl : k < s.pic.files.length
  ix : fileI s.pic.files x.no = k
  kno : ∃ h : k < s.pic.files.length, s.pic.files[k].no = x.no
  many : 1 ≤ x.many
  from_ : 0 ≤ x.from_
  map : mapL (runsOf s.pic.files k) x.from_ = some (f, m)
  hole : f ≠ -1
  le : x.many ≤ m
  to3 : 3 ≤ x.to
  toz : x.to ≤ s.pic.size - x.many
  pic : s1.pic = ⟨s.pic.size, s.pic.fixed, setRuns s.pic.files k (putX (runsOf s.pic.files k) x.from_ [⟨x.to, x.many⟩])⟩
  pages : ∀ q, q ∈ pg s1.pic ↔ q ∈ rng x.to x.many ∨ (q ∈ pg s.pic ∧ q ∉ rng f x.many)
  old : ∀ q ∈ rng f x.many, q ∈ pg s.pic
  new : ∀ q ∈ rng x.to x.many, q ∉ pg s.pic
  strR : strm (runsOf s.pic.files k) = (strm (runsOf s.pic.files k)).take x.from_.toNat ++ (rng f x.many ++ (strm (runsOf s.pic.files k)).drop (x.from_ + x.many).toNat)
  strX : strm (putX (runsOf s.pic.files k) x.from_ [⟨x.to, x.many⟩]) = (strm (runsOf s.pic.files k)).take x.from_.toNat ++ (rng x.to x.many ++ (strm (runsOf s.pic.files k)).drop (x.from_ + x.many).toNat)

theorem made {s s1 : Spc} {x : Step} (hi : Inv s) (h : applyL s x = .ok s1) : ∃ k f m, Made s x s1 k f m := by
  obtain ⟨f, m, t, h1, h2, h3, h4, h5, h6, h7, h8, h9, _⟩ := applyL_ok h
  obtain ⟨s', e1, e2, e3, e4, e5, e6, e7, e8⟩ := apply_full hi h1 h2 h3 h4 h5 h6 h7 h8 h9
  rw [h] at e1; cases e1
  rcases fileI_spec s.pic.files x.no with ⟨hn, _⟩ | ⟨k, hk, hk1, hk2, _⟩
  · omega
  have hkn : (fileI s.pic.files x.no).toNat = k := by omega
  simp only [stR, stX, hkn] at h4 e3 e7 e8
  exact ⟨k, f, m, hi, e2, h, hk, hk1, ⟨hk, hk2⟩, h2, h3, h4, h5, h6, h7, h8, e3, e4, e5, e6, e7, e8⟩

/-- a step can be made -/
theorem make {s : Spc} {x : Step} {k : Nat} {f m : Int} (hi : Inv s) (hk : k < s.pic.files.length) (hno : s.pic.files[k].no = x.no) (h2 : 1 ≤ x.many) (h3 : 0 ≤ x.from_) (h4 : mapL s.pic.files[k].runs x.from_ = some (f, m)) (h5 : f ≠ -1) (h6 : x.many ≤ m) (h7 : 3 ≤ x.to)
    (h8 : x.to ≤ s.pic.size - x.many) (h9 : ∀ q ∈ rng x.to x.many, q ∉ pg s.pic) : ∃ s', applyL s x = .ok s' := by
  have hix : fileI s.pic.files x.no = k := by rw [← hno]; exact fileI_of (filOk_iff.1 hi.ok.fil).1 hk
  have hst : stR s x = s.pic.files[k].runs := by rw [stR, hix, Int.toNat_natCast]; exact (runsOf_mem hk).1
  obtain ⟨a, ha⟩ := Int.eq_ofNat_of_zero_le (show 0 ≤ x.to by omega)
  obtain ⟨b, hb⟩ := Int.eq_ofNat_of_zero_le (show 0 ≤ x.many by omega)
  have hsz := hi.ok.size
  have hfree : freeB s.tk x.to.toNat x.many.toNat = true := by
    rw [ha, hb]
    exact (freeB_iff hi.rep (by omega)).2 (fun q hq => h9 q (by rw [ha, hb]; exact hq))
  obtain ⟨s', e1, _⟩ := apply_good hi (by omega) h2 h3 (by rw [hst]; exact h4) h5 h6 h7 h8 hfree
  exact ⟨s', e1⟩

theorem setRuns_get {l : List Fil} {i : Nat} (h : i < l.length) (r : List Run) : setRuns l i r = l.set i ⟨l[i].no, r⟩ := by
  simp [setRuns, h]
theorem setRuns_set {l : List Fil} {i : Nat} (h : i < l.length) (r r' : List Run) : setRuns (setRuns l i r) i r' = setRuns l i r' := by
  rw [setRuns_get h, setRuns_get h, setRuns_get (by simpa using h)]
  simp
theorem setRuns_self {l : List Fil} {i : Nat} (h : i < l.length) : setRuns l i l[i].runs = l := by
  rw [setRuns_get h]; exact List.set_getElem_self h
theorem setRuns_comm {l : List Fil} {i j : Nat} (hi : i < l.length) (hj : j < l.length) (hne : i ≠ j) (r r' : List Run) : setRuns (setRuns l i r) j r' = setRuns (setRuns l j r') i r := by
  rw [setRuns_get hi, setRuns_get hj, setRuns_get (by simpa using hj), setRuns_get (by simpa using hi)]
  rw [List.getElem_set_ne hne, List.getElem_set_ne (Ne.symm hne), List.set_comm _ _ hne]

theorem Made.ok0 {s s1 : Spc} {x : Step} {k : Nat} {f m : Int} (h : Made s x s1 k f m) : Ok0 (runsOf s.pic.files k) ∧ normL (runsOf s.pic.files k) = runsOf s.pic.files k := by
  obtain ⟨hR, hm⟩ := runsOf_mem h.kl
  obtain ⟨a1, a2, _⟩ := (filOk_iff.1 h.inv.ok.fil).2 _ hm
  rw [hR]; exact ⟨ok0_of_must a1, a2⟩
theorem Made.f0 {s s1 : Spc} {x : Step} {k : Nat} {f m : Int} (h : Made s x s1 k f m) : 0 ≤ f := by
  obtain ⟨_, hm⟩ := mapL_some h.ok0.1 h.from_ h.map
  have : f ∈ strm (runsOf s.pic.files k) := List.mem_of_getElem? hm.at_
  obtain ⟨r, hr, h1 | h1⟩ := of_mem_strm this
  · exact absurd h1.2.1 h.hole
  · have := h.ok0.1 r hr; omega
theorem Made.fbd {s s1 : Spc} {x : Step} {k : Nat} {f m : Int} (h : Made s x s1 k f m) : 3 ≤ f ∧ f + x.many ≤ s.pic.size := by
  obtain ⟨hR, hm⟩ := runsOf_mem h.kl
  obtain ⟨a1, a2, a3⟩ := (filOk_iff.1 h.inv.ok.fil).2 _ hm
  have hin : ∀ q ∈ rng f x.many, q ∈ rpages (runsOf s.pic.files k) := fun q hq => by
    rw [rpages_strm h.ok0.1, List.mem_filter]
    refine ⟨by rw [h.strR]; exact List.mem_append_right _ (List.mem_append_left _ hq), ?_⟩
    have := mem_rng.1 hq
    have hb := h.f0
    simp; omega
  rw [hR] at hin
  have b1 := mem_rpages_bd a3 f (hin f (mem_rng.2 (by have := h.many; omega)))
  have b2 := mem_rpages_bd a3 (f + x.many - 1) (hin _ (mem_rng.2 (by have := h.many; omega)))
  omega

/-- the new runs show the new place -/
theorem Made.mapX {s s1 : Spc} {x : Step} {k : Nat} {f m : Int} (h : Made s x s1 k f m) : ∃ m', mapL (putX (runsOf s.pic.files k) x.from_ [⟨x.to, x.many⟩]) x.from_ = some (x.to, m') ∧ x.many ≤ m' := by
  have hO1 : Ok0 [(⟨x.to, x.many⟩ : Run)] := fun r hr => by rw [List.mem_singleton.1 hr]; have := h.to3; have := h.many; dsimp only; omega
  have hOX := ok0_putX h.ok0.1 hO1 x.from_
  obtain ⟨hlt, hms⟩ := mapL_some h.ok0.1 h.from_ h.map
  have hlR := strm_length (fun r hr => (h.ok0.1 r hr).2)
  have hlX := strm_length (fun r hr => (hOX r hr).2)
  have hf0 := h.from_
  have hm1 := h.many
  have hle := h.le
  have hml := hms.len
  have htk : ((strm (runsOf s.pic.files k)).take x.from_.toNat).length = x.from_.toNat := by rw [List.length_take]; omega
  have hget : ∀ i : Nat, (i : Int) < x.many → (strm (putX (runsOf s.pic.files k) x.from_ [⟨x.to, x.many⟩]))[x.from_.toNat + i]? = some (x.to + i) := by
    intro i hi
    have hrl : (rng x.to x.many).length = x.many.toNat := by simp [rng]
    rw [h.strX, List.getElem?_append_right (by omega), List.getElem?_append_left (by omega), htk]
    unfold rng
    rw [show x.from_.toNat + i - x.from_.toNat = i by omega, List.getElem?_map, List.getElem?_range (by omega)]; rfl
  have h0 := hget 0 (by omega)
  have hltX : x.from_ < pagesL (putX (runsOf s.pic.files k) x.from_ [⟨x.to, x.many⟩]) := by
    have := (List.getElem?_eq_some_iff.1 h0).1
    omega
  obtain ⟨f', m', e1, e2⟩ := mapL_strm hOX hf0 hltX
  have hf' : f' = x.to := by
    have := e2.at_
    rw [show x.from_.toNat = x.from_.toNat + 0 by omega, h0] at this
    have := Option.some.inj this
    omega
  subst hf'
  refine ⟨m', e1, ?_⟩
  rcases Int.lt_or_le m' x.many with hlt' | hle'
  · exfalso
    have hp := e2.pos
    have hg := hget m'.toNat (by omega)
    refine e2.max ?_
    have := h.to3
    rw [hg, if_neg (by omega)]
    congr 1; omega
  · exact hle'

/-- a step is undone by the step back -/
theorem undone {s s1 : Spc} {x : Step} {k : Nat} {f m : Int} (h : Made s x s1 k f m) : ∃ s2, applyL s1 ⟨x.no, x.from_, f, x.many⟩ = .ok s2 ∧ s2.pic = s.pic := by
  have hk1 : k < s1.pic.files.length := by rw [h.pic]; dsimp only; rw [setRuns_length]; exact h.kl
  have hsz1 : s1.pic.size = s.pic.size := by rw [h.pic]
  obtain ⟨_, hkno⟩ := h.kno
  have hg1 : s1.pic.files[k] = ⟨x.no, putX (runsOf s.pic.files k) x.from_ [⟨x.to, x.many⟩]⟩ := by
    have : s1.pic.files = s.pic.files.set k ⟨s.pic.files[k].no, putX (runsOf s.pic.files k) x.from_ [⟨x.to, x.many⟩]⟩ := by rw [h.pic]; exact setRuns_get h.kl _
    simp only [this, List.getElem_set_self, hkno]
  obtain ⟨m', e1, e2⟩ := h.mapX
  have hfb := h.fbd
  have hto := h.to3
  have hfree : ∀ q ∈ rng f x.many, q ∉ pg s1.pic := fun q hq hc => by
    rcases (h.pages q).1 hc with h1 | h1
    · exact h.new q h1 (h.old q hq)
    · exact h1.2 hq
  obtain ⟨s2, hs2⟩ := make (x := ⟨x.no, x.from_, f, x.many⟩) h.inv1 hk1 (by rw [hg1]) h.many h.from_ (by rw [hg1]; exact e1) (by omega) e2 hfb.1 (by rw [hsz1]; dsimp only; omega) hfree
  refine ⟨s2, hs2, ?_⟩
  obtain ⟨k2, f2, m2, h2⟩ := made h.inv1 hs2
  have hkk : k2 = k := by
    have e := h2.ix
    dsimp only at e
    have : fileI s1.pic.files x.no = k := by
      have := fileI_of (filOk_iff.1 h.inv1.ok.fil).1 hk1
      rw [hg1] at this; exact this
    omega
  subst hkk
  have hr1 : runsOf s1.pic.files k2 = putX (runsOf s.pic.files k2) x.from_ [⟨x.to, x.many⟩] := by rw [(runsOf_mem hk1).1, hg1]
  have hp2 := h2.pic
  have hs2 := h2.strX
  dsimp only at hp2 hs2
  rw [hr1] at hp2 hs2
  have hO1 : Ok0 [(⟨x.to, x.many⟩ : Run)] := fun r hr => by rw [List.mem_singleton.1 hr]; have := h.to3; have := h.many; dsimp only; omega
  have hO2 : Ok0 [(⟨f, x.many⟩ : Run)] := fun r hr => by rw [List.mem_singleton.1 hr]; have := h.many; dsimp only; omega
  have hOX := ok0_putX h.ok0.1 hO1 x.from_
  have hback : putX (putX (runsOf s.pic.files k2) x.from_ [⟨x.to, x.many⟩]) x.from_ [⟨f, x.many⟩] = runsOf s.pic.files k2 := by
    refine norm_ext (ok0_putX hOX hO2 _) h.ok0.1 (norm_putX hOX hO2 _) h.ok0.2 ?_
    rw [hs2, h.strX]
    conv => rhs; rw [h.strR]
    obtain ⟨hlt, hms⟩ := mapL_some h.ok0.1 h.from_ h.map
    have hf0 := h.from_
    have hm1 := h.many
    have hle := h.le
    have hml := hms.len
    have hpl := hms.pos
    have htk : ((strm (runsOf s.pic.files k2)).take x.from_.toNat).length = x.from_.toNat := by rw [List.length_take]; omega
    have hrl : (rng x.to x.many).length = x.many.toNat := by simp [rng]
    congr 1
    · rw [List.take_append_of_le_length (by omega), List.take_of_length_le (by omega)]
    · congr 1
      rw [List.drop_append, htk, List.drop_of_length_le (by omega), List.nil_append, List.drop_append, hrl, List.drop_of_length_le (by omega), List.nil_append]
      rw [show (x.from_ + x.many).toNat - x.from_.toNat - x.many.toNat = 0 by omega]; rfl
  rw [hback] at hp2
  rw [hp2, h.pic]
  dsimp only
  rw [setRuns_set h.kl, (runsOf_mem h.kl).1, setRuns_self h.kl]

/-- steps of different files to different pages may be made in either order -/
theorem either {s s1 s2 : Spc} {x y : Step} {k l : Nat} {f m g n : Int} (h : Made s x s1 k f m) (j : Made s y s2 l g n) (hno : x.no ≠ y.no) (hd : ¬ (x.to < y.to + y.many ∧ y.to < x.to + x.many)) :
    ∃ s3 s4, applyL s1 y = .ok s3 ∧ applyL s2 x = .ok s4 ∧ s3.pic = s4.pic := by
  have hkl : k ≠ l := fun e => by
    subst e
    obtain ⟨_, a⟩ := h.kno
    obtain ⟨_, b⟩ := j.kno
    exact hno (a.symm.trans b)
  have main : ∀ {s s1 s2 : Spc} {x y : Step} {k l : Nat} {f m g n : Int} (h : Made s x s1 k f m) (j : Made s y s2 l g n) (hkl : k ≠ l) (hd : ¬ (x.to < y.to + y.many ∧ y.to < x.to + x.many)),
      ∃ s3, applyL s1 y = .ok s3 ∧ s3.pic = ⟨s.pic.size, s.pic.fixed, setRuns (setRuns s.pic.files k (putX (runsOf s.pic.files k) x.from_ [⟨x.to, x.many⟩])) l (putX (runsOf s.pic.files l) y.from_ [⟨y.to, y.many⟩])⟩ := by
    intro s s1 s2 x y k l f m g n h j hkl hd
    have hl1 : l < s1.pic.files.length := by rw [h.pic]; dsimp only; rw [setRuns_length]; exact j.kl
    have hsz1 : s1.pic.size = s.pic.size := by rw [h.pic]
    obtain ⟨_, hlno⟩ := j.kno
    have hg1 : s1.pic.files[l] = s.pic.files[l]'j.kl := by
      have : s1.pic.files = s.pic.files.set k ⟨s.pic.files[k]'h.kl |>.no, putX (runsOf s.pic.files k) x.from_ [⟨x.to, x.many⟩]⟩ := by rw [h.pic]; exact setRuns_get h.kl _
      simp only [this]
      rw [List.getElem_set_ne hkl]
    have hmapj := j.map
    rw [(runsOf_mem j.kl).1] at hmapj
    have hfree : ∀ q ∈ rng y.to y.many, q ∉ pg s1.pic := fun q hq hc => by
      rcases (h.pages q).1 hc with h1 | h1
      · have a := mem_rng.1 h1
        have b := mem_rng.1 hq
        omega
      · exact j.new q hq h1.1
    obtain ⟨s3, hs3⟩ := make h.inv1 hl1 (by rw [hg1]; exact hlno) j.many j.from_ (by rw [hg1]; exact hmapj) j.hole j.le j.to3 (by rw [hsz1]; exact j.toz) hfree
    refine ⟨s3, hs3, ?_⟩
    obtain ⟨k2, f2, m2, h2⟩ := made h.inv1 hs3
    have hkk : k2 = l := by
      have e := h2.ix
      have : fileI s1.pic.files y.no = l := by
        have := fileI_of (filOk_iff.1 h.inv1.ok.fil).1 hl1
        rw [hg1, hlno] at this; exact this
      omega
    subst hkk
    have hr1 : runsOf s1.pic.files k2 = runsOf s.pic.files k2 := by rw [(runsOf_mem hl1).1, hg1, (runsOf_mem j.kl).1]
    rw [h2.pic, hr1, h.pic]
  obtain ⟨s3, a1, a2⟩ := main h j hkl hd
  obtain ⟨s4, b1, b2⟩ := main j h (Ne.symm hkl) (fun e => hd ⟨e.2, e.1⟩)
  refine ⟨s3, s4, a1, b1, ?_⟩
  rw [a2, b2, setRuns_comm h.kl j.kl hkl]
end Go.Proofs.Yteipclnlfanfeaa

/- Steps of pictures; no code here. -/
namespace Go.Proofs.Yteipclnlfanfeaa

theorem applyL_error_ne {s : Spc} {x : Step} {e : Int} (h : applyL s x = .error e) : e ≠ 0 := by
  unfold applyL at h
  split at h
  · cases h; decide
  split at h
  · cases h; decide
  split at h
  · cases h; decide
  split at h
  · cases h; decide
  split at h
  · cases h; decide
  split at h
  · cases h; decide
  split at h
  · cases h; decide
  split at h
  · cases h; decide
  split at h
  · cases h; decide
  · cases h
theorem runP_ok {p : Pic} {s s1 : Spc} {x : Step} (ho : openL p = some s) (h : applyL s x = .ok s1) : runP p [x] = (s1.pic, 0) := by
  rw [runP_open ho, h]
theorem runP_error {p : Pic} {s : Spc} {x : Step} {e : Int} (ho : openL p = some s) (h : applyL s x = .error e) : runP p [x] = (picZ, e) := by
  rw [runP_open ho, h]
theorem runP_after {s1 s3 : Spc} {y : Step} (hi : Inv s1) (h : applyL s1 y = .ok s3) : runP s1.pic [y] = (s3.pic, 0) := by
  have h2 := applyL_steps_irrel (p := s1.pic) (tk := s1.tk) (st := s1.steps) (st' := []) h
  rw [runP_ok (open_inv hi) h2]
theorem Inv.picOk {s : Spc} (hi : Inv s) : PicOk s.pic := by
  have h1 := hi.ok.nfix
  have h2 := hi.ok.nfil
  refine ⟨by omega, by omega, fun f hf => ?_⟩
  have := (mustE_zero ((filOk_iff.1 hi.ok.fil).2 f hf).1).1
  omega
end Go.Proofs.Yteipclnlfanfeaa
