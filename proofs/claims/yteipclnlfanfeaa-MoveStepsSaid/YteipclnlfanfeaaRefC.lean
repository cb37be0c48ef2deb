/- ref04: Valid. -/
import Derived.Test.YteipclnlfanfeaaRefA
set_option linter.unusedVariables false
set_option linter.unusedSimpArgs false
namespace Go.Proofs.Yteipclnlfanfeaa
open Go.RowKit

theorem validL_iff {l : List Run} : validL l = true ↔ (∀ r ∈ l, okRun r = true) ∧ pagesL l ≤ 1073741824 := by simp [validL]
theorem mustE_two {l : List Run} (h : 2000 < l.length) : mustE l = 2 := by simp [mustE, h]
theorem mustE_one {l : List Run} (h : ¬ 2000 < l.length) {k : Nat} (hk : k < l.length) (hb : okRun l[k] = false) : mustE l = 1 := by
  unfold mustE
  rw [if_neg h, if_neg]
  intro hv
  have := (validL_iff.1 hv).1 _ (List.getElem_mem hk)
  rw [hb] at this; cases this
theorem mustE_end {l : List Run} (h : ¬ 2000 < l.length) (hok : ∀ k (hk : k < l.length), okRun l[k] = true) : mustE l = if 1073741824 < pagesL l then 1 else 0 := by
  unfold mustE
  rw [if_neg h]
  by_cases hp : 1073741824 < pagesL l
  · rw [if_pos hp, if_neg]
    intro hv
    have := (validL_iff.1 hv).2
    omega
  · rw [if_neg hp, if_pos]
    exact validL_iff.2 ⟨fun r hr => by obtain ⟨k, hk, rfl⟩ := List.getElem_of_mem hr; exact hok k hk, by omega⟩
theorem okRun_no {r : Run} (h : ¬ (1 ≤ r.many ∧ r.many ≤ 1073741824 ∧ -1 ≤ r.to ∧ (r.to = -1 ∨ r.to ≤ 1073741824 - r.many))) : okRun r = false := by
  cases hb : okRun r with
  | false => rfl
  | true => exact absurd ((okRun_iff r).1 hb) h

section
attribute [local go_sem] undef
set_option maxRecDepth 100000 in
set_option maxHeartbeats 4000000 in
theorem refValid_any (l : List Run) (A : Option Addr) (c : Nat) (w : World) (hlen : l.length ≤ 1099511627776) (hl : RunsC w A l) :
    Calls Try.prog 75 #[.slice A l.length c] w fun e w' => e = .returned (.int .i64 (mustE l)) ∧ Below w.heap.size w w' := by
  by_cases h2 : 2000 < l.length
  · have d1 : decide ((2000 : Int) < (l.length : Int)) = true := by simp; omega
    have d1' : decide (2000 < l.length) = true := by simp; omega
    have Hm := Lib.hid (mustE_two h2)
    clear h2
    go_enter Try.func75, Try.ntmps75
    go_wp2_with fail
    go_ret
    exact ⟨by rw [Hm.out]; rfl, Below.refl _ _⟩
  have d1 : decide ((2000 : Int) < (l.length : Int)) = false := by simp; omega
  have hl2 : l.length ≤ 2000 := by omega
  have H2 := Lib.hid h2
  clear h2
  go_enter Try.func75, Try.ntmps75
  go_wp2_with fail
  go_loopw [3, 4] (fun n i wr => ∃ k : Nat, k ≤ l.length ∧ i = .int .i64 k ∧ (∃ m : Int, n = .int .i64 m ∧ 0 ≤ m ∧ m ≤ k * 1073741824 ∧ Hid (m = pagesL (l.take k))) ∧ Hid (∀ j (hj : j < l.length), j < k → okRun l[j] = true) ∧ Below w.heap.size w wr) (fun _ i _ => l.length - (intOf i).toNat)
  case atStart => exact ⟨0, by omega, by simp, ⟨0, rfl, by omega, by omega, Lib.hid (by simp [pagesL])⟩, Lib.hid (fun j _ hj => by omega), Below.refl _ _⟩
  case round =>
    obtain ⟨k, hk, rfl, ⟨m, rfl, hm0, hm1, HM⟩, HA, hB⟩ := hrel
    by_cases hlt : k < l.length
    · obtain ⟨b', o, rfl, h0, h1⟩ := (hl.below hB) k hlt
      have hkm : (k : Int) * 1073741824 ≤ 2147483648000 := by omega
      obtain ⟨tq, hto⟩ : ∃ tq, l[k].to = tq := ⟨_, rfl⟩
      obtain ⟨mn, hmn⟩ : ∃ mn, l[k].many = mn := ⟨_, rfl⟩
      rw [hto] at h0; rw [hmn] at h1
      have Hto := Lib.hid hto; have Hmn := Lib.hid hmn
      clear hto hmn
      by_cases k0 : mn < 1
      · have e0 : decide (mn < 1) = true := by simpa using k0
        have Hbad := Lib.hid (mustE_one H2.out hlt (okRun_no (by rw [Hto.out, Hmn.out]; omega)))
        skip
        go_wp2_with fail
        go_ret
        exact ⟨by rw [Hbad.out]; rfl, below_alloc hB _⟩
      have e0 : decide (mn < 1) = false := by simpa using k0
      by_cases k1 : 1073741824 < mn
      · have e1 : decide (1073741824 < mn) = true := by simpa using k1
        have Hbad := Lib.hid (mustE_one H2.out hlt (okRun_no (by rw [Hto.out, Hmn.out]; omega)))
        skip
        go_wp2_with fail
        go_ret
        exact ⟨by rw [Hbad.out]; rfl, below_alloc hB _⟩
      have e1 : decide (1073741824 < mn) = false := by simpa using k1
      by_cases k2 : tq < -1
      · have e2 : decide (tq < -1) = true := by simpa using k2
        have Hbad := Lib.hid (mustE_one H2.out hlt (okRun_no (by rw [Hto.out, Hmn.out]; omega)))
        skip
        go_wp2_with fail
        go_ret
        exact ⟨by rw [Hbad.out]; rfl, below_alloc hB _⟩
      have e2 : decide (tq < -1) = false := by simpa using k2
      by_cases k3 : 1073741824 < tq
      · have e3 : decide (1073741824 < tq) = true := by simpa using k3
        have Hbad := Lib.hid (mustE_one H2.out hlt (okRun_no (by rw [Hto.out, Hmn.out]; omega)))
        skip
        go_wp2_with fail
        go_ret
        exact ⟨by rw [Hbad.out]; rfl, below_alloc hB _⟩
      have e3 : decide (1073741824 < tq) = false := by simpa using k3
      by_cases k4 : 0 ≤ tq
      rotate_left
      · have e4 : decide (0 ≤ tq) = false := by simpa using k4
        have Hgood := Lib.hid ((okRun_iff l[k]).2 (by rw [Hto.out, Hmn.out]; omega))
        have hmp := pagesL_take_succ l k hlt
        rw [Hmn.out, ← HM.out] at hmp
        have Hmp := Lib.hid hmp
        clear hmp
        have hmn1 : mn ≤ 1073741824 := by omega
        have hmn0 : 0 ≤ mn := by omega
        go_wp2_with fail
        refine ⟨⟨k + 1, by omega, by simp, ⟨m + mn, rfl, by omega, by omega, Lib.hid Hmp.out.symm⟩, Lib.hid (fun j hj hjk => ?_), below_alloc hB _⟩, by simp [intOf]; omega⟩
        by_cases e : j = k
        · subst e; exact Hgood.out
        · exact HA.out j hj (by omega)
      have e4 : decide (0 ≤ tq) = true := by simpa using k4
      by_cases k5 : 1073741824 < tq + mn
      · have e5 : decide (1073741824 < tq + mn) = true := by simpa using k5
        have Hbad := Lib.hid (mustE_one H2.out hlt (okRun_no (by rw [Hto.out, Hmn.out]; omega)))
        skip
        go_wp2_with fail
        go_ret
        exact ⟨by rw [Hbad.out]; rfl, below_alloc hB _⟩
      have e5 : decide (1073741824 < tq + mn) = false := by simpa using k5
      have Hgood := Lib.hid ((okRun_iff l[k]).2 (by rw [Hto.out, Hmn.out]; omega))
      have hmp := pagesL_take_succ l k hlt
      rw [Hmn.out, ← HM.out] at hmp
      have Hmp := Lib.hid hmp
      clear hmp
      have hmn1 : mn ≤ 1073741824 := by omega
      have hmn0 : 0 ≤ mn := by omega
      go_wp2_with fail
      refine ⟨⟨k + 1, by omega, by simp, ⟨m + mn, rfl, by omega, by omega, Lib.hid Hmp.out.symm⟩, Lib.hid (fun j hj hjk => ?_), below_alloc hB _⟩, by simp [intOf]; omega⟩
      by_cases e : j = k
      · subst e; exact Hgood.out
      · exact HA.out j hj (by omega)
    · obtain rfl : k = l.length := by omega
      have hall : ∀ j (hj : j < l.length), okRun l[j] = true := fun j hj => HA.out j hj hj
      have hme := mustE_end H2.out hall
      have hM := HM.out
      rw [List.take_length] at hM
      rw [← hM] at hme
      have Hme := Lib.hid hme
      clear hme hall hM
      by_cases kp : 1073741824 < m
      · have e1 : decide (1073741824 < m) = true := by simpa using kp
        have Hkp := Lib.hid kp; clear kp
        go_wp2_with fail
        go_ret
        exact ⟨by rw [Hme.out, if_pos Hkp.out]; rfl, hB⟩
      · have e1 : decide (1073741824 < m) = false := by simpa using kp
        have Hkp := Lib.hid kp; clear kp
        go_wp2_with fail
        go_ret
        exact ⟨by rw [Hme.out, if_neg (by have := Hkp.out; omega)]; rfl, hB⟩
end
end Go.Proofs.Yteipclnlfanfeaa
