/- ref36: Fragments, file. -/
import Derived.Test.YteipclnlfanfeaaBaseK
set_option linter.unusedVariables false
set_option linter.unusedSimpArgs false
namespace Go.Proofs.Yteipclnlfanfeaa
open Go.RowKit

set_option maxRecDepth 100000 in
set_option maxHeartbeats 1000000 in
theorem refFragments_any (l : List Run) (A : Option Addr) (c : Nat) (w : World) (hlen : l.length ≤ 1048576) (hl : RunsC w A l) (hb : ∀ r ∈ l, -1 ≤ r.to ∧ r.to ≤ 1125899906842624 ∧ 0 ≤ r.many ∧ r.many ≤ 1125899906842624) :
    Calls Try.prog 57 #[.slice A l.length c] w fun e w' => e = .returned (.int .i64 (fragL (-1) l)) ∧ Below w.heap.size w w' := by
  have Hb := Lib.hid hb; clear hb
  go_enter Try.func57, Try.ntmps57
  go_wp2_with fail
  go_loopw [3, 4, 5] (fun n e i wr => ∃ k : Nat, k ≤ l.length ∧ i = .int .i64 k ∧ n = .int .i64 (fragL (-1) (l.take k)) ∧ e = .int .i64 (fragE (-1) (l.take k)) ∧ Below w.heap.size w wr) (fun _ _ i _ => l.length - (intOf i).toNat)
  case atStart => exact ⟨0, by omega, by simp, by simp [fragL], by simp [fragE], Below.refl _ _⟩
  case round =>
    obtain ⟨k, hk, rfl, rfl, rfl, hB⟩ := hrel
    by_cases hlt : k < l.length
    · obtain ⟨b', o, rfl, h0, h1⟩ := (hl.below hB) k hlt
      have hbd := Hb.out _ (List.getElem_mem hlt)
      have hfb := fragL_bound (-1) (l.take k)
      have hkl : (l.take k).length ≤ l.length := by simp; omega
      have hs1 := fragL_snoc (-1) (l.take k) l[k]
      have hs2 := fragE_snoc (-1) (l.take k) l[k]
      rw [← take_succ_snoc hlt] at hs1 hs2
      have Hs1 := Lib.hid hs1; have Hs2 := Lib.hid hs2; clear hs1 hs2
      by_cases ht : l[k].to = -1
      · have hd : (l[k].to == -1) = true := by simpa using ht
        go_wp2_with fail
        refine ⟨⟨k + 1, by omega, by simp, ?_, ?_, hB⟩, by simp [intOf]; omega⟩
        · rw [Hs1.out]; simp [ht]
        · rw [Hs2.out]; simp [ht]
      · have hd : (l[k].to == -1) = false := by simpa using ht
        by_cases he : l[k].to = fragE (-1) (l.take k)
        · have hd2 : (l[k].to != fragE (-1) (l.take k)) = false := by simpa using he
          have He := Lib.hid he; clear he
          go_wp2_with fail
          go_quiet (fail)
          go_wp2_with fail
          refine ⟨⟨k + 1, by omega, by simp, ?_, ?_, below_dr hB _⟩, by simp [intOf]; omega⟩
          · rw [Hs1.out, if_neg ht, if_pos He.out]; simp
          · rw [Hs2.out, if_neg ht]
        · have hd2 : (l[k].to != fragE (-1) (l.take k)) = true := by simpa using he
          have He := Lib.hid he; clear he
          go_wp2_with fail
          go_quiet (fail)
          go_wp2_with fail
          refine ⟨⟨k + 1, by omega, by simp, ?_, ?_, below_dr hB _⟩, by simp [intOf]; omega⟩
          · rw [Hs1.out, if_neg ht, if_neg He.out]
          · rw [Hs2.out, if_neg ht]
    · obtain rfl : k = l.length := by omega
      go_wp2_with fail
      go_ret
      exact ⟨by rw [List.take_length]; rfl, hB⟩

set_option maxRecDepth 100000 in
set_option maxHeartbeats 1000000 in
theorem refFile_any (p : Pic) (no : Int) (v : Value) (w : World) (hp : PicC w v p) (hlen : p.files.length ≤ 1048576) :
    Calls Try.prog 41 #[v, .int .i64 no] w fun e w' => e = .returned (.int .i64 (fileI p.files no)) ∧ Below w.heap.size w w' := by
  obtain ⟨Ax, cx, Fa, cf, rfl, hx, hf⟩ := hp
  have hB := below_alloc (Below.refl _ w) (.cells #[.int .i64 p.size, .slice Ax p.fixed.length cx, .slice Fa p.files.length cf] 25)
  have hf1 := hf.below hB
  clear hf hx
  go_enter Try.func41, Try.ntmps41
  go_wp2_with fail
  go_loopw [5] (fun i wr => ∃ k : Nat, k ≤ p.files.length ∧ i = .int .i64 k ∧ Hid (∀ j (hj : j < p.files.length), j < k → p.files[j].no ≠ no) ∧ wr = w.alloc (.cells #[.int .i64 p.size, .slice Ax p.fixed.length cx, .slice Fa p.files.length cf] 25)) (fun i _ => p.files.length - (intOf i).toNat)
  case atStart => exact ⟨0, by omega, by simp, Lib.hid (fun j _ hj => by omega), rfl⟩
  case round =>
    obtain ⟨k, hk, rfl, HA, rfl⟩ := hrel
    by_cases hlt : k < p.files.length
    · obtain ⟨b, o, A', c', rfl, g0, g1, g2⟩ := hf1 k hlt
      by_cases hn : p.files[k].no = no
      · have hd : (p.files[k].no == no) = true := by simpa using hn
        have Hn := Lib.hid hn; clear hn g2
        go_wp2_with fail
        go_ret
        exact ⟨by rw [fileI_at hlt (fun j hj => HA.out j (by omega) hj) Hn.out]; rfl, hB⟩
      · have hd : (p.files[k].no == no) = false := by simpa using hn
        have Hn := Lib.hid hn; clear hn g2
        go_wp2_with fail
        refine ⟨⟨k + 1, by omega, by simp, Lib.hid (fun j hj hjk => ?_), trivial⟩, by simp [intOf]; omega⟩
        by_cases e : j = k
        · subst e; exact Hn.out
        · exact HA.out j hj (by omega)
    · obtain rfl : k = p.files.length := by omega
      go_wp2_with fail
      go_ret
      refine ⟨?_, hB⟩
      have : fileI p.files no = -1 := by
        rcases fileI_spec p.files no with ⟨h, _⟩ | ⟨j, hj, _, h2, _⟩
        · exact h
        · exact absurd h2 (HA.out j hj hj)
      rw [this]; rfl
end Go.Proofs.Yteipclnlfanfeaa
