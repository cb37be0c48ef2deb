/- ref36: Apply's tests, against a step on a space; no code here. -/
import Derived.Test.YteipclnlfanfeaaPureX
set_option linter.unusedVariables false
set_option linter.unusedSimpArgs false
namespace Go.Proofs.Yteipclnlfanfeaa

/-- what the specification refuses by its numbers alone -/
def rapT (s : Spc) (x : Step) : Prop := x.many < 1 ∨ x.from_ < 0 ∨ pagesL (stR s x) ≤ x.from_ ∨ pagesL (stR s x) - x.from_ < x.many ∨ x.to < 3 ∨ s.pic.size ≤ x.to ∨ s.pic.size - x.to < x.many

theorem stR_facts {s : Spc} {x : Step} (hi : Inv s) (h0 : 0 ≤ fileI s.pic.files x.no) : ∃ k, ∃ h : k < s.pic.files.length, fileI s.pic.files x.no = k ∧ stR s x = s.pic.files[k].runs ∧ mustE (stR s x) = 0 ∧ normL (stR s x) = stR s x := by
  have hk := fileI_lt h0
  obtain ⟨hR, hmem⟩ := runsOf_mem hk
  obtain ⟨a1, a2, _⟩ := (filOk_iff.1 hi.ok.fil).2 _ hmem
  exact ⟨_, hk, by omega, hR, by rw [stR, hR]; exact a1, by rw [stR, hR]; exact a2⟩
theorem rap_arg {s : Spc} {x : Step} (hi : Inv s) (h0 : 0 ≤ fileI s.pic.files x.no) (h : rapT s x) : applyL s x = .error 1 := by
  obtain ⟨k, hk, -, -, hm, hn⟩ := stR_facts hi h0
  have ho := ok0_of_must hm
  by_cases h2 : 1 ≤ x.many ∧ 0 ≤ x.from_
  rotate_left
  · exact ap2 h0 h2
  by_cases h3 : x.from_ < pagesL (stR s x)
  rotate_left
  · exact ap3 h0 h2 (mapL_ge ho (by omega))
  obtain ⟨f, m, h4, h5⟩ := mapL_strm ho h2.2 h3
  by_cases h6 : f ≠ -1 ∧ x.many ≤ m
  rotate_left
  · exact ap4 h0 h2 h4 h6
  refine ap5 h0 h2 h4 h6 ?_
  have hl := h5.len
  rw [strm_length (fun r hr => (ho r hr).2)] at hl
  unfold rapT at h
  omega
theorem rap_part {s : Spc} {x : Step} (hi : Inv s) (h0 : 0 ≤ fileI s.pic.files x.no) (hT : ¬ rapT s x) :
    (∃ f m, mapL (stR s x) x.from_ = some (f, m) ∧ f ≠ -1 ∧ x.many ≤ m ∧ partL (stR s x) x.from_ (x.from_ + x.many) = [⟨f, x.many⟩]) ∨
    (applyL s x = .error 1 ∧ ∀ r, partL (stR s x) x.from_ (x.from_ + x.many) = [r] → r.to = -1) := by
  unfold rapT at hT
  obtain ⟨k, hk, -, -, hm, hn⟩ := stR_facts hi h0
  have ho := ok0_of_must hm
  obtain ⟨f, m, h4, h5⟩ := mapL_strm ho (show 0 ≤ x.from_ by omega) (show x.from_ < pagesL (stR s x) by omega)
  have hlen := strm_length (fun r hr => (ho r hr).2)
  have hQ := strm_partL ho x.from_ (x.from_ + x.many)
  have oQ := ok0_partL ho x.from_ (x.from_ + x.many)
  have nQ : normL (partL (stR s x) x.from_ (x.from_ + x.many)) = partL (stR s x) x.from_ (x.from_ + x.many) := normL_idem (ok0_pieces ho)
  obtain ⟨a, ha⟩ := Int.eq_ofNat_of_zero_le (show 0 ≤ x.from_ by omega)
  obtain ⟨n, hn'⟩ := Int.eq_ofNat_of_zero_le (show 0 ≤ x.many by omega)
  have hget : ∀ i : Nat, i < n → (strm (partL (stR s x) x.from_ (x.from_ + x.many)))[i]? = (strm (stR s x))[a + i]? := by
    intro i hi'
    rw [hQ, List.getElem?_drop, List.getElem?_take, if_pos (by omega), show x.from_.toNat = a by omega]
  have hsz : (strm (partL (stR s x) x.from_ (x.from_ + x.many))).length = n := by
    rw [hQ, List.length_drop, List.length_take]; omega
  by_cases h6 : f ≠ -1 ∧ x.many ≤ m
  · left
    refine ⟨f, m, h4, h6.1, h6.2, ?_⟩
    have hf0 : -1 ≤ f := by
      have := of_mem_strm (List.mem_of_getElem? h5.at_)
      obtain ⟨r, hr, h | h⟩ := this
      · omega
      · have := (ho r hr).1; omega
    have hO : Ok0 [(⟨f, x.many⟩ : Run)] := fun r hr => by
      simp only [List.mem_cons, List.not_mem_nil, or_false] at hr; subst hr; dsimp only; omega
    refine norm_ext oQ hO nQ ?_ ?_
    · have : addN [] (⟨f, x.many⟩ : Run) = [⟨f, x.many⟩] := by
        unfold addN
        rw [if_neg (by dsimp only; omega)]
        rfl
      exact this
    · apply List.ext_getElem?
      intro i
      by_cases hi' : i < n
      · rw [hget i hi']
        have := h5.row i (by omega)
        rw [show x.from_.toNat = a by omega] at this
        rw [this, if_neg h6.1]
        rw [show strm [(⟨f, x.many⟩ : Run)] = strR ⟨f, x.many⟩ by simp [strm], strR_get, if_pos (by dsimp only; omega), if_neg h6.1]
      · rw [List.getElem?_eq_none (by omega)]
        rw [show strm [(⟨f, x.many⟩ : Run)] = strR ⟨f, x.many⟩ by simp [strm], strR_get, if_neg (by dsimp only; omega)]
  · right
    refine ⟨ap4 h0 ⟨by omega, by omega⟩ h4 h6, fun r hr => ?_⟩
    by_cases hr1 : r.to = -1
    · exact hr1
    exfalso
    rw [hr] at hget hsz oQ
    have hs1 : strm [r] = strR r := by simp [strm]
    rw [hs1] at hget hsz
    have hrl := strR_length r
    have hr0 := oQ r (by simp)
    have g0 := hget 0 (by omega)
    rw [strR_get, if_pos (by omega), if_neg hr1] at g0
    have h7 := h5.at_
    rw [show x.from_.toNat = a by omega] at h7
    rw [Nat.add_zero, h7] at g0
    have hf : r.to = f := by injection g0 with g0; simpa using g0
    have hfn : f ≠ -1 := by rw [← hf]; exact hr1
    have hlt : m < x.many := by
      by_cases q : m < x.many
      · exact q
      · exact absurd ⟨hfn, by omega⟩ h6
    have hp := h5.pos
    have g1 := hget m.toNat (by omega)
    have h8 := h5.max
    rw [show x.from_.toNat = a by omega, if_neg hfn] at h8
    rw [strR_get, if_pos (by omega), if_neg hr1] at g1
    apply h8
    rw [← g1, hf]
    congr 1
    omega
theorem rap_free {s : Spc} {x : Step} {t : List Int} (hi : Inv s) (ht : OwnR t (ownP s.pic) s.pic.size.toNat) (hT : ¬ rapT s x) :
    freeB s.tk x.to.toNat x.many.toNat = true ↔ ∀ k : Nat, x.to ≤ (k : Int) → (k : Int) < x.to + x.many → t[k]? = some 0 := by
  unfold rapT at hT
  have hsz := hi.ok.size
  rw [freeB_iff hi.rep (by omega)]
  constructor
  · intro h k h1 h2
    rw [ht.2 k (by omega)]
    congr 1
    have := h (k : Int) (mem_rng.2 (by omega))
    by_cases e : ownP s.pic k = 0
    · exact e
    · exact absurd ((ownP_ne s.pic k).1 e) this
  · intro h q hq hc
    have hq' := mem_rng.1 hq
    have h1 := h q.toNat (by omega) (by omega)
    rw [ht.2 q.toNat (by omega)] at h1
    have h2 := (ownP_ne s.pic q.toNat).2 (by rw [Int.toNat_of_nonneg (by omega)]; exact hc)
    exact h2 (by injection h1)
theorem rap_busy {s : Spc} {x : Step} {t : List Int} {f m : Int} (hi : Inv s) (h0 : 0 ≤ fileI s.pic.files x.no) (ht : OwnR t (ownP s.pic) s.pic.size.toNat) (hT : ¬ rapT s x) (h4 : mapL (stR s x) x.from_ = some (f, m)) (h5 : f ≠ -1) (h6 : x.many ≤ m)
    {k : Nat} (h1 : x.to ≤ (k : Int)) (h2 : (k : Int) < x.to + x.many) (hb : t[k]? ≠ some 0) : applyL s x = .error 13 := by
  have hfb : freeB s.tk x.to.toNat x.many.toNat = false := by
    cases h : freeB s.tk x.to.toNat x.many.toNat with
    | false => rfl
    | true => exact absurd ((rap_free hi ht hT).1 h k h1 h2) hb
  unfold rapT at hT
  exact ap6 h0 ⟨by omega, by omega⟩ h4 ⟨h5, h6⟩ ⟨by omega, by omega⟩ hfb
theorem rap_done {s : Spc} {x : Step} {t : List Int} {f m : Int} (hi : Inv s) (h0 : 0 ≤ fileI s.pic.files x.no) (ht : OwnR t (ownP s.pic) s.pic.size.toNat) (hT : ¬ rapT s x) (h4 : mapL (stR s x) x.from_ = some (f, m)) (h5 : f ≠ -1) (h6 : x.many ≤ m)
    (hb : ∀ k : Nat, x.to ≤ (k : Int) → (k : Int) < x.to + x.many → t[k]? = some 0) : ∃ s1, applyL s x = .ok s1 ∧ s1.pic = ⟨s.pic.size, s.pic.fixed, setRuns s.pic.files (fileI s.pic.files x.no).toNat (stX s x)⟩ := by
  have hfb := (rap_free hi ht hT).2 hb
  unfold rapT at hT
  obtain ⟨s', e1, -, e3, -⟩ := apply_full hi h0 (by omega) (by omega) h4 h5 h6 (by omega) (by omega) hfb
  exact ⟨s', e1, e3⟩
end Go.Proofs.Yteipclnlfanfeaa
