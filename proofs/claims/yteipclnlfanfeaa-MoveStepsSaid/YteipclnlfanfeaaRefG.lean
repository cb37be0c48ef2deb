/- ref04: Size, Part, Join, Put. -/
import Derived.Test.YteipclnlfanfeaaRefA
import Derived.Test.YteipclnlfanfeaaBaseK
set_option linter.unusedVariables false
set_option linter.unusedSimpArgs false
namespace Go.Proofs.Yteipclnlfanfeaa
open Go.RowKit

theorem FairIn.small {l : List Run} (h : FairIn l) : Small l := ⟨by have := h.2.2; omega, fun r hr => by have := h.1 r hr; omega⟩
theorem takenL_bd {l : List Run} (h : FairIn l) (k : Nat) : 0 ≤ takenL (l.take k) ∧ takenL (l.take k) ≤ 1125899906842624 := by
  have h1 := takenL_bound (l.take k) (fun r hr => by have := h.1 r (List.mem_of_mem_take hr); omega)
  have h2 := fair_take h k
  omega

set_option maxRecDepth 100000 in
set_option maxHeartbeats 1000000 in
theorem refSize_any (l : List Run) (A : Option Addr) (c : Nat) (w : World) (hl : RunsC w A l) (hf : FairIn l) :
    Calls Try.prog 42 #[.slice A l.length c] w fun e w' => e = .returned (.tuple #[.int .i64 (pagesL l), .int .i64 (takenL l)]) ∧ w = w' := by
  have hlen : l.length ≤ 1048000 := hf.2.2
  have Hf := Lib.hid hf; clear hf
  go_enter Try.func42, Try.ntmps42
  go_wp2_with fail
  go_loop [4, 5, 6] (fun n t i => ∃ k : Nat, k ≤ l.length ∧ i = .int .i64 k ∧ (∃ a : Int, n = .int .i64 a ∧ Hid (a = pagesL (l.take k))) ∧ (∃ b : Int, t = .int .i64 b ∧ Hid (b = takenL (l.take k)))) (fun _ _ i => l.length - (intOf i).toNat)
  case atStart => exact ⟨0, by omega, by simp, ⟨0, rfl, Lib.hid (by simp [pagesL])⟩, ⟨0, rfl, Lib.hid (by simp [takenL])⟩⟩
  case round =>
    obtain ⟨k, hk, rfl, ⟨a, rfl, Ha⟩, ⟨b, rfl, Hb⟩⟩ := hrel
    by_cases hlt : k < l.length
    · obtain ⟨b', o, rfl, h0, h1⟩ := hl k hlt
      have hbd := Hf.out.1 _ (List.getElem_mem hlt)
      have ha := fair_take Hf.out k
      have hb := takenL_bd Hf.out k
      rw [← Ha.out] at ha
      rw [← Hb.out] at hb
      have hp := pagesL_take_succ l k hlt
      have ht := takenL_take_succ l k hlt
      rw [← Ha.out] at hp
      rw [← Hb.out] at ht
      obtain ⟨tq, hto⟩ : ∃ tq, l[k].to = tq := ⟨_, rfl⟩
      obtain ⟨mn, hmn⟩ : ∃ mn, l[k].many = mn := ⟨_, rfl⟩
      rw [hto] at h0 hbd ht
      rw [hmn] at h1 hbd ht hp
      have Hp := Lib.hid hp; have Ht := Lib.hid ht
      clear hp ht hto hmn
      by_cases g : tq = -1
      · have q : decide (0 ≤ tq) = false := by rw [g]; decide
        have HN := Lib.hid (Ht.out.trans (by rw [if_pos g]))
        clear g
        go_wp2_with fail
        go_round
        case rel => exact ⟨k + 1, by omega, by go_num, ⟨_, rfl, Lib.hid Hp.out.symm⟩, ⟨_, rfl, Lib.hid (by rw [HN.out]; omega)⟩⟩
        case measure => simp [intOf]; omega
      · have q : decide (0 ≤ tq) = true := by simp; omega
        have HN := Lib.hid (Ht.out.trans (by rw [if_neg g]))
        clear g
        go_wp2_with fail
        go_round
        case rel => exact ⟨k + 1, by omega, by go_num, ⟨_, rfl, Lib.hid Hp.out.symm⟩, ⟨_, rfl, Lib.hid HN.out.symm⟩⟩
        case measure => simp [intOf]; omega
    · obtain rfl : k = l.length := by omega
      go_wp2_with fail
      go_ret2
      exact ⟨by rw [Ha.out, Hb.out, List.take_length]; rfl, rfl⟩

theorem retRuns_t {w w' : World} {q : List Run} {e : Ending} (h : RetRuns w q e w') : (∃ A c, e = .returned (.slice A q.length c) ∧ RunsT w' A q) ∧ Below w.heap.size w w' := by
  obtain ⟨⟨A, c, rfl, hown⟩, hB⟩ := h
  exact ⟨⟨A, c, rfl, RunsT.of_owns hown⟩, hB⟩
set_option maxRecDepth 100000 in
set_option maxHeartbeats 1000000 in
theorem refNormT_any (l : List Run) (A : Option Addr) (c : Nat) (w : World) (hl : RunsC w A l) (hf : FairIn l) (hm : ∀ r ∈ l, r.many ≠ 0) :
    Calls Try.prog 76 #[.slice A l.length c] w fun e w' => (∃ A' c', e = .returned (.slice A' (normL l).length c') ∧ RunsT w' A' (normL l)) ∧ Below w.heap.size w w' := by
  have hlen : l.length ≤ 1048000 := hf.2.2
  have Hf := Lib.hid hf; clear hf
  have Hm := Lib.hid hm; clear hm
  go_enter Try.func76, Try.ntmps76
  go_wp2_with fail
  go_loopw [3, 4] (fun o i wr => ∃ k : Nat, k ≤ l.length ∧ i = .int .i64 k ∧ (∃ A' n c', o = .slice A' n c' ∧ Hid (n = (normL (l.take k)).length ∧ RunsT wr A' (normL (l.take k)))) ∧ Below w.heap.size w wr) (fun _ i _ => l.length - (intOf i).toNat)
  case atStart => exact ⟨0, by omega, by simp, ⟨none, 0, 0, rfl, Lib.hid ⟨rfl, .inl (by simp [normL])⟩⟩, Below.refl _ _⟩
  case round =>
    obtain ⟨k, hk, rfl, ⟨A', n, c', rfl, HO⟩, hB⟩ := hrel
    by_cases hlt : k < l.length
    · obtain ⟨b', o', rfl, h0, h1⟩ := (hl.below hB) k hlt
      have hnn := HO.out.1
      go_wp2_with fail
      rw [hnn]
      have hfn := (Hf.out.pfx (List.take_prefix k l)).norm
      have hfk := Hf.out.1 _ (List.getElem_mem hlt)
      refine (refAdd_any (normL (l.take k)) A' c' l[k] wr HO.out.2.c hfn.2.2 (Hm.out _ (List.getElem_mem hlt)) ⟨hfk.1, by omega, hfk.2.2.1, by omega⟩ (fun x hx => ⟨(hfn.1 x hx).1, (hfn.1 x hx).2.1, (hfn.many hx).1, (hfn.many hx).2⟩)).mono ?_
      rintro e w2 hres
      obtain ⟨⟨A2, c2, rfl, hr2⟩, hB2⟩ := retRuns_t hres
      rw [← normL_snoc, ← take_succ_snoc hlt] at hr2 ⊢
      have Hr2 := Lib.hid hr2
      clear hr2 hfn hfk hnn hres
      go_wp2_with fail
      refine ⟨⟨k + 1, by omega, by simp, ⟨A2, _, c2, rfl, Lib.hid ⟨rfl, Hr2.out⟩⟩, below_then hB hB2⟩, by simp [intOf]; omega⟩
    · obtain rfl : k = l.length := by omega
      go_wp2_with fail
      go_ret
      have h2 := HO.out
      rw [List.take_length] at h2
      exact ⟨⟨A', c', by rw [h2.1]; rfl, h2.2⟩, hB⟩
set_option maxRecDepth 100000 in
set_option maxHeartbeats 1000000 in
theorem refJoin_any (a b : List Run) (A B : Option Addr) (c d : Nat) (w : World) (ha : RunsC w A a) (hb : RunsC w B b) (hf : FairIn (a ++ b)) (hm : ∀ r ∈ a ++ b, r.many ≠ 0) :
    Calls Try.prog 78 #[.slice A a.length c, .slice B b.length d] w fun e w' => (∃ A' c', e = .returned (.slice A' (normL (a ++ b)).length c') ∧ RunsT w' A' (normL (a ++ b))) ∧ Below w.heap.size w w' := by
  have hfa : FairIn a := hf.pfx ⟨b, rfl⟩
  have hlen : (a ++ b).length ≤ 1048000 := hf.2.2
  have hlb : b.length ≤ 1048000 := by simp at hlen; omega
  have Hf := Lib.hid hf; have Hm := Lib.hid hm; have Hfa := Lib.hid hfa
  clear hf hm hfa hlen
  go_enter Try.func78, Try.ntmps78
  go_wp2_with fail
  refine (refNormT_any a A c _ ha Hfa.out (fun r hr => Hm.out r (List.mem_append_left _ hr))).mono ?_
  rintro e w1 ⟨⟨A1, c1, rfl, hr1⟩, hB1⟩
  have hb1 := hb.below hB1
  have Hr1 := Lib.hid hr1
  clear ha hb hr1
  go_wp2_with fail
  go_loopw [5, 6] (fun v i wr => ∃ (k : Nat) (A' : Option Addr) (c' : Nat), k ≤ b.length ∧ i = .int .i64 k ∧ v = .slice A' (normL (a ++ b.take k)).length c' ∧ Hid (RunsT wr A' (normL (a ++ b.take k))) ∧ Hid (Below w1.heap.size w1 wr)) (fun _ i _ => b.length - (intOf i).toNat)
  case atStart => exact ⟨0, A1, c1, by omega, by simp, by simp, Lib.hid (by simpa using Hr1.out), Lib.hid (Below.refl _ _)⟩
  case round =>
    obtain ⟨k, A', c', hk, rfl, rfl, HR, HB⟩ := hrel
    by_cases hlt : k < b.length
    · obtain ⟨b', o, rfl, h0, h1⟩ := (hb1.below HB.out) k hlt
      have hpf : FairIn (a ++ b.take k) := Hf.out.pfx ⟨b.drop k, by rw [List.append_assoc, List.take_append_drop]⟩
      have hsn : normL (a ++ b.take (k + 1)) = addN (normL (a ++ b.take k)) b[k] := by
        rw [List.take_succ_eq_append_getElem hlt, ← List.append_assoc, normL_snoc]
      have hbk := Hf.out.1 b[k] (List.mem_append_right _ (List.getElem_mem hlt))
      have hmk := Hm.out b[k] (List.mem_append_right _ (List.getElem_mem hlt))
      have hfr := hpf.norm
      obtain ⟨L, hL⟩ : ∃ L, normL (a ++ b.take k) = L := ⟨_, rfl⟩
      rw [hL] at HR hsn hfr ⊢
      obtain ⟨r, hr⟩ : ∃ r, b[k] = r := ⟨_, rfl⟩
      rw [hr] at h0 h1 hbk hmk hsn
      have Hsn := Lib.hid hsn; have Hfr := Lib.hid hfr; have Hmk := Lib.hid hmk; have Hbk := Lib.hid hbk
      clear hsn hfr hmk hbk hL hr hpf
      go_wp2_with fail
      refine (refAdd_any L A' c' r _ HR.out.c Hfr.out.2.2 Hmk.out (by have := Hbk.out; unfold FairR; omega) (fun x hx => by have := Hfr.out.1 x hx; have := Hfr.out.many hx; unfold FairR; omega)).mono ?_
      rintro e w2 h2
      obtain ⟨⟨A2, c2, rfl, hr2⟩, hB2⟩ := retRuns_t h2
      have HN := Lib.hid hr2
      have HB2 := Lib.hid (HB.out.trans (hB2.mono HB.out.size))
      clear h2 hr2 hB2
      go_wp2_with fail
      exact ⟨⟨k + 1, A2, c2, by omega, by go_num, by rw [Hsn.out], Lib.hid (by rw [Hsn.out]; exact HN.out), HB2⟩, by simp [intOf]; omega⟩
    · obtain rfl : k = b.length := by omega
      rw [List.take_length] at HR ⊢
      go_wp2_with fail
      go_ret
      exact ⟨⟨A', c', rfl, HR.out⟩, below_then hB1 HB.out⟩

/-- the pieces of the first runs -/
def preP (l : List Run) (f t : Int) (k : Nat) : List Run := normL (((startsL 0 l).take k).filterMap (piece f t))
theorem preP_zero (l : List Run) (f t : Int) : preP l f t 0 = [] := by simp [preP, normL]
theorem preP_end (l : List Run) (f t : Int) : preP l f t l.length = partL l f t := by
  unfold preP partL
  rw [List.take_of_length_le (by rw [startsL_length]; omega)]
theorem preP_none {l : List Run} {f t : Int} {k : Nat} (h : k < l.length) (hp : piece f t (pagesL (l.take k), l[k]) = none) : preP l f t (k + 1) = preP l f t k := by
  unfold preP
  rw [startsL_take_succ l k h, List.filterMap_append]
  simp [hp]
theorem preP_some {l : List Run} {f t : Int} {k : Nat} {r : Run} (h : k < l.length) (hp : piece f t (pagesL (l.take k), l[k]) = some r) : preP l f t (k + 1) = addN (preP l f t k) r := by
  unfold preP
  rw [startsL_take_succ l k h, List.filterMap_append]
  simp only [List.filterMap_cons, hp, List.filterMap_nil]
  rw [normL_snoc]
theorem preP_fair {l : List Run} (hl : FairIn l) {f t : Int} (k : Nat) : ∀ x ∈ preP l f t k, FairR x := by
  have hmem : ∀ p ∈ ((startsL 0 l).take k).filterMap (piece f t), -1 ≤ p.to ∧ p.to ≤ 1125899906842624 ∧ 0 ≤ p.many ∧ p.many ≤ 1099511627776 := by
    intro p hp
    obtain ⟨x, hx, hpx⟩ := List.mem_filterMap.1 hp
    obtain ⟨i, hi, rfl⟩ := List.getElem_of_mem (List.mem_of_mem_take hx)
    rw [startsL_length] at hi
    have hg := startsL_get 0 l i hi
    rw [List.getElem?_eq_getElem (by rw [startsL_length]; exact hi)] at hg
    have hg := Option.some.inj hg
    rw [hg, Int.zero_add] at hpx
    exact piece_bd (stOk_at hl i hi) hpx
  have hl' : (((startsL 0 l).take k).filterMap (piece f t)).length ≤ 1048000 := by
    have h2 := List.length_filterMap_le (piece f t) ((startsL 0 l).take k)
    have h3 : ((startsL 0 l).take k).length ≤ l.length := by rw [List.length_take, startsL_length]; omega
    have := hl.2.2
    omega
  have hp := pagesL_bound _ (fun r hr => (hmem r hr).2.2)
  intro x hx
  have hm := many_normL (fun y hy => (hmem y hy).2.2.1)
  have h1 := many_le_pages hm hx
  rw [pages_normL] at h1
  exact ⟨mem_normL (fun t => -1 ≤ t) (fun y hy => (hmem y hy).1) x hx, mem_normL (fun t => t ≤ 1125899906842624) (fun y hy => (hmem y hy).2.1) x hx, hm x hx, by omega⟩
theorem preP_length (l : List Run) (f t : Int) (k : Nat) : (preP l f t k).length ≤ l.length := by
  unfold preP
  have h1 := length_normL (((startsL 0 l).take k).filterMap (piece f t))
  have h2 := List.length_filterMap_le (piece f t) ((startsL 0 l).take k)
  have h3 : ((startsL 0 l).take k).length ≤ l.length := by rw [List.length_take, startsL_length]; omega
  omega

set_option maxRecDepth 100000 in
set_option maxHeartbeats 2000000 in
theorem refPart_any (l : List Run) (A : Option Addr) (c : Nat) (f m : Int) (w : World) (hl : RunsC w A l) (hF : FairIn l) (hf : 0 ≤ f ∧ f ≤ 1125899906842624) (hm : 0 ≤ m ∧ m ≤ 1125899906842624) :
    Calls Try.prog 43 #[.slice A l.length c, .int .i64 f, .int .i64 m] w fun e w' => (∃ A' c', e = .returned (.slice A' (partL l f (f + m)).length c') ∧ RunsC w' A' (partL l f (f + m))) ∧ Below w.heap.size w w' := by
  have hlen : l.length ≤ 1048000 := hF.2.2
  have HF := Lib.hid hF; clear hF
  obtain ⟨f0, f1⟩ := hf
  obtain ⟨m0, m1⟩ := hm
  go_enter Try.func43, Try.ntmps43
  go_wp2_with fail
  go_loopw [7, 8, 9] (fun v a i wr => ∃ (k : Nat) (A' : Option Addr) (c' : Nat) (at_ : Int), k ≤ l.length ∧ i = .int .i64 k ∧ a = .int .i64 at_ ∧ v = .slice A' (preP l f (f + m) k).length c' ∧ Hid (at_ = pagesL (l.take k)) ∧ Hid (RunsC wr A' (preP l f (f + m) k)) ∧ Hid (Below w.heap.size w wr)) (fun _ _ i _ => l.length - (intOf i).toNat)
  case atStart => exact ⟨0, none, 0, 0, by omega, by simp, rfl, by rw [preP_zero]; rfl, Lib.hid (by simp [pagesL]), Lib.hid (by rw [preP_zero]; exact RunsC.nil _ _), Lib.hid (Below.refl _ _)⟩
  case round =>
    obtain ⟨k, A', c', at_, hk, rfl, rfl, rfl, Hat, HR, HB⟩ := hrel
    by_cases hlt : k < l.length
    rotate_left
    · obtain rfl : k = l.length := by omega
      rw [preP_end] at HR ⊢
      go_wp2_with fail
      go_ret
      exact ⟨⟨A', c', rfl, HR.out⟩, HB.out⟩
    obtain ⟨b', o, rfl, h0, h1⟩ := (hl.below HB.out) k hlt
    have hbd := HF.out.1 _ (List.getElem_mem hlt)
    have ha := fair_take HF.out k
    have hp := pagesL_take_succ l k hlt
    have hno := fun h => preP_none (f := f) (t := f + m) hlt h
    have hso := fun r h => preP_some (f := f) (t := f + m) (r := r) hlt h
    rw [← Hat.out] at ha hp
    simp only [← Hat.out] at hno hso
    unfold piece at hno hso
    dsimp only at hno hso
    obtain ⟨tq, hto⟩ : ∃ tq, l[k].to = tq := ⟨_, rfl⟩
    obtain ⟨mn, hmn⟩ : ∃ mn, l[k].many = mn := ⟨_, rfl⟩
    rw [hto] at h0 hbd
    rw [hmn] at h1 hbd hp
    simp only [hto, hmn] at hno hso
    have Hp := Lib.hid hp; have Hno := Lib.hid hno; have Hso := Lib.hid hso
    have Hpf := Lib.hid (preP_fair HF.out (f := f) (t := f + m) k)
    have hpl := preP_length l f (f + m) k
    obtain ⟨L, hL⟩ : ∃ L, preP l f (f + m) k = L := ⟨_, rfl⟩
    rw [hL] at HR Hno Hso Hpf hpl ⊢
    clear hp hno hso hto hmn hL
    obtain ⟨F, hF⟩ : ∃ F, (if f < at_ then at_ else f) = F := ⟨_, rfl⟩
    obtain ⟨T, hT⟩ : ∃ T, (if at_ + mn < f + m then at_ + mn else f + m) = T := ⟨_, rfl⟩
    have hFm : F = max f at_ := by rw [← hF]; split <;> omega
    have hTm : T = min (f + m) (at_ + mn) := by rw [← hT]; split <;> omega
    have hFb : 0 ≤ F ∧ F ≤ 1125899906842624 := by omega
    have hTb : 0 ≤ T ∧ T ≤ 4503599627370496 := by omega
    have HFm := Lib.hid hFm; have HTm := Lib.hid hTm
    clear hFm hTm
    by_cases g : F < T
    rotate_left
    · have q : decide (F < T) = false := by simpa using g
      have HN := Lib.hid (Hno.out (by rw [if_pos]; rw [← HFm.out, ← HTm.out]; omega))
      clear g Hno Hso
      go_wp2_with fail
      exact ⟨⟨k + 1, A', c', at_ + mn, by omega, by go_num, rfl, by rw [HN.out], Lib.hid Hp.out.symm, Lib.hid (by rw [HN.out]; exact HR.out), HB⟩, by simp [intOf]; omega⟩
    have q : decide (F < T) = true := by simpa using g
    have hso2 := Hso.out ⟨if tq = -1 then -1 else tq + (F - at_), T - F⟩ (by rw [if_neg (by rw [← HFm.out, ← HTm.out]; omega), ← HFm.out, ← HTm.out])
    have Hs2 := Lib.hid hso2
    have hgp : 0 < T - F := by omega
    have hFa : 0 ≤ F - at_ ∧ F - at_ ≤ 1125899906842624 := by have := HFm.out; omega
    clear hso2 Hno Hso
    by_cases ht : tq = -1
    · have q2 : decide (0 ≤ tq) = false := by rw [ht]; decide
      have hs3 := Hs2.out
      rw [if_pos ht] at hs3
      have Hs3 := Lib.hid hs3
      clear hs3 Hs2
      subst ht
      go_wp2_with fail
      refine (refAdd_any L A' c' ⟨-1, T - F⟩ _ (HR.out.below ?ca) (by omega) (by dsimp only; omega) (by unfold FairR; dsimp only; omega) Hpf.out).mono ?_
      case ca => exact below_alloc (Below.refl _ _) _
      rintro e w2 h2
      obtain ⟨⟨A2, c2, rfl, hr2⟩, hB2⟩ := retRuns_c h2
      have h1' := cell_below h1 (below_then (below_alloc (Below.refl _ wr) _) hB2)
      have HN := Lib.hid hr2
      have HB2 := Lib.hid (below_then HB.out (below_then (below_alloc (Below.refl _ wr) _) hB2))
      clear h2 hr2 hB2
      go_wp2_with fail
      exact ⟨⟨k + 1, A2, c2, at_ + mn, by omega, by go_num, rfl, by rw [Hs3.out], Lib.hid Hp.out.symm, Lib.hid (by rw [Hs3.out]; exact HN.out), HB2⟩, by simp [intOf]; omega⟩
    · have q2 : decide (0 ≤ tq) = true := by simp; omega
      have hs3 := Hs2.out
      rw [if_neg ht] at hs3
      have Hs3 := Lib.hid hs3
      have Ht := Lib.hid ht
      clear hs3 Hs2 ht
      go_wp2_with fail
      refine (refAdd_any L A' c' ⟨tq + (F - at_), T - F⟩ _ (HR.out.below ?cb) (by omega) (by dsimp only; omega) (by unfold FairR; dsimp only; omega) Hpf.out).mono ?_
      case cb => exact below_alloc (Below.refl _ _) _
      rintro e w2 h2
      obtain ⟨⟨A2, c2, rfl, hr2⟩, hB2⟩ := retRuns_c h2
      have h1' := cell_below h1 (below_then (below_alloc (Below.refl _ wr) _) hB2)
      have HN := Lib.hid hr2
      have HB2 := Lib.hid (below_then HB.out (below_then (below_alloc (Below.refl _ wr) _) hB2))
      clear h2 hr2 hB2
      go_wp2_with fail
      exact ⟨⟨k + 1, A2, c2, at_ + mn, by omega, by go_num, rfl, by rw [Hs3.out], Lib.hid Hp.out.symm, Lib.hid (by rw [Hs3.out]; exact HN.out), HB2⟩, by simp [intOf]; omega⟩

/-- the mapping that the specification's Put gives -/
def rputX (l : List Run) (page : Int) (more : List Run) : List Run :=
  normL (partL l 0 page ++ normL (more ++ partL l (page + pagesL more) (page + pagesL more + 1073741824)))
theorem partL_pos {l : List Run} (hm : mustE l = 0) (f t : Int) : ∀ r ∈ partL l f t, r.many ≠ 0 := fun r hr => by
  have := pos_normL (ok0_pieces (a := 0) (f := f) (t := t) (ok0_of_must hm)) r hr
  omega
theorem rput_fair1 {l more : List Run} (hm : mustE l = 0) (hm' : mustE more = 0) (f t : Int) : FairIn (more ++ partL l f t) := by
  obtain ⟨b1, b2, b3⟩ := partL_facts hm f t
  obtain ⟨c1, c2, c3⟩ := mustE_zero hm
  obtain ⟨d1, d2, d3⟩ := mustE_zero hm'
  have e2 := fun r hr => many_le_pages (l := partL l f t) (fun r hr => (b1 r hr).2.2) (r := r) hr
  refine ⟨fun r hr => ?_, ?_, ?_⟩
  · rcases List.mem_append.1 hr with hr | hr
    · have := d2 r hr; omega
    · have := b1 r hr; have := e2 r hr; omega
  · simp only [pagesL_append]; omega
  · simp only [List.length_append]; omega
theorem rput_fair2 {l more : List Run} (hm : mustE l = 0) (hm' : mustE more = 0) (page f t : Int) : FairIn (partL l 0 page ++ normL (more ++ partL l f t)) := by
  obtain ⟨a1, a2, a3⟩ := partL_facts hm 0 page
  obtain ⟨b1, b2, b3⟩ := partL_facts hm f t
  obtain ⟨c1, c2, c3⟩ := mustE_zero hm
  obtain ⟨d1, d2, d3⟩ := mustE_zero hm'
  have e1 := fun r hr => many_le_pages (l := partL l 0 page) (fun r hr => (a1 r hr).2.2) (r := r) hr
  have h0 : ∀ y ∈ more ++ partL l f t, 0 ≤ y.many := fun y hy => by
    rcases List.mem_append.1 hy with hy | hy
    · have := d2 y hy; omega
    · exact (b1 y hy).2.2
  have hn := many_normL h0
  have hp := pages_normL (more ++ partL l f t)
  have hq : pagesL (more ++ partL l f t) ≤ 2147483648 := by rw [pagesL_append]; omega
  have hk := length_normL (more ++ partL l f t)
  rw [List.length_append] at hk
  refine ⟨fun r hr => ?_, ?_, ?_⟩
  · rcases List.mem_append.1 hr with hr | hr
    · have := a1 r hr; have := e1 r hr; omega
    · have h1 := many_le_pages hn hr
      have h2 := mem_normL (fun t => -1 ≤ t ∧ t ≤ 1099511627776) (fun y hy => by
        rcases List.mem_append.1 hy with hy | hy
        · have := d2 y hy; omega
        · have := b1 y hy; omega) r hr
      have h3 := hn r hr
      omega
  · rw [pagesL_append, hp]; omega
  · rw [List.length_append]; omega
theorem rputX_eq {l more : List Run} (hm : mustE l = 0) (hm' : mustE more = 0) {page : Int} (h0 : 0 ≤ page) : rputX l page more = putX l page more := by
  have ol := ok0_of_must hm
  have om := ok0_of_must hm'
  have hp := pagesL_nonneg (l := more) (fun r hr => (om r hr).2)
  have o1 := ok0_append om (ok0_partL ol (page + pagesL more) (page + pagesL more + 1073741824))
  have o2 := ok0_append (ok0_partL ol 0 page) (ok0_normL o1)
  refine norm_ext (ok0_normL o2) (ok0_putX ol om page) (normL_idem o2) (norm_putX ol om page) ?_
  have hlen : ((strm l).length : Int) ≤ 1073741824 := by
    rw [strm_length (fun r hr => (ol r hr).2)]
    exact (mustE_zero hm).2.2
  unfold rputX
  rw [strm_normL o2, strm_append, strm_normL o1, strm_append, strm_partL ol, strm_partL ol, strm_putX ol om]
  rw [List.take_of_length_le (l := strm l) (i := (page + pagesL more + 1073741824).toNat) (by omega)]
  simp

set_option maxRecDepth 100000 in
set_option maxHeartbeats 2000000 in
theorem refPut_any (l more : List Run) (A B : Option Addr) (c d : Nat) (page : Int) (w : World) (hl : RunsC w A l) (hmo : RunsC w B more) (hm : mustE l = 0) (hm' : mustE more = 0) (hp : 0 ≤ page ∧ page ≤ pagesL l) (hz : pagesL more ≠ 0) :
    Calls Try.prog 44 #[.slice A l.length c, .int .i64 page, .slice B more.length d] w fun e w' => (∃ A' c' v, e = .returned (.tuple #[.slice A' (putX l page more).length c', v]) ∧ RunsT w' A' (putX l page more)) ∧ Below w.heap.size w w' := by
  have hF := fair_of_must hm
  have hF' := fair_of_must hm'
  have hpl := (mustE_zero hm).2.2
  have hpm := (mustE_zero hm').2.2
  have hnn := pagesL_nonneg (l := more) (fun r hr => (ok0_of_must hm' r hr).2)
  obtain ⟨p0, p1⟩ := hp
  have Hm := Lib.hid hm; have Hm' := Lib.hid hm'
  have hd1 : (pagesL more == 0) = false := by simpa using hz
  have hd2 : decide (pagesL l < page) = false := by simp; omega
  have HF := Lib.hid hF; have HF' := Lib.hid hF'
  clear hz hm hm' hF hF'
  obtain ⟨M, hM⟩ : ∃ M, pagesL more = M := ⟨_, rfl⟩
  obtain ⟨N, hN⟩ : ∃ N, pagesL l = N := ⟨_, rfl⟩
  have HM := Lib.hid hM; have HN := Lib.hid hN
  rw [hM] at hd1 hpm hnn
  rw [hN] at hd2 hpl p1
  clear hM hN
  go_enter Try.func44, Try.ntmps44
  go_wp2_with fail
  refine (refSize_any l A c _ hl HF.out).mono ?_
  rintro e w' ⟨rfl, rfl⟩
  rw [HN.out]
  go_wp2_with fail
  refine (refSize_any more B d _ hmo HF'.out).mono ?_
  rintro e w' ⟨rfl, rfl⟩
  rw [HM.out]
  go_wp2_with fail
  refine (refPart_any l A c 0 page _ hl HF.out (by omega) (by omega)).mono ?_
  rintro e w1 ⟨⟨A1, c1, rfl, hr1⟩, hB1⟩
  rw [Int.zero_add] at hr1 ⊢
  have Hr1 := Lib.hid hr1
  have hl1 := hl.below hB1
  have hmo1 := hmo.below hB1
  clear hr1 hl hmo
  go_wp2_with fail
  refine (refPart_any l A c (page + M) 1073741824 _ hl1 HF.out (by omega) (by omega)).mono ?_
  rintro e w2 ⟨⟨A2, c2, rfl, hr2⟩, hB2⟩
  have Hr2 := Lib.hid hr2
  have hl2 := hl1.below hB2
  have hmo2 := hmo1.below hB2
  have Hr12 := Lib.hid (Hr1.out.below hB2)
  have hBw2 := below_then hB1 hB2
  clear hr2 hl1 hmo1
  go_wp2_with fail
  refine (refJoin_any more (partL l (page + M) (page + M + 1073741824)) B A2 d c2 _ hmo2 Hr2.out (rput_fair1 Hm.out Hm'.out _ _) (fun r hr => ?g1)).mono ?_
  case g1 =>
    rcases List.mem_append.1 hr with hr | hr
    · have := (mustE_zero Hm'.out).2.1 r hr; omega
    · exact partL_pos Hm.out _ _ r hr
  rintro e w3 ⟨⟨A3, c3, rfl, hr3⟩, hB3⟩
  have Hr3 := Lib.hid hr3
  have hl3 := hl2.below hB3
  have Hr13 := Lib.hid (Hr12.out.below hB3)
  have hBw3 := below_then hBw2 hB3
  clear hr3 hl2
  go_wp2_with fail
  refine (refJoin_any (partL l 0 page) (normL (more ++ partL l (page + M) (page + M + 1073741824))) A1 A3 c1 c3 _ Hr13.out Hr3.out.c (rput_fair2 Hm.out Hm'.out _ _ _) (fun r hr => ?g2)).mono ?_
  case g2 =>
    rcases List.mem_append.1 hr with hr | hr
    · exact partL_pos Hm.out _ _ r hr
    · have := pos_normL (ok0_append (ok0_of_must Hm'.out) (ok0_partL (ok0_of_must Hm.out) _ _)) r hr; omega
  rintro e w4 ⟨⟨A4, c4, rfl, hr4⟩, hB4⟩
  have hl4 := hl3.below hB4
  have hBw4 := below_then hBw3 hB4
  have hX : normL (partL l 0 page ++ normL (more ++ partL l (page + M) (page + M + 1073741824))) = putX l page more := by
    rw [← HM.out]; exact rputX_eq Hm.out Hm'.out p0
  rw [hX] at hr4 ⊢
  have Hr4 := Lib.hid hr4
  clear hr4 hl3 hX
  go_wp2_with fail
  refine (refPart_any l A c page M _ hl4 HF.out (by omega) (by omega)).mono ?_
  rintro e w5 ⟨⟨A5, c5, rfl, hr5⟩, hB5⟩
  have Hr45 := Lib.hid (Hr4.out.kept (fun j c f hj => block_below hj hB5))
  have hBw5 := below_then hBw4 hB5
  clear hr5
  go_wp2_with fail
  go_ret2
  exact ⟨⟨A4, c4, _, rfl, Hr45.out⟩, hBw5⟩
end Go.Proofs.Yteipclnlfanfeaa
