/- move: Shrink's plan; no code here. -/
import Derived.Test.YteipclnlfanfeaaPureQ
set_option linter.unusedVariables false
set_option linter.unusedSimpArgs false
namespace Go.Proofs.Yteipclnlfanfeaa

theorem nodup_sub : ∀ (A B : List Int), A.Nodup → (∀ x ∈ A, x ∈ B) → A.length ≤ B.length := by
  intro A
  induction A with
  | nil => intro B _ _; simp
  | cons a A ih =>
    intro B hn hs
    obtain ⟨h1, h2⟩ := List.nodup_cons.1 hn
    have ha := hs a (by simp)
    have := ih (B.erase a) h2 (fun x hx => (List.mem_erase_of_ne (fun e : x = a => h1 (by rw [← e]; exact hx))).2 (hs x (by simp [hx])))
    rw [List.length_erase_of_mem ha] at this
    have hp := List.length_pos_of_mem ha
    simp only [List.length_cons]
    omega
theorem nodup_ints (n : Nat) : ((List.range n).map fun (i : Nat) => (i : Int)).Nodup := by
  have h := nodup_rng 0 n
  unfold rng at h
  have e : ((List.range (n : Int).toNat).map fun (i : Nat) => (0 : Int) + (i : Int)) = (List.range n).map fun (i : Nat) => (i : Int) := by
    rw [Int.toNat_natCast]
    apply List.map_congr_left
    intro i _
    omega
  rwa [e] at h

theorem freeGo_ne : ∀ (l : List Bool) (a n : Nat), (0 < n ∨ ∃ j : Nat, l[j]? = some false) → freeGo a l n ≠ [] := by
  intro l
  induction l with
  | nil =>
    intro a n h
    cases n with
    | zero => rcases h with h | ⟨j, h⟩ <;> simp at h
    | succ n => simp [freeGo]
  | cons b l ih =>
    intro a n h
    cases b with
    | true =>
      cases n with
      | zero =>
        simp only [freeGo]
        refine ih _ _ (.inr ?_)
        rcases h with h | ⟨j, h⟩
        · omega
        · cases j with
          | zero => simp at h
          | succ j => exact ⟨j, by simpa using h⟩
      | succ n => simp [freeGo]
    | false =>
      have : freeGo a (false :: l) n = freeGo (a + 1) l (n + 1) := by cases n <;> simp [freeGo]
      rw [this]
      exact ih _ _ (.inl (by omega))
theorem bestL_all {better : Ext → Ext → Bool} {l : List Ext} (h : l ≠ []) : ∃ x, bestL (fun _ => true) better l = some x := by
  have key : ∀ (l : List Ext) (acc : Option Ext), (acc.isSome = true ∨ l ≠ []) → ∃ x, l.foldl (bestStep (fun _ => true) better) acc = some x := by
    intro l
    induction l with
    | nil =>
      intro acc h
      rcases h with h | h
      · exact Option.isSome_iff_exists.1 h
      · exact absurd rfl h
    | cons y l ih =>
      intro acc h
      simp only [List.foldl_cons]
      refine ih _ (.inl ?_)
      unfold bestStep
      rw [if_pos rfl]
      cases acc with
      | none => rfl
      | some z => dsimp only; split <;> rfl
  exact key l none (.inr h)
/-- a page behind, and no more pages than there is room: some page ahead is free -/
theorem room_ahead {s : Spc} (hi : Inv s) {size : Nat} (hz : (size : Int) ≤ s.pic.size) (hc : (pg s.pic).length ≤ size) {q : Int} (hq : q ∈ pg s.pic) (hqs : (size : Int) ≤ q) : freeL s.tk size ≠ [] := by
  unfold freeL
  refine freeGo_ne _ _ _ (.inr ?_)
  have hsz := hi.ok.size
  have htl : s.tk.length = s.pic.size.toNat := hi.rep.1
  by_cases h : ∃ j : Nat, j < size ∧ s.tk[j]? = some false
  · obtain ⟨j, h1, h2⟩ := h
    exact ⟨j, by rw [List.getElem?_take, if_pos h1]; exact h2⟩
  exfalso
  have hall : ∀ j : Nat, j < size → (j : Int) ∈ pg s.pic := by
    intro j hj
    have h1 := hi.rep.2 j (by omega)
    by_cases hm : (j : Int) ∈ xpages s.pic.fixed ++ fpages s.pic.files
    · exact hm
    · rw [show decide ((j : Int) ∈ xpages s.pic.fixed ++ fpages s.pic.files) = false by simpa using hm] at h1
      exact absurd ⟨j, hj, h1⟩ h
  have := nodup_sub (q :: (List.range size).map fun (i : Nat) => (i : Int)) (pg s.pic) (List.nodup_cons.2 ⟨fun hm => by
    obtain ⟨i, h1, h2⟩ := List.mem_map.1 hm
    have := List.mem_range.1 h1
    omega, nodup_ints size⟩) (fun x hx => by
    rcases List.mem_cons.1 hx with rfl | hx
    · exact hq
    · obtain ⟨i, h1, rfl⟩ := List.mem_map.1 hx
      exact hall i (List.mem_range.1 h1))
  simp at this
  omega
/-- the extent that evict takes is one of the free ones -/
theorem evX_mem {s : Spc} {left : Int} {size : Nat} (h : freeL s.tk size ≠ []) : evX s left size ∈ freeL s.tk size := by
  unfold evX
  cases hb : bestL (fun x : Ext => decide (left ≤ x.many)) (fun a b : Ext => decide (a.many < b.many)) (freeL s.tk size) with
  | some x => exact (bestL_mem hb).1
  | none =>
    dsimp only
    obtain ⟨x, hx⟩ := bestL_all (better := fun a b : Ext => decide (b.many < a.many)) h
    rw [hx]
    exact (bestL_mem hx).1

theorem pages_made {s s1 : Spc} {x : Step} {k : Nat} {f m : Int} (M : Made s x s1 k f m) : (pg s1.pic).length = (pg s.pic).length := by
  have hp := M.pic
  unfold pg
  rw [hp]
  dsimp only
  have hs := fpages_split M.kl
  have ht := fpages_set M.kl (putX (runsOf s.pic.files k) x.from_ [⟨x.to, x.many⟩])
  have hkl := M.kl
  have hR : s.pic.files[k].runs = runsOf s.pic.files k := (runsOf_mem M.kl).1.symm
  rw [List.length_append, List.length_append, ht, hs, hR]
  have oR := M.ok0.1
  have hm0 := M.many
  have oM : Ok0 [(⟨x.to, x.many⟩ : Run)] := fun r hr => by
    simp only [List.mem_cons, List.not_mem_nil, or_false] at hr; subst hr
    have := M.to3
    dsimp only; omega
  have oX := ok0_putX oR oM x.from_
  have h1 := congrArg (fun l => (l.filter fun y => decide (y ≠ -1)).length) M.strR
  have h2 := congrArg (fun l => (l.filter fun y => decide (y ≠ -1)).length) M.strX
  try dsimp only at h1 h2
  rw [← rpages_strm oR] at h1
  rw [← rpages_strm oX] at h2
  simp only [List.filter_append, List.length_append] at h1 h2
  rw [rng_filter M.f0] at h1
  rw [rng_filter (by have := M.to3; omega)] at h2
  have e1 : (rng f x.many).length = (rng x.to x.many).length := by simp [rng]
  simp only [List.length_append]
  omega

/-- pages of a file that lie behind are brought ahead -/
theorem evict_path (k : Nat) (no : Int) (size : Nat) : ∀ (n : Nat) (s : Spc) (left end_ b : Int), left < n → 0 ≤ left → Inv s → (hk : k < s.pic.files.length) → s.pic.files[k].no = no → left ≤ end_ → end_.toNat ≤ (strm (runsOf s.pic.files k)).length →
    (size : Int) ≤ s.pic.size → (pg s.pic).length ≤ size → (size : Int) ≤ b → (∀ i : Nat, (i : Int) < left → (strm (runsOf s.pic.files k))[(end_ - left).toNat + i]? = some (b + i)) →
    ∃ s' l M, evictL no end_ size n s left = .ok s' ∧ OneFile s s' k no l ∧ (l.length : Int) ≤ left ∧ (pg s'.pic).length = (pg s.pic).length ∧
      strm (runsOf s'.pic.files k) = (strm (runsOf s.pic.files k)).take (end_ - left).toNat ++ (M ++ (strm (runsOf s.pic.files k)).drop end_.toNat) ∧ (M.length : Int) = left ∧ ∀ q ∈ M, 3 ≤ q ∧ q < size := by
  intro n
  induction n with
  | zero => intro s left end_ b h1 h2; omega
  | succ n ih =>
    intro s left end_ b h1 h2 hi hk hno hle hel hsz hpg hb hrow
    unfold evictL
    by_cases h0 : left ≤ 0
    · rw [if_pos h0]
      have : left = 0 := by omega
      subst this
      exact ⟨s, [], [], rfl, .refl hi k no, by simp, rfl, by rw [Int.sub_zero, List.nil_append, List.take_append_drop], by simp, fun q hq => by simp at hq⟩
    rw [if_neg h0]
    obtain ⟨hR, hmem⟩ := runsOf_mem hk
    obtain ⟨a1, a2, a3⟩ := (filOk_iff.1 hi.ok.fil).2 _ hmem
    have ho : Ok0 (runsOf s.pic.files k) := by rw [hR]; exact ok0_of_must a1
    have hb1 : b ≠ -1 := by omega
    have hr0 := hrow 0 (by omega)
    have hin : b ∈ pg s.pic := by
      refine List.mem_append_right _ ?_
      rw [fpages_split hk, ← hR]
      refine List.mem_append_right _ (List.mem_append_left _ ?_)
      rw [rpages_strm ho, List.mem_filter]
      refine ⟨List.mem_of_getElem? (i := (end_ - left).toNat + 0) ?_, by simpa using hb1⟩
      rw [hr0]; simp
    have hx := evX_mem (left := left) (room_ahead hi hsz hpg hin hb)
    obtain ⟨e1, e2, e3, e4, e5⟩ := free_ext hi hx
    obtain ⟨X, hX⟩ : ∃ X, evX s left size = X := ⟨_, rfl⟩
    rw [hX] at e1 e2 e3 e4 e5
    have hst : evStep no end_ s left size = ⟨no, end_ - left, X.page, min left X.many⟩ := by unfold evStep; rw [hX]
    obtain ⟨N, hN⟩ : ∃ N, min left X.many = N := ⟨_, rfl⟩
    rw [hst, hX, hN]
    rw [hN] at hst
    have hN1 : 1 ≤ N ∧ N ≤ left ∧ N ≤ X.many := by omega
    obtain ⟨m', hm1, hm2⟩ := map_row ho (show 0 ≤ end_ - left by omega) (show 1 ≤ left by omega) hb1 hrow
    obtain ⟨s1, hs1⟩ := make (x := ⟨no, end_ - left, X.page, N⟩) hi hk hno hN1.1 (by dsimp only; omega) (by rw [← hR]; exact hm1) hb1 (by dsimp only; omega) e1 (by dsimp only; omega) (fun q hq => by
      have h9 := mem_rng.1 hq
      dsimp only at h9
      exact e4 q h9.1 (by omega))
    obtain ⟨k', f, m, Md⟩ := made hi hs1
    have hkk : k' = k := by
      have h1 := Md.ix
      have h2 : fileI s.pic.files no = k := by rw [← hno]; exact fileI_of (filOk_iff.1 hi.ok.fil).1 hk
      dsimp only at h1
      omega
    subst hkk
    have hf : f = b := by
      have h1 := Md.map
      dsimp only at h1
      rw [hm1] at h1
      cases h1; rfl
    subst hf
    have hXs := Md.strX
    dsimp only at hXs
    have hp1 := Md.pic
    dsimp only at hp1
    have hrun1 : runsOf s1.pic.files k' = putX (runsOf s.pic.files k') (end_ - left) [⟨X.page, N⟩] := by
      rw [hp1]; dsimp only; rw [runsOf_set hk, if_pos rfl]
    have hk1 : k' < s1.pic.files.length := by rw [hp1]; dsimp only; rw [setRuns_length]; exact hk
    have hno1 : s1.pic.files[k'].no = no := by
      have h9 : (s1.pic.files.map Fil.no)[k']? = (s.pic.files.map Fil.no)[k']? := by rw [hp1]; dsimp only; rw [setRuns_no hk]
      rw [List.getElem?_map, List.getElem?_map, List.getElem?_eq_getElem hk1, List.getElem?_eq_getElem hk] at h9
      simp only [Option.map_some, Option.some.injEq] at h9
      rw [h9]; exact hno
    have hpm := pages_made Md
    rw [← hrun1] at hXs
    have htl : ((strm (runsOf s.pic.files k')).take (end_ - left).toNat).length = (end_ - left).toNat := by rw [List.length_take]; omega
    have hgl : (rng X.page N).length = N.toNat := by simp [rng]
    have hlen1 : (strm (runsOf s1.pic.files k')).length = (strm (runsOf s.pic.files k')).length := by
      rw [hXs]; simp only [List.length_append, htl, hgl, List.length_drop]; omega
    have hrow1 : ∀ i : Nat, (i : Int) < left - N → (strm (runsOf s1.pic.files k'))[(end_ - (left - N)).toNat + i]? = some (f + N + i) := by
      intro i hi'
      rw [hXs, List.getElem?_append_right (by omega), htl, List.getElem?_append_right (by omega), hgl, List.getElem?_drop]
      have := hrow (N.toNat + i) (by omega)
      rw [show (end_ - left + N).toNat + ((end_ - (left - N)).toNat + i - (end_ - left).toNat - N.toNat) = (end_ - left).toNat + (N.toNat + i) by omega, this]
      congr 1
      omega
    obtain ⟨s', l, M, g1, g2, g3, g4, g5, g6, g7⟩ := ih s1 (left - N) end_ (f + N) (by omega) (by omega) Md.inv1 hk1 hno1 (by omega) (by rw [hlen1]; exact hel) (by rw [hp1]; exact hsz) (by rw [hpm]; exact hpg) (by omega) hrow1
    rw [hs1]
    refine ⟨s', ⟨no, end_ - left, X.page, N⟩ :: l, rng X.page N ++ M, g1, .step hk hs1 rfl hp1 g2, by simp only [List.length_cons]; omega, g4.trans hpm, ?_, by rw [List.length_append, hgl]; omega, fun q hq => ?_⟩
    · rw [g5]
      have ht1 : (strm (runsOf s1.pic.files k')).take (end_ - (left - N)).toNat = (strm (runsOf s.pic.files k')).take (end_ - left).toNat ++ rng X.page N := by
        rw [hXs, ← List.append_assoc]
        exact take_append_len (by rw [List.length_append, htl, hgl]; omega)
      have hd1 : (strm (runsOf s1.pic.files k')).drop end_.toNat = (strm (runsOf s.pic.files k')).drop end_.toNat := by
        rw [hXs, ← List.append_assoc, show end_.toNat = (end_ - left).toNat + N.toNat + (left - N).toNat by omega, ← List.drop_drop]
        rw [drop_append_len (by rw [List.length_append, htl, hgl]), List.drop_drop]
        congr 1
        omega
      rw [ht1, hd1]
      simp only [List.append_assoc]
    · rcases List.mem_append.1 hq with hq | hq
      · have := mem_rng.1 hq; omega
      · exact g7 q hq

/-- how many pages the files of some numbers have -/
def pageI (p : Pic) : List Nat → Nat
  | [] => 0
  | i :: l => (rpages (runsOf p.files i)).length + pageI p l
theorem pageI_all (p : Pic) : pageI p (List.range p.files.length) = (fpages p.files).length := by
  have key : ∀ (l : List Fil) (pre : List Fil), pre ++ l = p.files → pageI p ((List.range l.length).map (· + pre.length)) = (fpages l).length := by
    intro l
    induction l with
    | nil => intro pre _; simp [pageI, fpages]
    | cons f l ih =>
      intro pre hp
      have ih := ih (pre ++ [f]) (by simpa using hp)
      have hro : runsOf p.files pre.length = f.runs := by unfold runsOf; rw [← hp]; simp
      rw [List.length_cons, List.range_succ_eq_map, List.map_cons, List.map_map]
      simp only [pageI, Nat.zero_add]
      rw [hro]
      have e : (List.range l.length).map ((fun x => x + pre.length) ∘ Nat.succ) = (List.range l.length).map (fun x => x + (pre ++ [f]).length) := by
        apply List.map_congr_left
        intro i _
        simp only [Function.comp_apply, List.length_append, List.length_singleton]
        omega
      rw [e, ih]
      simp [fpages]
  have := key p.files [] rfl
  simpa using this

theorem OneFile.trans {s s1 s2 : Spc} {k : Nat} {no : Int} {l m : List Step} (h : OneFile s s1 k no l) (j : OneFile s1 s2 k no m) : OneFile s s2 k no (l ++ m) :=
  ⟨path_append h.path j.path, j.inv, fun x hx => by
    rcases List.mem_append.1 hx with hx | hx
    · exact h.nos x hx
    · exact j.nos x hx, fun i hi => (j.others i hi).trans (h.others i hi), j.names.trans h.names, j.size.trans h.size, j.fixed.trans h.fixed⟩

/-- the pages of a file's runs that lie behind are brought ahead -/
theorem shR_path (k : Nat) (no : Int) (size : Nat) : ∀ (L : List Run) (s : Spc) (at_ : Int), Inv s → (hk : k < s.pic.files.length) → s.pic.files[k].no = no → 0 ≤ at_ → at_.toNat ≤ (strm (runsOf s.pic.files k)).length →
    (strm (runsOf s.pic.files k)).drop at_.toNat = strm L → (∀ r ∈ L, -1 ≤ r.to ∧ 1 ≤ r.many) → (size : Int) ≤ s.pic.size → (pg s.pic).length ≤ size → (∀ q ∈ (strm (runsOf s.pic.files k)).take at_.toNat, q < size) →
    ∃ s' l, shR no size at_ L s = .ok s' ∧ OneFile s s' k no l ∧ l.length ≤ (rpages L).length ∧ (pg s'.pic).length = (pg s.pic).length ∧ ∀ q ∈ strm (runsOf s'.pic.files k), q < size := by
  intro L
  induction L with
  | nil =>
    intro s at_ hi hk hno h0 hl hd _ _ _ hq
    refine ⟨s, [], rfl, .refl hi k no, by simp, rfl, fun q h => ?_⟩
    rw [← List.take_append_drop at_.toNat (strm (runsOf s.pic.files k)), hd] at h
    simp only [strm, List.flatMap_nil, List.append_nil] at h
    exact hq q h
  | cons r L ih =>
    intro s at_ hi hk hno h0 hl hd hL hsz hpg hq
    have hr := hL r (by simp)
    have hL' : ∀ r ∈ L, -1 ≤ r.to ∧ 1 ≤ r.many := fun x hx => hL x (by simp [hx])
    have hsplit : strm (runsOf s.pic.files k) = (strm (runsOf s.pic.files k)).take at_.toNat ++ (strR r ++ strm L) := by
      conv => lhs; rw [← List.take_append_drop at_.toNat (strm (runsOf s.pic.files k)), hd]
      rfl
    have htl : ((strm (runsOf s.pic.files k)).take at_.toNat).length = at_.toNat := by rw [List.length_take]; omega
    have hrl := strR_length r
    have hlen : (strm (runsOf s.pic.files k)).length = at_.toNat + (r.many.toNat + (strm L).length) := by
      have := congrArg List.length hsplit
      rw [List.length_append, htl, List.length_append, hrl] at this
      exact this
    have hd' : (strm (runsOf s.pic.files k)).drop (at_ + r.many).toNat = strm L := by
      rw [hsplit, ← List.append_assoc]
      exact drop_append_len (by rw [List.length_append, htl, hrl]; omega)
    by_cases ht : r.to = -1
    · have ht' : (strm (runsOf s.pic.files k)).take (at_ + r.many).toNat = (strm (runsOf s.pic.files k)).take at_.toNat ++ strR r := by
        conv => lhs; rw [hsplit, ← List.append_assoc]
        exact take_append_len (by rw [List.length_append, htl, hrl]; omega)
      obtain ⟨s', l, g1, g2, g3, g4, g5⟩ := ih s (at_ + r.many) hi hk hno (by omega) (by omega) hd' hL' hsz hpg (fun q h => by
        rw [ht'] at h
        rcases List.mem_append.1 h with h | h
        · exact hq q h
        · obtain ⟨i, _, rfl⟩ := List.mem_map.1 h
          rw [if_pos ht]; omega)
      exact ⟨s', l, by rw [shR, if_neg (fun e => e ht)]; exact g1, g2, by rw [rpages_hole ht]; exact g3, g4, g5⟩
    · obtain ⟨hR, hmem⟩ := runsOf_mem hk
      obtain ⟨left, hleft⟩ : ∃ left, lfN size r = left := ⟨_, rfl⟩
      have hlf : left = min r.many (max 0 (r.to + r.many - size)) := by rw [← hleft]; rfl
      have hrowR : ∀ i : Nat, (i : Int) < r.many → (strm (runsOf s.pic.files k))[at_.toNat + i]? = some (r.to + i) := fun i hi' => by
        rw [hsplit, List.getElem?_append_right (by omega), htl, show at_.toNat + i - at_.toNat = i by omega, List.getElem?_append_left (by omega), strR_get, if_pos hi', if_neg ht]
      by_cases hz : left = 0
      · -- nothing of the run lies behind
        have ht' : (strm (runsOf s.pic.files k)).take (at_ + r.many).toNat = (strm (runsOf s.pic.files k)).take at_.toNat ++ strR r := by
          conv => lhs; rw [hsplit, ← List.append_assoc]
          exact take_append_len (by rw [List.length_append, htl, hrl]; omega)
        obtain ⟨s', l, g1, g2, g3, g4, g5⟩ := ih s (at_ + r.many) hi hk hno (by omega) (by omega) hd' hL' hsz hpg (fun q h => by
          rw [ht'] at h
          rcases List.mem_append.1 h with h | h
          · exact hq q h
          · obtain ⟨i, hi', rfl⟩ := List.mem_map.1 h
            have := List.mem_range.1 hi'
            rw [if_neg ht]; omega)
        refine ⟨s', l, ?_, g2, by rw [rpages_run ht, List.length_append]; omega, g4, g5⟩
        rw [shR, if_pos ht, hleft, hz]
        have he : evictL no (at_ + r.many) size ((0 : Int).toNat + 1) s 0 = .ok s := by
          simp [evictL]
        rw [he]
        exact g1
      · obtain ⟨s1, l1, M, f1, f2, f3, f4, f5, f6, f7⟩ := evict_path k no size (left.toNat + 1) s left (at_ + r.many) (r.to + r.many - left) (by omega) (by omega) hi hk hno (by omega) (by omega) hsz hpg (by omega) (fun i hi' => by
          have := hrowR ((r.many - left).toNat + i) (by omega)
          rw [show (at_ + r.many - left).toNat + i = at_.toNat + ((r.many - left).toNat + i) by omega, this]
          congr 1
          omega)
        have hlen1 : (strm (runsOf s1.pic.files k)).length = (strm (runsOf s.pic.files k)).length := by
          rw [f5]; simp only [List.length_append, List.length_take, List.length_drop]; omega
        have hk1 : k < s1.pic.files.length := by rw [path_len f2]; exact hk
        obtain ⟨_, hno1⟩ := nos_get f2.names hk
        have htk : ((strm (runsOf s.pic.files k)).take (at_ + r.many - left).toNat).length = (at_ + r.many - left).toNat := by rw [List.length_take]; omega
        have hd1 : (strm (runsOf s1.pic.files k)).drop (at_ + r.many).toNat = strm L := by
          rw [f5, ← List.append_assoc, hd']
          exact drop_append_len (by rw [List.length_append, htk]; omega)
        have ht1 : (strm (runsOf s1.pic.files k)).take (at_ + r.many).toNat = (strm (runsOf s.pic.files k)).take (at_ + r.many - left).toNat ++ M := by
          rw [f5, ← List.append_assoc]
          exact take_append_len (by rw [List.length_append, htk]; omega)
        obtain ⟨s', l, g1, g2, g3, g4, g5⟩ := ih s1 (at_ + r.many) f2.inv hk1 (hno1.trans hno) (by omega) (by omega) hd1 hL' (by rw [f2.size]; exact hsz) (by rw [f4]; exact hpg) (fun q h => by
          rw [ht1] at h
          rcases List.mem_append.1 h with h | h
          · obtain ⟨i, hi', rfl⟩ := List.getElem_of_mem h
            rw [List.getElem_take]
            rw [htk] at hi'
            by_cases hia : i < at_.toNat
            · refine hq _ ?_
              refine List.mem_of_getElem? (i := i) ?_
              rw [List.getElem?_take, if_pos hia]
              exact List.getElem?_eq_getElem _
            · have h9 := hrowR (i - at_.toNat) (by omega)
              rw [show at_.toNat + (i - at_.toNat) = i by omega, List.getElem?_eq_getElem (by omega)] at h9
              have h9 := Option.some.inj h9
              rw [h9]
              omega
          · exact (f7 q h).2)
        refine ⟨s', l1 ++ l, ?_, f2.trans g2, ?_, g4.trans f4, g5⟩
        · rw [shR, if_pos ht, hleft, f1]
          exact g1
        · rw [rpages_run ht, List.length_append, List.length_append]
          have : (rng r.to r.many).length = r.many.toNat := by simp [rng]
          omega
/-- the pages behind of the files of some numbers are brought ahead -/
theorem shI_path (s0 : Spc) (size : Nat) : ∀ (L : List Nat) (s : Spc), Inv s → s.pic.files.map Fil.no = s0.pic.files.map Fil.no → s.pic.size = s0.pic.size → s.pic.fixed = s0.pic.fixed → (size : Int) ≤ s.pic.size → (pg s.pic).length ≤ size → L.Nodup → (∀ i ∈ L, i < s0.pic.files.length) → (∀ i ∈ L, runsOf s.pic.files i = runsOf s0.pic.files i) →
    ∃ s' l, shI size L s = .ok s' ∧ applyAll s l = .ok s' ∧ Inv s' ∧ l.length ≤ pageI s0.pic L ∧ s'.pic.files.map Fil.no = s0.pic.files.map Fil.no ∧ s'.pic.size = s0.pic.size ∧ s'.pic.fixed = s0.pic.fixed ∧ (∀ i, i ∉ L → runsOf s'.pic.files i = runsOf s.pic.files i) ∧
      (∀ i ∈ L, ∀ q ∈ strm (runsOf s'.pic.files i), q < size) := by
  intro L
  induction L with
  | nil => intro s hi hn hz hx _ _ _ _ _; exact ⟨s, [], rfl, rfl, hi, by simp, hn, hz, hx, fun _ _ => rfl, fun i hi => by simp at hi⟩
  | cons k L ih =>
    intro s hi hn hz hx hsz hpg hnd hlt hrun
    have hk0 := hlt k (by simp)
    obtain ⟨hk, hkno⟩ := nos_get hn hk0
    obtain ⟨hkL, hndL⟩ := List.nodup_cons.1 hnd
    obtain ⟨hR, hmem⟩ := runsOf_mem hk
    obtain ⟨a1, a2, _⟩ := (filOk_iff.1 hi.ok.fil).2 _ hmem
    have hzz := mustE_zero a1
    rw [← hR] at hzz
    have hno : noOf s.pic.files k = s.pic.files[k].no := by simp [noOf, hk]
    obtain ⟨s1, l1, g1, g2, g3, g4, g5⟩ := shR_path k s.pic.files[k].no size (runsOf s.pic.files k) s 0 hi hk rfl (Int.le_refl _) (by simp) (by simp) (fun r hr => by have := hzz.2.1 r hr; omega) hsz hpg (fun q h => by simp at h)
    have hrk := hrun k (by simp)
    obtain ⟨s', l, f1, f2, f3, f4, f5, f6, f7, f8, f9⟩ := ih s1 g2.inv (g2.names.trans hn) (g2.size.trans hz) (g2.fixed.trans hx) (by rw [g2.size]; exact hsz) (by rw [g4]; exact hpg) hndL (fun i hi' => hlt i (by simp [hi'])) (fun i hi' => by
      rw [g2.others i (fun e => by subst e; exact hkL hi')]
      exact hrun i (by simp [hi']))
    refine ⟨s', l1 ++ l, by simp only [shI, sh1, hno, g1]; exact f1, path_append g2.path f2, f3, ?_, f5, f6, f7, fun i hi' => ?_, fun i hi' q hq => ?_⟩
    · simp only [pageI, List.length_append]; rw [hrk] at g3; omega
    · rw [f8 i (fun h => hi' (by simp [h])), g2.others i (fun e => hi' (by simp [e]))]
    · rcases List.mem_cons.1 hi' with rfl | hiL
      · rw [f8 i hkL] at hq
        exact g5 q hq
      · exact f9 i hiL q hq

theorem cnt_rng (a size : Int) : ∀ m : Nat, (((rng a m).filter fun q => decide (size ≤ q)).length : Int) = max 0 (a + m - max size a) := by
  intro m
  induction m with
  | zero => simp [rng]; omega
  | succ m ih =>
    have e : rng a ((m + 1 : Nat) : Int) = rng a m ++ [a + m] := by
      unfold rng
      rw [show ((m + 1 : Nat) : Int).toNat = m + 1 by omega, show ((m : Nat) : Int).toNat = m by omega, List.range_succ, List.map_append]
      rfl
    rw [e, List.filter_append, List.length_append]
    by_cases h : size ≤ a + m
    · have : ([a + (m : Int)].filter fun q => decide (size ≤ q)).length = 1 := by simp [h]
      rw [this]; omega
    · have : ([a + (m : Int)].filter fun q => decide (size ≤ q)).length = 0 := by simp [h]
      rw [this]; omega
theorem overR_cnt {size : Int} {l : List Run} (h : ∀ r ∈ l, 1 ≤ r.many) : overR size l = (((rpages l).filter fun q => decide (size ≤ q)).length : Int) := by
  induction l with
  | nil => rfl
  | cons r l ih =>
    have ih := ih (fun x hx => h x (by simp [hx]))
    have hr := h r (by simp)
    have hb : overR size (r :: l) = overN size r + overR size l := rfl
    rw [hb, ih]
    unfold overN
    by_cases ht : r.to = -1
    · rw [if_pos ht, rpages_hole ht]; omega
    · rw [if_neg ht, rpages_run ht, List.filter_append, List.length_append]
      have := cnt_rng r.to size r.many.toNat
      rw [show ((r.many.toNat : Nat) : Int) = r.many by omega] at this
      omega
theorem overF_cnt {size : Int} {l : List Fil} (h : ∀ f ∈ l, ∀ r ∈ f.runs, 1 ≤ r.many) : overF size l = (((fpages l).filter fun q => decide (size ≤ q)).length : Int) := by
  induction l with
  | nil => rfl
  | cons f l ih =>
    have ih := ih (fun x hx => h x (by simp [hx]))
    have hb : overF size (f :: l) = overR size f.runs + overF size l := rfl
    have hp : fpages (f :: l) = rpages f.runs ++ fpages l := by simp [fpages]
    rw [hb, ih, overR_cnt (h f (by simp)), hp, List.filter_append, List.length_append]
    omega
theorem sumE_free (l : List Bool) : ∀ (a n : Nat), sumE (freeGo a l n) = (n : Int) + ((l.filter fun b => b == false).length : Int) := by
  induction l with
  | nil => intro a n; cases n <;> simp [freeGo, sumE]
  | cons b l ih =>
    intro a n
    cases b with
    | true =>
      cases n with
      | zero => simp only [freeGo, ih]; simp
      | succ n => simp only [freeGo, sumE, ih]; simp
    | false =>
      have : freeGo a (false :: l) n = freeGo (a + 1) l (n + 1) := by cases n <;> simp [freeGo]
      rw [this, ih]
      simp
      omega
theorem filter_not_len {α : Type} (l : List α) (p : α → Bool) : (l.filter p).length + (l.filter fun x => !p x).length = l.length := by
  induction l with
  | nil => rfl
  | cons x l ih =>
    by_cases h : p x = true
    · rw [List.filter_cons_of_pos h, List.filter_cons_of_neg (by simp [h])]
      simp only [List.length_cons]; omega
    · rw [List.filter_cons_of_neg h, List.filter_cons_of_pos (by simpa using h)]
      simp only [List.length_cons]; omega
/-- there is room: no more pages than the new size has -/
theorem shrink_room {s : Spc} (hi : Inv s) {size : Nat} (hz : (size : Int) ≤ s.pic.size) (hb : bynd size s.pic.fixed = false) (ho : overF size s.pic.files - sumE (freeL s.tk size) ≤ 0) : (pg s.pic).length ≤ size := by
  have hx := (bynd_iff hi.ok.fix).1 hb
  have hov := overF_cnt (size := size) (fun f hf r hr => ((mustE_zero ((filOk_iff.1 hi.ok.fil).2 f hf).1).2.1 r hr).1)
  have hsum := sumE_free (s.tk.take size) 0 0
  have hse : sumE (freeL s.tk size) = (((s.tk.take size).filter fun b => b == false).length : Int) := by unfold freeL; rw [hsum]; omega
  have htl : s.tk.length = s.pic.size.toNat := hi.rep.1
  have htk : s.tk.take size = (List.range size).map fun i : Nat => decide ((i : Int) ∈ pg s.pic) := by
    apply List.ext_getElem?
    intro i
    rw [List.getElem?_take]
    by_cases h : i < size
    · rw [if_pos h, hi.rep.2 i (by omega), List.getElem?_map, List.getElem?_range h]
      rfl
    · rw [if_neg h, List.getElem?_eq_none (by simp; omega)]
  have hF : ((s.tk.take size).filter fun b => b == false).length = ((List.range size).filter fun i : Nat => !decide ((i : Int) ∈ pg s.pic)).length := by
    rw [htk, List.filter_map, List.length_map]
    congr 2
    funext i
    simp only [Function.comp_apply]
    generalize decide ((i : Int) ∈ pg s.pic) = bb
    cases bb <;> rfl
  have hU := filter_not_len (List.range size) fun i : Nat => decide ((i : Int) ∈ pg s.pic)
  rw [List.length_range] at hU
  have hlow : ((pg s.pic).filter fun q => !decide ((size : Int) ≤ q)).length ≤ ((List.range size).filter fun i : Nat => decide ((i : Int) ∈ pg s.pic)).length := by
    have := nodup_sub ((pg s.pic).filter fun q => !decide ((size : Int) ≤ q)) (((List.range size).filter fun i : Nat => decide ((i : Int) ∈ pg s.pic)).map fun (i : Nat) => (i : Int)) (hi.ok.nodup.filter _) (fun q hq => by
      obtain ⟨h1, h2⟩ := List.mem_filter.1 hq
      have h0 := (pages_bd hi.ok q h1).1
      have h3 : ¬ (size : Int) ≤ q := by simpa using h2
      refine List.mem_map.2 ⟨q.toNat, List.mem_filter.2 ⟨List.mem_range.2 (by omega), ?_⟩, by omega⟩
      rw [show ((q.toNat : Nat) : Int) = q by omega]
      exact decide_eq_true h1)
    simpa using this
  have hhigh : ((pg s.pic).filter fun q => decide ((size : Int) ≤ q)).length = ((fpages s.pic.files).filter fun q => decide ((size : Int) ≤ q)).length := by
    unfold pg
    rw [List.filter_append, List.length_append]
    have : ((xpages s.pic.fixed).filter fun q => decide ((size : Int) ≤ q)) = [] := by
      rw [List.filter_eq_nil_iff]
      intro q hq
      have := hx q hq
      simp; omega
    rw [this]; simp
  have hpart := filter_not_len (pg s.pic) fun q => decide ((size : Int) ≤ q)
  rw [hse, hF, hov] at ho
  omega
/-- Shrink's plan: made by Run; behind it the size is OK -/
theorem shrink_reach {p : Pic} {s : Spc} (ho : openL p = some s) (size : Int) : ((shrinkP p size).2 ≠ 0 ∧ (shrinkP p size).1 = []) ∨
    ((shrinkP p size).2 = 0 ∧ ∃ d : Spc, runP p (shrinkP p size).1 = (d.pic, 0) ∧ Inv d ∧ (resizeP d.pic size).2 = 0) := by
  obtain ⟨hi, hp, hst⟩ := inv_open ho
  subst hp
  unfold shrinkP
  rw [ho]
  dsimp only
  by_cases h1 : ¬ (4 ≤ size ∧ size ≤ s.pic.size)
  · rw [if_pos h1]; exact .inl ⟨by simp, rfl⟩
  rw [if_neg h1]
  by_cases h2 : bynd size s.pic.fixed = true
  · rw [if_pos h2]; exact .inl ⟨by simp, rfl⟩
  rw [if_neg h2]
  by_cases h3 : ¬ overF size s.pic.files - sumE (freeL s.tk size.toNat) ≤ 0
  · rw [if_pos h3]; exact .inl ⟨by simp, rfl⟩
  rw [if_neg h3]
  have h1 : 4 ≤ size ∧ size ≤ s.pic.size := by omega
  have hb : bynd size s.pic.fixed = false := by simpa using h2
  obtain ⟨z, rfl⟩ := Int.eq_ofNat_of_zero_le (show 0 ≤ size by omega)
  rw [Int.toNat_natCast] at h3 ⊢
  have hroom := shrink_room hi h1.2 hb (by omega)
  obtain ⟨d, l, f1, f2, f3, f4, f5, f6, f7, f8, f9⟩ := shI_path s z (List.range s.pic.files.length) s hi rfl rfl rfl h1.2 hroom List.nodup_range (fun i hi' => List.mem_range.1 hi') (fun _ _ => rfl)
  rw [f1]
  dsimp only
  have hs' := path_steps f2
  rw [hst, List.nil_append] at hs'
  rw [hs']
  have hpa := pageI_all s.pic
  have hpf := pages_few hi.ok
  right
  refine ⟨by first | rfl | trivial, d, path_run ho f2 (by omega), f3, ?_⟩
  have hall : ∀ q ∈ fpages d.pic.files, q < (z : Int) := by
    intro q hq
    obtain ⟨f, hf, hq⟩ := List.mem_flatMap.1 hq
    obtain ⟨i, hi', rfl⟩ := List.getElem_of_mem hf
    have hl := congrArg List.length f5
    simp only [List.length_map] at hl
    have hr := (runsOf_mem hi').1
    have ho' : Ok0 d.pic.files[i].runs := ok0_of_must ((filOk_iff.1 f3.ok.fil).2 _ (List.getElem_mem hi')).1
    rw [rpages_strm ho'] at hq
    have := (List.mem_filter.1 hq).1
    rw [← hr] at this
    exact f9 i (List.mem_range.2 (by omega)) q this
  have hok := (room_iff f3.ok (z : Int)).2 (fun q hq => by
    rcases List.mem_append.1 hq with hq | hq
    · rw [f7] at hq
      exact (bynd_iff hi.ok.fix).1 hb q hq
    · exact hall q hq)
  have hdz := f3.ok.size
  have hsz := hi.ok.size
  unfold resizeP
  rw [open_inv f3]
  dsimp only
  rw [if_neg (by omega), if_pos hok]
end Go.Proofs.Yteipclnlfanfeaa
