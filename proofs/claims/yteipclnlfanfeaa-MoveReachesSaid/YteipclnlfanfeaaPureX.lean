/- ref36: Free and Resize by the owners' list; no code here. -/
import Derived.Test.YteipclnlfanfeaaPureW
set_option linter.unusedVariables false
set_option linter.unusedSimpArgs false
namespace Go.Proofs.Yteipclnlfanfeaa

theorem ownG_ne (l : List Fil) : ∀ (i : Nat) (g : Nat → Int) (j : Nat), ownG i l g j ≠ 0 ↔ ((j : Int) ∈ fpages l ∨ g j ≠ 0) := by
  induction l with
  | nil => intro i g j; simp [ownG, fpages]
  | cons f l ih =>
    intro i g j
    rw [ownG, ih]
    have hfp : fpages (f :: l) = rpages f.runs ++ fpages l := by simp [fpages]
    rw [hfp, List.mem_append]
    by_cases e : (j : Int) ∈ rpages f.runs
    · simp only [if_pos e]
      exact ⟨fun _ => .inl (.inl e), fun _ => .inr (by omega)⟩
    · simp only [if_neg e]
      constructor
      · rintro (h | h)
        · exact .inl (.inr h)
        · exact .inr h
      · rintro ((h | h) | h)
        · exact absurd h e
        · exact .inl h
        · exact .inr h
/-- a page has an owner just where it is one of the picture's -/
theorem ownP_ne (p : Pic) (j : Nat) : ownP p j ≠ 0 ↔ (j : Int) ∈ xpages p.fixed ++ fpages p.files := by
  unfold ownP
  rw [ownG_ne, List.mem_append]
  by_cases e : (j : Int) ∈ xpages p.fixed
  · simp [e]
  · simp [e]

/-- one free page more -/
def addE (out : List Ext) (i : Int) : List Ext := match out.getLast? with
  | some y => if y.page + y.many = i then out.dropLast ++ [⟨y.page, y.many + 1⟩] else out ++ [⟨i, 1⟩]
  | none => out ++ [⟨i, 1⟩]
/-- the extents of free pages, as the specification gathers them -/
def rfGo : List Ext → Nat → List Int → List Ext
  | out, _, [] => out
  | out, a, x :: l => if x ≠ 0 then rfGo out (a + 1) l else rfGo (addE out a) (a + 1) l
def rfL (t : List Int) (size : Nat) : List Ext := rfGo [] 0 (t.take size)

def EndsBy (out : List Ext) (a : Nat) : Prop := ∀ y, out.getLast? = some y → y.page + y.many < a
theorem addE_new {out : List Ext} {a : Nat} (h : EndsBy out a) : addE out a = out ++ [⟨a, 1⟩] := by
  unfold addE
  cases hl : out.getLast? with
  | none => rfl
  | some y =>
    dsimp only
    rw [if_neg (by have := h y hl; omega)]
theorem addE_more (out : List Ext) (a n : Nat) : addE (out ++ [⟨(a : Int) - (n + 1 : Nat), (n + 1 : Nat)⟩]) a = out ++ [⟨(a : Int) - (n + 1 : Nat), (n + 1 : Nat) + 1⟩] := by
  unfold addE
  rw [List.getLast?_append]
  simp
theorem rfGo_eq (l : List Int) : ∀ (a : Nat) (out : List Ext),
    (EndsBy out a → rfGo out a l = out ++ freeGo a (l.map fun x => decide (x ≠ 0)) 0) ∧
    (∀ n : Nat, rfGo (out ++ [⟨(a : Int) - (n + 1 : Nat), (n + 1 : Nat)⟩]) a l = out ++ freeGo a (l.map fun x => decide (x ≠ 0)) (n + 1)) := by
  induction l with
  | nil => intro a out; exact ⟨fun _ => by simp [rfGo, freeGo], fun n => by simp [rfGo, freeGo]⟩
  | cons x l ih =>
    intro a out
    by_cases hx : x = 0
    · subst hx
      constructor
      · intro he
        have h := (ih (a + 1) out).2 0
        simp only [rfGo, List.map_cons]
        rw [if_neg (by simp), addE_new he]
        have e : (⟨(a : Int), 1⟩ : Ext) = ⟨((a + 1 : Nat) : Int) - (0 + 1 : Nat), (0 + 1 : Nat)⟩ := by
          congr 1; omega
        rw [e, h]
        rfl
      · intro n
        have h := (ih (a + 1) out).2 (n + 1)
        simp only [rfGo, List.map_cons]
        rw [if_neg (by simp), addE_more]
        have e : (⟨(a : Int) - (n + 1 : Nat), (n + 1 : Nat) + 1⟩ : Ext) = ⟨((a + 1 : Nat) : Int) - (n + 1 + 1 : Nat), (n + 1 + 1 : Nat)⟩ := by
          congr 1; omega
        rw [e, h]
        rfl
    · have hd : decide (x ≠ 0) = true := by simpa using hx
      constructor
      · intro he
        have h := (ih (a + 1) out).1 (fun y hy => by have := he y hy; omega)
        simp only [rfGo, List.map_cons]
        rw [if_pos hx, h, hd]
        rfl
      · intro n
        have h := (ih (a + 1) (out ++ [⟨(a : Int) - (n + 1 : Nat), (n + 1 : Nat)⟩])).1 (fun y hy => by
          rw [List.getLast?_append] at hy
          simp at hy
          subst hy
          dsimp only
          omega)
        simp only [rfGo, List.map_cons]
        rw [if_pos hx, h, hd, List.append_assoc]
        rfl
theorem rfL_eq (t : List Int) (size : Nat) : rfL t size = freeGo 0 ((t.take size).map fun x => decide (x ≠ 0)) 0 := by
  unfold rfL
  rw [((rfGo_eq _ 0 []).1 (fun y hy => by simp at hy))]
  rfl

/-- what the owners' list and what is taken say is one thing -/
theorem own_taken {p : Pic} {t : List Int} {tk : List Bool} {n : Nat} (ht : OwnR t (ownP p) n) (hk : Rep tk (xpages p.fixed ++ fpages p.files) n) : tk = t.map fun x => decide (x ≠ 0) := by
  apply List.ext_getElem?
  intro i
  by_cases hi : i < n
  · rw [hk.2 i hi, List.getElem?_map, ht.2 i hi]
    simp only [Option.map_some]
    congr 1
    exact decide_eq_decide.2 (ownP_ne p i).symm
  · rw [List.getElem?_eq_none (by rw [hk.1]; omega), List.getElem?_eq_none (by rw [List.length_map, ht.1]; omega)]
theorem rfL_free {p : Pic} {t : List Int} {tk : List Bool} {n : Nat} (ht : OwnR t (ownP p) n) (hk : Rep tk (xpages p.fixed ++ fpages p.files) n) (size : Nat) : rfL t size = freeL tk size := by
  rw [rfL_eq, freeL, own_taken ht hk, List.map_take]

theorem bynd_iff {size b e : Int} {l : List Ext} (h : FixOk b e l) : bynd size l = false ↔ ∀ x ∈ xpages l, x < size := by
  induction l generalizing e with
  | nil => simp [bynd, xpages]
  | cons y l ih =>
    obtain ⟨⟨h1, h2, h3, h4⟩, h5⟩ := h
    have ih := ih h5
    have hx : xpages (y :: l) = rng y.page y.many ++ xpages l := by simp [xpages]
    have hb : bynd size (y :: l) = (decide (size < y.page + y.many) || bynd size l) := rfl
    rw [hx, hb, Bool.or_eq_false_iff, ih]
    constructor
    · rintro ⟨a, c⟩ x hm
      have a' : ¬ size < y.page + y.many := by simpa using a
      rcases List.mem_append.1 hm with hm | hm
      · have := mem_rng.1 hm; omega
      · exact c x hm
    · intro hh
      refine ⟨?_, fun x hm => hh x (List.mem_append_right _ hm)⟩
      have := hh (y.page + y.many - 1) (List.mem_append_left _ (mem_rng.2 (by omega)))
      have : ¬ size < y.page + y.many := by omega
      simpa using this
theorem overN_nn (size : Int) (r : Run) : 0 ≤ overN size r := by unfold overN; split <;> omega
theorem overR_nn (size : Int) (l : List Run) : 0 ≤ overR size l := by
  induction l with
  | nil => exact Int.le_refl _
  | cons r l ih => have := overN_nn size r; simp only [overR]; omega
theorem overR_iff {size : Int} {l : List Run} (h : ∀ r ∈ l, 1 ≤ r.many) : overR size l = 0 ↔ ∀ x ∈ rpages l, x < size := by
  induction l with
  | nil => simp [overR, rpages]
  | cons r l ih =>
    have ih := ih (fun x hx => h x (by simp [hx]))
    have hr := h r (by simp)
    have h1 := overN_nn size r
    have h2 := overR_nn size l
    have hx : rpages (r :: l) = (if r.to = -1 then [] else rng r.to r.many) ++ rpages l := by simp [rpages]
    have hb : overR size (r :: l) = overN size r + overR size l := rfl
    have hsum : overN size r + overR size l = 0 ↔ overN size r = 0 ∧ overR size l = 0 := by omega
    rw [hb, hsum, ih, hx]
    have hone : overN size r = 0 ↔ ∀ x ∈ (if r.to = -1 then [] else rng r.to r.many), x < size := by
      unfold overN
      by_cases ht : r.to = -1
      · simp [ht]
      · rw [if_neg ht, if_neg ht]
        constructor
        · intro h0 x hm
          have := mem_rng.1 hm
          omega
        · intro hh
          have := hh (r.to + r.many - 1) (mem_rng.2 (by omega))
          omega
    rw [hone]
    constructor
    · rintro ⟨a, c⟩ x hm
      rcases List.mem_append.1 hm with hm | hm
      · exact a x hm
      · exact c x hm
    · intro hh
      exact ⟨fun x hm => hh x (List.mem_append_left _ hm), fun x hm => hh x (List.mem_append_right _ hm)⟩
theorem overF_nn (size : Int) (l : List Fil) : 0 ≤ overF size l := by
  induction l with
  | nil => exact Int.le_refl _
  | cons f l ih => have := overR_nn size f.runs; simp only [overF]; omega
theorem overF_iff {size : Int} {l : List Fil} (h : ∀ f ∈ l, ∀ r ∈ f.runs, 1 ≤ r.many) : overF size l = 0 ↔ ∀ x ∈ fpages l, x < size := by
  induction l with
  | nil => simp [overF, fpages]
  | cons f l ih =>
    have ih := ih (fun x hx => h x (by simp [hx]))
    have h1 := overR_nn size f.runs
    have h2 := overF_nn size l
    have hx : fpages (f :: l) = rpages f.runs ++ fpages l := by simp [fpages]
    have hb : overF size (f :: l) = overR size f.runs + overF size l := rfl
    have hsum : overR size f.runs + overF size l = 0 ↔ overR size f.runs = 0 ∧ overF size l = 0 := by omega
    rw [hb, hsum, ih, hx, overR_iff (h f (by simp))]
    constructor
    · rintro ⟨a, c⟩ x hm
      rcases List.mem_append.1 hm with hm | hm
      · exact a x hm
      · exact c x hm
    · intro hh
      exact ⟨fun x hm => hh x (List.mem_append_left _ hm), fun x hm => hh x (List.mem_append_right _ hm)⟩
/-- nothing lies from a page on: by what is fixed and by the runs, or by the owners -/
theorem room_iff {p : Pic} (h : OpenOk p) (size : Int) : (bynd size p.fixed = false ∧ overF size p.files = 0) ↔ ∀ x ∈ xpages p.fixed ++ fpages p.files, x < size := by
  rw [bynd_iff h.fix, overF_iff (fun f hf r hr => ((mustE_zero ((filOk_iff.1 h.fil).2 f hf).1).2.1 r hr).1)]
  constructor
  · rintro ⟨a, c⟩ x hm
    rcases List.mem_append.1 hm with hm | hm
    · exact a x hm
    · exact c x hm
  · intro hh
    exact ⟨fun x hm => hh x (List.mem_append_left _ hm), fun x hm => hh x (List.mem_append_right _ hm)⟩
theorem pages_bd {p : Pic} (h : OpenOk p) : ∀ x ∈ xpages p.fixed ++ fpages p.files, 0 ≤ x ∧ x < p.size := by
  intro x hm
  rcases List.mem_append.1 hm with hm | hm
  · exact mem_xpages_bd (Int.le_refl _) h.fix x hm
  · have := mem_fpages_bd h.fil x hm; omega
/-- what Resize asks of the owners' list -/
theorem room_own {p : Pic} {t : List Int} (h : OpenOk p) (ht : OwnR t (ownP p) p.size.toNat) {size : Int} (h0 : 0 ≤ size) :
    (bynd size p.fixed = false ∧ overF size p.files = 0) ↔ ∀ i : Nat, size ≤ (i : Int) → i < t.length → t[i]? = some 0 := by
  rw [room_iff h]
  constructor
  · intro hh i h1 h2
    rw [ht.1] at h2
    rw [ht.2 i h2]
    congr 1
    by_cases e : ownP p i = 0
    · exact e
    · have := hh _ ((ownP_ne p i).1 e)
      omega
  · intro hh x hm
    have hb := pages_bd h x hm
    by_cases e : x < size
    · exact e
    · exfalso
      have h1 := hh x.toNat (by omega) (by rw [ht.1]; omega)
      rw [ht.2 _ (by omega)] at h1
      have h2 := (ownP_ne p x.toNat).2 (by rw [Int.toNat_of_nonneg hb.1]; exact hm)
      exact h2 (by injection h1)
end Go.Proofs.Yteipclnlfanfeaa
