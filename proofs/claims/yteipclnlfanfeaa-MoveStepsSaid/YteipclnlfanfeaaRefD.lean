/- ref36: Check, Number, given a walk of owners. -/
import Derived.Test.YteipclnlfanfeaaRefB
import Derived.Test.YteipclnlfanfeaaPureW
set_option linter.unusedVariables false
set_option linter.unusedSimpArgs false
namespace Go.Proofs.Yteipclnlfanfeaa
open Go.RowKit

/-- a slice of ints, anywhere -/
def IntsC (w : World) (A : Option Addr) (l : List Int) : Prop := ∀ k (h : k < l.length), ∃ b o, A = some ⟨b, o, none⟩ ∧ w.cell? ⟨b, o + k, none⟩ = some (.int .i64 l[k])
theorem IntsC.below {w w' : World} {A : Option Addr} {l : List Int} (h : IntsC w A l) (hB : Below w.heap.size w w') : IntsC w' A l := by
  intro k hk
  obtain ⟨b, o, hA, h0⟩ := h k hk
  exact ⟨b, o, hA, cell_below h0 hB⟩
/-- what owners answers -/
def OwnPost (p : Pic) (w : World) (e : Ending) (w' : World) : Prop :=
  ((∃ t A c, ownL p = some t ∧ e = .returned (.tuple #[.slice A t.length c, .bool true]) ∧ IntsC w' A t) ∨ (ownL p = none ∧ e = .returned (.tuple #[.slice none 0 0, .bool false]))) ∧ Below w.heap.size w w'
/-- the walk of owners (not yet proved; what hangs on it takes it as a hypothesis) -/
def OwnWalk : Prop := ∀ (p : Pic) (v : Value) (w : World), PicC w v p → PicOk p → Calls Try.prog 40 #[v] w (OwnPost p w)

theorem chkE_wrong {p : Pic} (h : chkE p ≠ 0) : (chkE p != 0) = true := by simpa using h
theorem chkE_right {p : Pic} (h : chkE p = 0) : ∃ s, openL p = some s := by
  unfold chkE at h
  cases ho : openL p with
  | none => rw [ho] at h; simp at h
  | some s => exact ⟨s, rfl⟩
theorem chkE_own {p : Pic} : chkE p = if ownL p = none then 9 else 0 := by
  unfold chkE
  have h := own_open p
  cases ho : openL p with
  | none => rw [if_pos (h.2 ho)]
  | some s => rw [if_neg (fun q => by rw [h.1 q] at ho; cases ho)]

set_option maxRecDepth 100000 in
set_option maxHeartbeats 1000000 in
theorem refCheck_of (H : OwnWalk) (p : Pic) (v : Value) (w : World) (hp : PicC w v p) (hn : PicOk p) :
    Calls Try.prog 15 #[v] w fun e w' => e = .returned (.int .i64 (chkE p)) ∧ Below w.heap.size w w' := by
  obtain ⟨Ax, cx, Fa, cf, rfl, hx, hf⟩ := hp
  have hB := below_alloc (Below.refl _ w) (.cells #[.int .i64 p.size, .slice Ax p.fixed.length cx, .slice Fa p.files.length cf] 25)
  have hp1 : PicC _ _ p := ⟨Ax, cx, Fa, cf, rfl, hx.below hB, hf.below hB⟩
  have Hn := Lib.hid hn
  have Hp := Lib.hid hp1
  have HH := Lib.hid H
  clear hn hp1 hx hf H
  go_enter Try.func15, Try.ntmps15
  go_wp2_with fail
  refine (HH.out p _ _ Hp.out Hn.out).mono ?_
  rintro e w1 ⟨⟨t, A, c, ho, rfl, -⟩ | ⟨ho, rfl⟩, hB1⟩
  · have hc : chkE p = 0 := by rw [chkE_own, ho]; simp
    have Hc := Lib.hid hc
    clear ho hc
    go_wp2_with fail
    go_ret
    exact ⟨by rw [Hc.out]; rfl, below_then hB hB1⟩
  · have hc : chkE p = 9 := by rw [chkE_own, if_pos ho]
    have Hc := Lib.hid hc
    clear ho hc
    go_wp2_with fail
    go_ret
    exact ⟨by rw [Hc.out]; rfl, below_then hB hB1⟩

set_option maxRecDepth 100000 in
set_option maxHeartbeats 1000000 in
theorem refNumber_of (H : OwnWalk) (p : Pic) (no : Int) (v : Value) (w : World) (hp : PicC w v p) (hn : PicOk p) :
    Calls Try.prog 29 #[v, .int .i64 no] w fun e w' => e = .returned (.tuple #[.int .i64 (fragN p no).1, .int .i64 (fragN p no).2]) ∧ Below w.heap.size w w' := by
  obtain ⟨Ax, cx, Fa, cf, rfl, hx, hf⟩ := hp
  have hB := below_alloc (Below.refl _ w) (.cells #[.int .i64 p.size, .slice Ax p.fixed.length cx, .slice Fa p.files.length cf] 25)
  have hp1 : PicC _ _ p := ⟨Ax, cx, Fa, cf, rfl, hx.below hB, hf.below hB⟩
  have hbox := World.alloc_heap_new w (.cells #[.int .i64 p.size, .slice Ax p.fixed.length cx, .slice Fa p.files.length cf] 25)
  have Hbox := Lib.hid hbox
  have Hn := Lib.hid hn
  have Hp := Lib.hid hp1
  have HH := Lib.hid H
  clear hn hp1 hx hf H hbox
  go_enter Try.func29, Try.ntmps29
  go_wp2_with fail
  refine (refCheck_of HH.out p _ _ Hp.out Hn.out).mono ?_
  rintro e w1 ⟨rfl, hB1⟩
  have HP1 := Lib.hid (Hp.out.below hB1)
  have HB1 := Lib.hid (block_below Hbox.out hB1)
  have hBw1 := below_then hB hB1
  by_cases hck : chkE p = 0
  rotate_left
  · have d1 := chkE_wrong hck
    have hfr : fragN p no = (0, 9) := by
      unfold fragN
      unfold chkE at hck
      cases ho : openL p with
      | none => rfl
      | some s => rw [ho] at hck; exact absurd rfl hck
    have Hfr := Lib.hid hfr
    clear hck hfr
    go_wp2_with fail
    go_ret2
    exact ⟨by rw [Hfr.out]; rfl, hBw1⟩
  obtain ⟨s, ho⟩ := chkE_right hck
  rw [hck]
  obtain ⟨hinv, hpic, -⟩ := inv_open ho
  subst hpic
  have hfr : fragN s.pic no = if 0 ≤ fileI s.pic.files no then (fragL (-1) (runsOf s.pic.files (fileI s.pic.files no).toNat), 0) else (0, 3) := by unfold fragN; rw [ho]
  have Hfr := Lib.hid hfr
  have Hinv := Lib.hid hinv
  have hlen : s.pic.files.length ≤ 1048576 := by have := hinv.ok.nfil; omega
  clear hck ho hfr hinv
  have b0 := cell_at HB1.out 0; have b1 := cell_at HB1.out 1; have b2 := cell_at HB1.out 2
  simp only [List.getElem?_toArray, List.getElem?_cons_zero, List.getElem?_cons_succ] at b0 b1 b2
  go_wp2_with fail
  refine (refFile_any s.pic no _ _ HP1.out hlen).mono ?_
  rintro e w2 ⟨rfl, hB2⟩
  have HP2 := Lib.hid (HP1.out.below hB2)
  have HB2 := Lib.hid (block_below HB1.out hB2)
  have hBw2 := below_then hBw1 hB2
  clear b0 b1 b2
  have b0 := cell_at HB2.out 0; have b1 := cell_at HB2.out 1; have b2 := cell_at HB2.out 2
  simp only [List.getElem?_toArray, List.getElem?_cons_zero, List.getElem?_cons_succ] at b0 b1 b2
  rcases fileI_spec s.pic.files no with ⟨hi, _⟩ | ⟨k, hk, hi, _, _⟩
  · rw [hi]
    have Hi := Lib.hid hi
    clear hi
    go_wp2_with fail
    go_ret2
    exact ⟨by rw [Hfr.out, Hi.out]; rfl, hBw2⟩
  · rw [hi]
    have hr := (runsOf_mem hk).1
    obtain ⟨Ax', cx', Fa', cf', he, -, hF⟩ := HP2.out
    cases he
    obtain ⟨b, o, A', c', rfl, g0, g1, g2⟩ := hF k hk
    have hz := mustE_zero ((filOk_iff.1 Hinv.out.ok.fil).2 _ (List.getElem_mem hk)).1
    have Hi := Lib.hid hi
    have Hr := Lib.hid hr
    have Hg := Lib.hid g2
    have Hz := Lib.hid hz
    clear hi hr g2 hz hF
    go_wp2_with fail
    refine (refFragments_any s.pic.files[k].runs A' c' _ (by have := Hz.out.1; omega) Hg.out (fun r hr => by have := Hz.out.2.1 r hr; omega)).mono ?_
    rintro e w3 ⟨rfl, hB3⟩
    go_wp2_with fail
    go_ret2
    refine ⟨?_, below_then hBw2 hB3⟩
    rw [Hfr.out, Hi.out, if_pos (by omega), Int.toNat_natCast, Hr.out]
    rfl
end Go.Proofs.Yteipclnlfanfeaa
