/- MoveReaches: the walk. -/
import Derived.Test.YteipclnlfanfeaaPureR
set_option linter.unusedVariables false
set_option linter.unusedSimpArgs false
namespace Go.Proofs.Yteipclnlfanfeaa
open Go.RowKit

/-- a picture in its box -/
structure RBx (nb : Nat) (v0 v1 v2 : Value) (p : Pic) (W : World) : Prop where
  box : W.heap[nb]? = some (.cells #[v0, v1, v2] 25 (0, 0))
  pic : PicC W (.agg #[v0, v1, v2]) p
theorem RBx.below {nb : Nat} {v0 v1 v2 : Value} {p : Pic} {W W' : World} (h : RBx nb v0 v1 v2 p W) (hB : Below W.heap.size W W') : RBx nb v0 v1 v2 p W' := ⟨block_below h.box hB, h.pic.below hB⟩
theorem RBx.c0 {nb : Nat} {v0 v1 v2 : Value} {p : Pic} {W : World} (h : RBx nb v0 v1 v2 p W) : W.cell? ⟨nb, 0, none⟩ = some v0 := by simpa using cell_at h.box 0
theorem RBx.c1 {nb : Nat} {v0 v1 v2 : Value} {p : Pic} {W : World} (h : RBx nb v0 v1 v2 p W) : W.cell? ⟨nb, 1, none⟩ = some v1 := by simpa using cell_at h.box 1
theorem RBx.c2 {nb : Nat} {v0 v1 v2 : Value} {p : Pic} {W : World} (h : RBx nb v0 v1 v2 p W) : W.cell? ⟨nb, 2, none⟩ = some v2 := by simpa using cell_at h.box 2
theorem RBx.new {v0 v1 v2 : Value} {p : Pic} {W : World} (h : PicC W (.agg #[v0, v1, v2]) p) : RBx W.heap.size v0 v1 v2 p (W.alloc (.cells #[v0, v1, v2] 25)) := ⟨World.alloc_heap_new _ _, h.below (below_alloc (Below.refl _ _) _)⟩
theorem RBx.fil {nb : Nat} {v0 v1 : Value} {Fa : Option Addr} {n cf : Nat} {p : Pic} {W : World} (h : RBx nb v0 v1 (.slice Fa n cf) p W) : FilC W Fa p.files := by
  obtain ⟨Ax', cx', Fa', cf', e, -, hF⟩ := h.pic
  cases e
  exact hF
theorem runP_len {p : Pic} {l : List Step} {q : Pic} (ho : ∃ s, openL p = some s) (h : runP p l = (q, 0)) : l.length ≤ 1099511627776 := by
  obtain ⟨s, hs⟩ := ho
  by_cases h5 : l.length ≤ 5000
  · omega
  · unfold runP at h
    rw [hs] at h
    dsimp only at h
    rw [if_neg h5] at h
    cases h
theorem fragN_of {s : Spc} (hi : Inv s) {i : Nat} (h : i < s.pic.files.length) : fragN s.pic s.pic.files[i].no = (fragL (-1) (runsOf s.pic.files i), 0) := by
  unfold fragN
  rw [open_inv hi]
  dsimp only
  rw [fileI_of (filOk_iff.1 hi.ok.fil).1 h, if_pos (by omega), Int.toNat_natCast]

section
attribute [local go_sem] undef
set_option maxRecDepth 100000 in
set_option maxHeartbeats 16000000 in
theorem reaches_any (p : Pic) (size : Int) (v : Value) (w : World) (hp : PicC w v p) :
    Calls Try.prog 5 #[v, .int .i64 size] w fun e w' => e = .returned (.bool true) ∧ Below w.heap.size w w' := by
  have hmx : Try.prog.follows .mixedOrders = true := by kernel_rfl
  have hp' := hp
  obtain ⟨Ax, cx, Fa, cf, rfl, -, -⟩ := hp'
  have HP := Lib.hid (RBx.new hp)
  have hB0 := below_alloc (Below.refl _ w) (.cells #[.int .i64 p.size, .slice Ax p.fixed.length cx, .slice Fa p.files.length cf] 25)
  clear hp
  go_enter Try.func5, Try.ntmps5
  go_wp2_with fail
  obtain ⟨np, hnp⟩ : ∃ np, w.heap.size = np := ⟨_, rfl⟩
  obtain ⟨w0, hw0⟩ : ∃ w0, w.alloc (.cells #[.int .i64 p.size, .slice Ax p.fixed.length cx, .slice Fa p.files.length cf] 25) = w0 := ⟨_, rfl⟩
  rw [hw0, hnp] at HP
  rw [hw0] at hB0 ⊢
  rw [hnp]
  clear hw0 hnp
  refine (few_any p _ _ HP.out.pic).mono ?_
  rintro e w1 ⟨rfl, hB1⟩
  have hBw1 := below_then hB0 hB1
  have HP1 := Lib.hid (HP.out.below hB1)
  clear HP
  cases hfew : fewB p with
  | false =>
    go_wp2_with fail
    refine (sanity_any _).mono ?_
    rintro e w2 ⟨rfl, hB2⟩
    go_wp2_with fail
    go_ret
    exact ⟨rfl, below_then hBw1 hB2⟩
  | true =>
  have Hok := Lib.hid (few_ok hfew)
  clear hfew
  have p0 := HP1.out.c0; have p1 := HP1.out.c1; have p2 := HP1.out.c2
  go_wp2_with fail
  refine (check_any p _ _ HP1.out.pic Hok.out).mono ?_
  rintro e w2 ⟨rfl, hB2⟩
  have hBw2 := below_then hBw1 hB2
  have HP2 := Lib.hid (HP1.out.below hB2)
  clear HP1 p0 p1 p2
  by_cases hck : chkE p = 0
  rotate_left
  · have d1 : (chkE p != 0) = true := by simpa using hck
    have Hck := Lib.hid hck
    clear hck
    go_wp2_with fail
    refine (sanity_any _).mono ?_
    rintro e w3 ⟨rfl, hB3⟩
    go_wp2_with fail
    go_ret
    exact ⟨rfl, below_then hBw2 hB3⟩
  obtain ⟨s, hs⟩ : ∃ s, openL p = some s := by
    cases ho : openL p with
    | none => rw [chkE_none ho] at hck; cases hck
    | some s => exact ⟨s, rfl⟩
  rw [hck]
  obtain ⟨hinv, hpic, -⟩ := inv_open hs
  subst hpic
  obtain ⟨sa, l, D1, D2, D3, D4, D5⟩ := defrag_reach hs
  obtain ⟨sb, c, C1, C2, C3, C4, C5⟩ := compact_reach hs
  have hSr := shrink_reach hs size
  have HD1 := Lib.hid D1; have HD2 := Lib.hid D2; have HD3 := Lib.hid D3; have HD4 := Lib.hid D4; have HD5 := Lib.hid D5
  have HC1 := Lib.hid C1; have HC2 := Lib.hid C2; have HC3 := Lib.hid C3; have HC4 := Lib.hid C4; have HC5 := Lib.hid C5
  have HSr := Lib.hid hSr
  have Hinv := Lib.hid hinv
  have Hll := Lib.hid (runP_len ⟨s, hs⟩ D2)
  have Hcl := Lib.hid (runP_len ⟨s, hs⟩ C2)
  have Hs := Lib.hid hs
  clear hck hs hinv D1 D2 D3 D4 D5 C1 C2 C3 C4 C5 hSr
  have p0 := HP2.out.c0; have p1 := HP2.out.c1; have p2 := HP2.out.c2
  go_wp2_with fail
  refine (defrag_pic s.pic _ _ HP2.out.pic Hok.out).mono ?_
  rintro e w3 ⟨⟨Al, cl, rfl, hl⟩, hB3⟩
  rw [HD1.out] at hl ⊢
  have HL3 := Lib.hid hl
  have hBw3 := below_then hBw2 hB3
  have HP3 := Lib.hid (HP2.out.below hB3)
  clear HP2 p0 p1 p2 hl
  have p0 := HP3.out.c0; have p1 := HP3.out.c1; have p2 := HP3.out.c2
  go_wp2_with fail
  refine (run_pic s.pic l _ Al cl _ HP3.out.pic Hok.out HL3.out Hll.out).mono ?_
  rintro e w4 ⟨⟨u, rfl, hu⟩, hB4⟩
  rw [HD2.out] at hu ⊢
  dsimp only at hu ⊢
  have hu := hu.c
  have hu' := hu
  obtain ⟨A1, c1, F1, d1, rfl, -, -⟩ := hu'
  have HA4 := Lib.hid (RBx.new hu)
  have hB4' := below_then hB4 (below_alloc (Below.refl _ w4) (.cells #[.int .i64 sa.pic.size, .slice A1 sa.pic.fixed.length c1, .slice F1 sa.pic.files.length d1] 25))
  have hBw4 := below_then hBw3 hB4'
  have HP4 := Lib.hid (HP3.out.below hB4')
  have HL4 := Lib.hid (HL3.out.below hB4')
  clear HP3 HL3 p0 p1 p2 hu hB4 hB4'
  have p0 := HP4.out.c0; have p1 := HP4.out.c1; have p2 := HP4.out.c2
  go_wp2_with fail
  obtain ⟨na, hna⟩ : ∃ na, w4.heap.size = na := ⟨_, rfl⟩
  obtain ⟨w5, hw5⟩ : ∃ w5, w4.alloc (.cells #[.int .i64 sa.pic.size, .slice A1 sa.pic.fixed.length c1, .slice F1 sa.pic.files.length d1] 25) = w5 := ⟨_, rfl⟩
  rw [hw5, hna] at HA4
  rw [hw5] at HP4 HL4 hBw4 ⊢
  rw [hna]
  clear hw5 hna p0 p1 p2
  refine (compact_pic s.pic _ _ HP4.out.pic Hok.out).mono ?_
  rintro e w6 ⟨⟨Ac, cc, rfl, hc⟩, hB6⟩
  rw [HC1.out] at hc ⊢
  have HK6 := Lib.hid hc
  have hBw6 := below_then hBw4 hB6
  have HP6 := Lib.hid (HP4.out.below hB6)
  have HL6 := Lib.hid (HL4.out.below hB6)
  have HA6 := Lib.hid (HA4.out.below hB6)
  clear HP4 HL4 HA4 hc
  have p0 := HP6.out.c0; have p1 := HP6.out.c1; have p2 := HP6.out.c2
  go_wp2_with fail
  refine (run_pic s.pic c _ Ac cc _ HP6.out.pic Hok.out HK6.out Hcl.out).mono ?_
  rintro e w7 ⟨⟨u, rfl, hu⟩, hB7⟩
  rw [HC2.out] at hu ⊢
  dsimp only at hu ⊢
  have hu := hu.c
  have hu' := hu
  obtain ⟨A2, c2, F2, d2, rfl, -, -⟩ := hu'
  have HB7 := Lib.hid (RBx.new hu)
  have hB7' := below_then hB7 (below_alloc (Below.refl _ w7) (.cells #[.int .i64 sb.pic.size, .slice A2 sb.pic.fixed.length c2, .slice F2 sb.pic.files.length d2] 25))
  have hBw7 := below_then hBw6 hB7'
  have HP7 := Lib.hid (HP6.out.below hB7')
  have HL7 := Lib.hid (HL6.out.below hB7')
  have HA7 := Lib.hid (HA6.out.below hB7')
  clear HP6 HL6 HA6 HK6 p0 p1 p2 hu hB7 hB7'
  go_wp2_with fail
  obtain ⟨nb, hnb⟩ : ∃ nb, w7.heap.size = nb := ⟨_, rfl⟩
  obtain ⟨w8, hw8⟩ : ∃ w8, w7.alloc (.cells #[.int .i64 sb.pic.size, .slice A2 sb.pic.fixed.length c2, .slice F2 sb.pic.files.length d2] 25) = w8 := ⟨_, rfl⟩
  rw [hw8, hnb] at HB7
  rw [hw8] at HP7 HL7 HA7 hBw7 ⊢
  rw [hnb]
  clear hw8 hnb
  have hll := Hll.out; have hcl := Hcl.out; have hsn := Hinv.out.ok.nfil; have hsb := HC3.out.ok.nfil
  go_loopw [13] (fun i wr => ∃ k : Nat, k ≤ s.pic.files.length ∧ i = .int .i64 k ∧ Below w8.heap.size w8 wr) (fun i _ => s.pic.files.length - (intOf i).toNat)
  case atStart => exact ⟨0, by omega, by simp, Below.refl _ _⟩
  case round =>
    obtain ⟨k, hk, rfl, hBr⟩ := hrel
    have HPr := Lib.hid (HP7.out.below hBr)
    have p0 := HPr.out.c0; have p1 := HPr.out.c1; have p2 := HPr.out.c2
    by_cases hlt : k < s.pic.files.length
    · have HAr := Lib.hid (HA7.out.below hBr)
      have HLr := Lib.hid (HL7.out.below hBr)
      obtain ⟨b, o, A', c', hFa, g0, g1, -⟩ := HPr.out.fil k hlt
      subst hFa
      have hD := HD5.out k hlt
      have hfp := fragN_of Hinv.out hlt
      obtain ⟨hka, hkan⟩ := nos_get HD4.out hlt
      have hfa := fragN_of HD3.out hka
      rw [hkan] at hfa
      obtain ⟨no, hno⟩ : ∃ no, s.pic.files[k].no = no := ⟨_, rfl⟩
      rw [hno] at g0 hfp hfa hD
      obtain ⟨n, hn⟩ : ∃ n, fragL (-1) (runsOf s.pic.files k) = n := ⟨_, rfl⟩
      obtain ⟨m, hm⟩ : ∃ m, fragL (-1) (runsOf sa.pic.files k) = m := ⟨_, rfl⟩
      rw [hn] at hfp hD
      rw [hm] at hfa hD
      have Hfp := Lib.hid hfp; have Hfa := Lib.hid hfa; have HDk := Lib.hid hD
      clear hno hn hm hfp hfa hD hkan hka
      go_wp2_with fail
      refine (fragments_pic s.pic no _ _ HPr.out.pic Hok.out).mono ?_
      rintro e x1 ⟨rfl, hx1⟩
      rw [Hfp.out]
      dsimp only
      have HAx := Lib.hid (HAr.out.below hx1)
      have HLx := Lib.hid (HLr.out.below hx1)
      have hBx1 := below_then hBr hx1
      clear HAr HLr p0 p1 p2 g0 g1
      have a0 := HAx.out.c0; have a1 := HAx.out.c1; have a2 := HAx.out.c2
      go_wp2_with fail
      refine (fragments_pic sa.pic no _ _ HAx.out.pic HD3.out.picOk).mono ?_
      rintro e x2 ⟨rfl, hx2⟩
      rw [Hfa.out]
      dsimp only
      have HLy := Lib.hid (HLx.out.below hx2)
      have hBx2 := below_then hBx1 hx2
      clear HAx HLx a0 a1 a2 hx1 hBx1
      go_wp2_with fail
      go_loopw [19, 20] (fun h i wx => ∃ (j : Nat) (hb : Bool), j ≤ l.length ∧ i = .int .i64 j ∧ h = .bool hb ∧ Hid (hb = true → ∃ x ∈ l, x.no = no) ∧ wx = x2) (fun _ i _ => l.length - (intOf i).toNat)
      case atStart => exact ⟨0, false, by omega, by simp, rfl, Lib.hid (fun h => by cases h), rfl⟩
      case round =>
        obtain ⟨j, hb, hj, rfl, rfl, HH, rfl⟩ := hrel
        by_cases hlj : j < l.length
        · cases hb with
          | true =>
            go_wp2_with fail
            exact ⟨⟨j + 1, true, by omega, by simp, rfl, HH, (by first | rfl | trivial)⟩, by simp [intOf]; omega⟩
          | false =>
            obtain ⟨b2, o2, hA2, h0, -⟩ := HLy.out j hlj
            subst hA2
            cases hd : (l[j].no == no) with
            | true =>
              have HN : Hid (true = true → ∃ x ∈ l, x.no = no) := Lib.hid (fun _ => ⟨l[j], List.getElem_mem hlj, by simpa using hd⟩)
              go_wp2_with fail
              exact ⟨⟨j + 1, true, by omega, by simp, rfl, HN, (by first | rfl | trivial)⟩, by simp [intOf]; omega⟩
            | false =>
              go_wp2_with fail
              exact ⟨⟨j + 1, false, by omega, by simp, rfl, Lib.hid (fun h => by cases h), (by first | rfl | trivial)⟩, by simp [intOf]; omega⟩
        · obtain rfl : j = l.length := by omega
          have d1 : decide (n < m) = false := by have := HDk.out.1; simp; omega
          cases hb with
          | true =>
            have d2 : (m != 1) = false := by have := HDk.out.2 (HH.out rfl); simpa using this
            go_wp2_with fail
            refine ⟨?AA5, ?BB5⟩
            case BB5 => simp [intOf]; omega
            case AA5 => first | exact ⟨k + 1, by omega, by simp, hBx2⟩ | ((repeat apply Exists.intro); exact ⟨⟨k + 1, by omega, by simp, hBx2⟩, rfl⟩)
          | false =>
            go_wp2_with fail
            refine ⟨?AA6, ?BB6⟩
            case BB6 => simp [intOf]; omega
            case AA6 => first | exact ⟨k + 1, by omega, by simp, hBx2⟩ | ((repeat apply Exists.intro); exact ⟨⟨k + 1, by omega, by simp, hBx2⟩, rfl⟩)
    · obtain rfl : k = s.pic.files.length := by omega
      have hBw9 := below_then hBw7 hBr
      have HB9 := Lib.hid (HB7.out.below hBr)
      clear HD1 HD2 HD3 HD4 HD5 HC1 HC2 HL7 HA7 HP7 HB7 Hll Hcl
      have b0 := HB9.out.c0; have b1 := HB9.out.c1; have b2 := HB9.out.c2
      go_wp2_with fail
      refine (compact_pic sb.pic _ _ HB9.out.pic HC3.out.picOk).mono ?_
      rintro e y1 ⟨⟨Ag, cg, rfl, -⟩, hy1⟩
      rw [HC5.out]
      dsimp only
      have HBa := Lib.hid (HB9.out.below hy1)
      have HPa := Lib.hid (HPr.out.below hy1)
      have hBwa := below_then hBw9 hy1
      clear HB9 HPr b0 b1 b2 p0 p1 p2 hBr
      have b0 := HBa.out.c0; have b1 := HBa.out.c1; have b2 := HBa.out.c2
      go_wp2_with fail
      refine (free_pic sb.pic _ _ HBa.out.pic HC3.out.picOk).mono ?_
      rintro e y2 ⟨⟨Af, kf, rfl, hf⟩, hy2⟩
      have hfe : freeP sb.pic = (freeL sb.tk sb.pic.size.toNat, 0) := by unfold freeP; rw [open_inv HC3.out]
      rw [hfe] at hf ⊢
      dsimp only at hf ⊢
      obtain ⟨room, hroom⟩ : ∃ room, freeL sb.tk sb.pic.size.toNat = room := ⟨_, rfl⟩
      have hrm : ∀ (x : Ext) (r : List Ext), room = x :: r → ∀ f ∈ sb.pic.files, ∀ q ∈ f.runs, 0 ≤ q.to → ¬ x.page < q.to := fun x r hx f hf q hq ht => compact_room HC3.out HC4.out hf hq ht (hroom.trans hx)
      rw [hroom] at hf ⊢
      have Hrm := Lib.hid hrm
      have HFr := Lib.hid hf
      have HBb := Lib.hid (HBa.out.below hy2)
      have HPb := Lib.hid (HPa.out.below hy2)
      have hBwb := below_then hBwa hy2
      clear hrm hroom hf hfe HBa HPa b0 b1 b2 hy1
      have d0 : decide ((0 : Int) < (([] : List Step).length : Int)) = false := by simp
      go_wp2_with fail
      go_loopw [23] (fun i wr => ∃ k : Nat, k ≤ sb.pic.files.length ∧ i = .int .i64 k ∧ Below y2.heap.size y2 wr) (fun i _ => sb.pic.files.length - (intOf i).toNat)
      case atStart => exact ⟨0, by omega, by simp, Below.refl _ _⟩
      case round =>
        obtain ⟨k, hk, rfl, hBr⟩ := hrel
        have HBr := Lib.hid (HBb.out.below hBr)
        have b0 := HBr.out.c0; have b1 := HBr.out.c1; have b2 := HBr.out.c2
        by_cases hlt : k < sb.pic.files.length
        · clear HPb
          have hrn : sb.pic.files[k].runs.length ≤ 1099511627776 := HC3.out.picOk.2.2 _ (List.getElem_mem hlt)
          go_wp2_with fail
          go_loopw [24] (fun i wx => ∃ j : Nat, j ≤ sb.pic.files[k].runs.length ∧ i = .int .i64 j ∧ Below wr.heap.size wr wx) (fun i _ => sb.pic.files[k].runs.length - (intOf i).toNat)
          case atStart => exact ⟨0, by omega, by simp, Below.refl _ _⟩
          case round =>
            obtain ⟨j, hj, rfl, hBx⟩ := hrel
            have HBx := Lib.hid (HBr.out.below hBx)
            have b2 := HBx.out.c2
            obtain ⟨b, o, A', c', hFa, g0, g1, hR⟩ := HBx.out.fil k hlt
            subst hFa
            by_cases hlj : j < sb.pic.files[k].runs.length
            · obtain ⟨b', o', hA', r0, r1⟩ := hR j hlj
              subst hA'
              have hq := Lib.hid (List.getElem_mem hlj)
              have hnf : Hid (0 ≤ sb.pic.files[k].runs[j].to → ∀ (x : Ext) (r : List Ext), room = x :: r → ¬ x.page < sb.pic.files[k].runs[j].to) := Lib.hid (fun ht x r hx => by have := Hrm.out x r hx _ (List.getElem_mem hlt) _ hq.out ht; omega)
              have HFx := Lib.hid (HFr.out.below (below_then hBr hBx))
              obtain ⟨q, hqq⟩ : ∃ q, sb.pic.files[k].runs[j] = q := ⟨_, rfl⟩
              rw [hqq] at r0 r1 hnf
              clear hqq hq
              have hBn := below_alloc hBx (.cells #[.int .i64 q.to, .int .i64 q.many] 52)
              go_wp2_with fail
              obtain ⟨nr, hnr⟩ : ∃ nr, wr.heap.size = nr := ⟨_, rfl⟩
              have hB1 := below_alloc (Below.refl _ wr) (.cells #[.int .i64 q.to, .int .i64 q.many] 52)
              obtain ⟨wy, hwy⟩ : ∃ wy, wr.alloc (.cells #[.int .i64 q.to, .int .i64 q.many] 52) = wy := ⟨_, rfl⟩
              have hbl : wy.heap[nr]? = some (.cells #[.int .i64 q.to, .int .i64 q.many] 52 (0, 0)) := by rw [← hwy, ← hnr]; exact World.alloc_heap_new _ _
              have q0 : wy.cell? ⟨nr, 0, none⟩ = some (.int .i64 q.to) := by simpa using cell_at hbl 0
              rw [hwy] at hB1 hBn ⊢
              rw [hnr]
              have HFy := Lib.hid (HFx.out.below hB1)
              clear hwy hnr hbl HFx HBx b2 g0 g1 r0 r1 b0 b1
              by_cases ht : 0 ≤ q.to
              · have t1 : decide ((0 : Int) ≤ q.to) = true := by simpa using ht
                by_cases hr : 0 < room.length
                · obtain ⟨bf, of, hAf, f0, f1⟩ := HFy.out 0 hr
                  subst hAf
                  have t2 : decide ((0 : Int) < (room.length : Int)) = true := decide_eq_true (by omega)
                  have t3 : decide (room[0].page < q.to) = false := by
                    have := hnf.out ht room[0] room.tail (by cases room with | nil => simp at hr | cons a b => rfl)
                    simpa using this
                  have hr' : (0 : Int) < (room.length : Int) := by omega
                  have f0' : wy.cell? ⟨bf, of, none⟩ = some (.int .i64 room[0].page) := by simpa using f0
                  clear f0 f1
                  obtain ⟨x0, hx0⟩ : ∃ x0, room[0].page = x0 := ⟨_, rfl⟩
                  rw [hx0] at f0' t3
                  clear hx0
                  go_quiet (fail)
                  go_wp2_with fail
                  refine ⟨?AA11, ?BB11⟩
                  case BB11 => simp [intOf]; omega
                  case AA11 => first | exact ⟨j + 1, by omega, by simp, below_dr hBn _⟩ | ((repeat apply Exists.intro); exact ⟨⟨j + 1, by omega, by simp, below_dr hBn _⟩, rfl⟩)
                · have t2 : decide ((0 : Int) < (room.length : Int)) = false := decide_eq_false (by omega)
                  go_quiet (fail)
                  go_wp2_with fail
                  refine ⟨?AA12, ?BB12⟩
                  case BB12 => simp [intOf]; omega
                  case AA12 => first | exact ⟨j + 1, by omega, by simp, below_dr hBn _⟩ | ((repeat apply Exists.intro); exact ⟨⟨j + 1, by omega, by simp, below_dr hBn _⟩, rfl⟩)
              · have t1 : decide ((0 : Int) ≤ q.to) = false := by simpa using ht
                go_quiet (fail)
                go_wp2_with fail
                refine ⟨?AA13, ?BB13⟩
                case BB13 => simp [intOf]; omega
                case AA13 => first | exact ⟨j + 1, by omega, by simp, below_dr hBn _⟩ | ((repeat apply Exists.intro); exact ⟨⟨j + 1, by omega, by simp, below_dr hBn _⟩, rfl⟩)
            · obtain rfl : j = sb.pic.files[k].runs.length := by omega
              go_wp2_with fail
              refine ⟨?AA7, ?BB7⟩
              case BB7 => simp [intOf]; omega
              case AA7 => first | exact ⟨k + 1, by omega, by simp, below_then hBr hBx⟩ | ((repeat apply Exists.intro); exact ⟨⟨k + 1, by omega, by simp, below_then hBr hBx⟩, rfl⟩)
        · obtain rfl : k = sb.pic.files.length := by omega
          have HPc := Lib.hid (HPb.out.below hBr)
          have hBwc := below_then hBwb hBr
          clear HBb HPb HC3 HC4 HC5 Hrm HFr hBr
          have p0 := HPc.out.c0; have p1 := HPc.out.c1; have p2 := HPc.out.c2
          go_wp2_with fail
          refine (shrink_pic s.pic size _ _ HPc.out.pic Hok.out).mono ?_
          rintro e z1 ⟨⟨As, cs, rfl, hs⟩, hz1⟩
          rcases HSr.out with ⟨he, hnil⟩ | ⟨he, d, hd1, hd2, hd3⟩
          · rw [hnil] at hs ⊢
            have d1 : ((shrinkP s.pic size).2 != 0) = true := by simpa using he
            have hBwd := below_then hBwc hz1
            have d2 : (((([] : List Step).length : Nat) : Int) == 0) = true := by simp
            clear HSr hs he hnil
            go_wp2_with fail
            refine (sanity_any _).mono ?_
            rintro e z2 ⟨rfl, hz2⟩
            go_wp2_with fail
            go_ret
            exact ⟨rfl, below_then hBwd hz2⟩
          · rw [he]
            have hSl := runP_len ⟨s, Hs.out⟩ hd1
            obtain ⟨S, hS⟩ : ∃ S, (shrinkP s.pic size).1 = S := ⟨_, rfl⟩
            rw [hS] at hs hd1 hSl ⊢
            have Hd1 := Lib.hid hd1; have Hd2 := Lib.hid hd2; have Hd3 := Lib.hid hd3
            have HSC := Lib.hid hs; have HSl := Lib.hid hSl
            have hBwd := below_then hBwc hz1
            have HPd := Lib.hid (HPc.out.below hz1)
            clear HSr hs he hd1 hd2 hd3 hSl hS HPc p0 p1 p2
            have p0 := HPd.out.c0; have p1 := HPd.out.c1; have p2 := HPd.out.c2
            go_wp2_with fail
            refine (run_pic s.pic S _ As cs _ HPd.out.pic Hok.out HSC.out HSl.out).mono ?_
            rintro e z2 ⟨⟨u, rfl, hu⟩, hz2⟩
            rw [Hd1.out] at hu ⊢
            dsimp only at hu ⊢
            have hu := hu.c
            have hu' := hu
            obtain ⟨A3, c3, F3, d3, rfl, -, -⟩ := hu'
            have HD := Lib.hid (RBx.new hu)
            have hBwe := below_then hBwd (below_then hz2 (below_alloc (Below.refl _ z2) (.cells #[.int .i64 d.pic.size, .slice A3 d.pic.fixed.length c3, .slice F3 d.pic.files.length d3] 25)))
            clear HPd HSC HSl p0 p1 p2 hu hz2
            go_wp2_with fail
            obtain ⟨nd, hnd⟩ : ∃ nd, z2.heap.size = nd := ⟨_, rfl⟩
            obtain ⟨z3, hz3⟩ : ∃ z3, z2.alloc (.cells #[.int .i64 d.pic.size, .slice A3 d.pic.fixed.length c3, .slice F3 d.pic.files.length d3] 25) = z3 := ⟨_, rfl⟩
            rw [hz3, hnd] at HD
            rw [hz3] at hBwe ⊢
            rw [hnd]
            clear hz3 hnd
            have e0 := HD.out.c0; have e1 := HD.out.c1; have e2 := HD.out.c2
            go_wp2_with fail
            refine (resize_pic d.pic size _ _ HD.out.pic Hd2.out.picOk).mono ?_
            rintro e z4 ⟨⟨u4, rfl, -⟩, hz4⟩
            rw [Hd3.out]
            have hBwf := below_then hBwe hz4
            go_wp2_with fail
            refine (sanity_any _).mono ?_
            rintro e z5 ⟨rfl, hz5⟩
            go_wp2_with fail
            go_ret
            exact ⟨rfl, below_then hBwf hz5⟩
end
end Go.Proofs.Yteipclnlfanfeaa
