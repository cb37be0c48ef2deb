/- Reading the arguments of the Move laws: pictures, steps; and the last step of a row where nothing below the heap's old size has turned. -/
import Derived.Test.YteipclnlfanfeaaRows
import Derived.Test.YteipclnlfanfeaaBaseK
import Derived.WalkKit
import Derived.ProofKit
import Derived.OpenShut
import Derived.JoinedCond
import Derived.JoinedOf
import Derived.Handed
import Derived.Carry
import Derived.Below
import Derived.ChangeSame
import Derived.Deep.Slices
import Derived.Deep.Fields
import Derived.Lib.SmallJoins
set_option linter.unusedVariables false
set_option linter.unusedSimpArgs false
namespace Go.Proofs.Yteipclnlfanfeaa
open Go.Joins Go.ChangeShapes Go.WideShapes Go.ChangeAt Go.RowKit Go.Deep

section
variable {H : Type} {enc : TypeId × Value → H} {P : Program} {w : World} {base : Nat} {spare : Nat → Bool} {held : Bool}
theorem open_slice_fields {t e : TypeId} {fs : Array Field} {fuel : Nat} {cs : List Value} {x : DataW H × List MemPlace} (ht : P.underlying t = some (.slice e)) (he : P.underlying e = some (.struct fs))
    (hone : oneCellFields P fs = true) (hC : P.cellsOf e = fs.size) (h : DataW.trod enc P w base spare held fuel t cs = some x) :
    (cs = [.slice none 0 0] ∧ x = (.nil, [])) ∨
    ∃ (a : Addr) (len cap m : Nat) (D : Nat → DataW H) (Pl : Nat → List MemPlace), cs = [.slice (some a) len cap] ∧ base ≤ a.block ∧ len ≤ cap ∧ cap ≤ maxLen ∧ m = (if spare a.block then cap else len) ∧
      x = (.slice ((List.range len).map D) ((List.range (m - len)).map fun j => D (len + j)), MemPlace.row a (m * fs.size) ++ (List.range m).flatMap Pl) ∧
      ∀ i, i < m → ∃ (ys : List (DataW H × List MemPlace)) (n : Nat), D i = .agg (ys.map (·.1)) ∧ Pl i = ys.flatMap (·.2) ∧ ys.length = fs.size ∧
        ∀ (j : Nat) (f : Field), fs[j]? = some f → ∃ (v : Value) (y : DataW H × List MemPlace), w.cell? (a.add (i * fs.size + j)) = some v ∧ ys[j]? = some y ∧ DataW.trod enc P w base spare held n f.type [v] = some y := by
  rcases open_slice ht h with h0 | ⟨a, len, cap, m, n, D, Pl, hcs, hb, hl, hm, hmm, hx, hi⟩
  · exact .inl h0
  · refine .inr ⟨a, len, cap, m, D, Pl, hcs, hb, hl, hm, hmm, by rw [hC] at hx; exact hx, fun i him => ?_⟩
    obtain ⟨cs', hc, ht'⟩ := hi i him
    rw [hC] at hc
    obtain ⟨ys, n', hn', hy, hlen, hyl, hf⟩ := DataW.trod_struct he ht'
    obtain ⟨_, hcl, hat⟩ := World.cells?_some hc
    simp only [Prod.mk.injEq] at hy
    refine ⟨ys, n', hy.1, hy.2, hyl, fun j f hj => ?_⟩
    obtain ⟨ho, hk⟩ := hone_of hone j f hj
    have hjl : j < fs.size := (Array.getElem?_eq_some_iff.1 hj).1
    have hcell := hat j hjl
    have hv : cs'[j]? = some (cs'[j]'(by omega)) := List.getElem?_eq_getElem (by omega)
    have h1 := hf j f hj
    rw [ho, hk] at h1
    have hone' : (cs'.drop j).take 1 = [cs'[j]'(by omega)] := by
      rw [List.drop_eq_getElem_cons (by omega)]
      rfl
    rw [hone'] at h1
    have hys : ys[j]? = some (ys[j]'(by omega)) := List.getElem?_eq_getElem (by omega)
    refine ⟨_, _, ?_, hys, h1.trans hys⟩
    rw [← Go.Deep.add_add, hcell, hv]
end

section
variable {H : Type} {enc : TypeId × Value → H} {P : Program}
theorem post_of_below {f : Func} {s : ChangeSpec} {apart fresh handsOn again : Bool} {W W' : World} {args : Array Value} {v : Value} {ds gs : List (DataW H)} {before pa pv : List MemPlace}
    (hW : DataW.Whole enc P f.params.toList s.vars apart W args.toList ds gs before)
    (hres : ∀ (b : Nat) (sp : Nat → Bool) (hd : Bool), DataW.TrodAll enc P W' b sp hd f.resultTypes.toList (v.resultList f.resultTypes.size) (s.fn H (ds ++ gs)).results [])
    (hargs : ∀ sp : Nat → Bool, (∀ p ∈ before, sp p.block = true) → DataW.TrodAll enc P W' 0 sp true f.params.toList args.toList (s.fn H (ds ++ gs)).args pa)
    (hvars : ∀ sp : Nat → Bool, (∀ p ∈ before, sp p.block = true) → DataW.TrodVars enc P W' sp s.vars (s.fn H (ds ++ gs)).vars pv)
    (hps : before = pa ++ pv) (hb : Below W.heap.size W W')
    (hok : ∀ (j : Nat) (t : TypeId) (r : Value), f.resultTypes[j]? = some t → (v.resultList f.resultTypes.size)[j]? = some r → Value.okWide P W' .any 0 t r) :
    s.post enc P f apart fresh handsOn again W args v W' := by
  have hlt : ∀ p ∈ before, p.block < W.heap.size := fun p hp => hW.lt p hp
  have hold : ∀ p ∈ before, (fun b => decide (b < W.heap.size)) p.block = true := fun p hp => by simpa using hlt p hp
  refine ⟨ds, gs, before, [], pa, pv, hW, hres _ _ _, hargs _ hold, hvars _ hold, World.keptBut_mono (fun p hp => ⟨hp, ?_⟩) (hb.frame (· ∈ before)), fun _ => ?_⟩
  · rw [hps, List.mem_append] at hp
    exact Or.inr hp
  · obtain ⟨_, _, _, _, _, hz, hn⟩ := hW
    refine ⟨hok, _, _, ([] ++ pa) ++ pv, ⟨[] ++ pa, pv, trodAll_append (hargs _ (fun _ _ => rfl)) (hres _ _ _), hvars _ (fun _ _ => rfl), rfl, ?_, ?_⟩, ?_⟩
    · intro b off hp
      have hin : MemPlace.cell b off ∈ before := by rw [hps]; simpa using hp
      rw [hb.frozen (hlt _ hin)]
      exact hz b off hin
    · intro ha
      have := hn ha
      rw [hps] at this
      simpa using this
    · intro p hp _
      rw [hps]
      simpa using hp
end

section
variable {H : Type} {enc : TypeId × Value → H} {w : World} {base : Nat} {spare : Nat → Bool} {held : Bool}
theorem at_spot {a : Addr} {v : Value} (h : w.cell? (a.add (0 * 2 + 0)) = some v) : a = ⟨a.block, a.off, none⟩ := by
  have := World.cell?_spot h
  obtain ⟨b, o, s⟩ := a
  simp [Addr.add] at this
  subst this
  rfl
theorem add_is {b o k : Nat} : Addr.add ⟨b, o, none⟩ k = ⟨b, o + k, none⟩ := by
  unfold Addr.add
  split
  · rename_i h; subst h; rfl
  · rfl
theorem reads_runs {n : Nat} {v : Value} {x : DataW H × List MemPlace} (h : DataW.trod enc Try.prog w base spare held n 44 [v] = some x) : ∃ A c l, v = .slice A l.length c ∧ RunsC w A l := by
  rcases open_slice_fields Try.underlying44 Try.underlying52 (by kernel_rfl) (by kernel_rfl) h with ⟨h0, -⟩ | ⟨a, len, cap, m, D, Pl, hcs, -, hl, -, hm, -, hf⟩
  · cases h0; exact ⟨none, 0, [], rfl, fun k hk => absurd hk (by simp)⟩
  cases hcs
  have hlm : len ≤ m := by subst hm; split <;> omega
  have key : ∀ i, ∃ e : Run, i < len → w.cell? (a.add (i * 2 + 0)) = some (.int .i64 e.to) ∧ w.cell? (a.add (i * 2 + 1)) = some (.int .i64 e.many) := by
    intro i
    by_cases hi : i < len
    · obtain ⟨ys, n', -, -, -, hg⟩ := hf i (by omega)
      obtain ⟨v0, y0, hc0, -, ht0⟩ := hg 0 _ rfl
      obtain ⟨v1, y1, hc1, -, ht1⟩ := hg 1 _ rfl
      obtain ⟨n0, e0, -⟩ := DataW.trod_int Try.underlying3 ht0
      obtain ⟨n1, e1, -⟩ := DataW.trod_int Try.underlying3 ht1
      cases e0; cases e1
      exact ⟨⟨n0, n1⟩, fun _ => ⟨hc0, hc1⟩⟩
    · exact ⟨⟨0, 0⟩, fun h => absurd h hi⟩
  obtain ⟨E, hE⟩ := Classical.axiomOfChoice key
  refine ⟨some a, cap, (List.range len).map E, by simp, fun k hk => ?_⟩
  have hk' : k < len := by simpa using hk
  obtain ⟨h0, h1⟩ := hE k hk'
  have ea := at_spot (hE 0 (by omega)).1
  obtain ⟨b, o, sp⟩ := a
  cases ea
  refine ⟨b, o, rfl, ?_, ?_⟩
  · simpa [add_is] using h0
  · simpa [add_is, Nat.add_assoc] using h1
theorem reads_exts {n : Nat} {v : Value} {x : DataW H × List MemPlace} (h : DataW.trod enc Try.prog w base spare held n 22 [v] = some x) : ∃ A c l, v = .slice A l.length c ∧ ExtC w A l := by
  rcases open_slice_fields Try.underlying22 Try.underlying54 (by kernel_rfl) (by kernel_rfl) h with ⟨h0, -⟩ | ⟨a, len, cap, m, D, Pl, hcs, -, hl, -, hm, -, hf⟩
  · cases h0; exact ⟨none, 0, [], rfl, fun k hk => absurd hk (by simp)⟩
  cases hcs
  have hlm : len ≤ m := by subst hm; split <;> omega
  have key : ∀ i, ∃ e : Ext, i < len → w.cell? (a.add (i * 2 + 0)) = some (.int .i64 e.page) ∧ w.cell? (a.add (i * 2 + 1)) = some (.int .i64 e.many) := by
    intro i
    by_cases hi : i < len
    · obtain ⟨ys, n', -, -, -, hg⟩ := hf i (by omega)
      obtain ⟨v0, y0, hc0, -, ht0⟩ := hg 0 _ rfl
      obtain ⟨v1, y1, hc1, -, ht1⟩ := hg 1 _ rfl
      obtain ⟨n0, e0, -⟩ := DataW.trod_int Try.underlying3 ht0
      obtain ⟨n1, e1, -⟩ := DataW.trod_int Try.underlying3 ht1
      cases e0; cases e1
      exact ⟨⟨n0, n1⟩, fun _ => ⟨hc0, hc1⟩⟩
    · exact ⟨⟨0, 0⟩, fun h => absurd h hi⟩
  obtain ⟨E, hE⟩ := Classical.axiomOfChoice key
  refine ⟨some a, cap, (List.range len).map E, by simp, fun k hk => ?_⟩
  have hk' : k < len := by simpa using hk
  obtain ⟨h0, h1⟩ := hE k hk'
  have ea := at_spot (hE 0 (by omega)).1
  obtain ⟨b, o, sp⟩ := a
  cases ea
  refine ⟨b, o, rfl, ?_, ?_⟩
  · simpa [add_is] using h0
  · simpa [add_is, Nat.add_assoc] using h1
theorem reads_fils {n : Nat} {v : Value} {x : DataW H × List MemPlace} (h : DataW.trod enc Try.prog w base spare held n 23 [v] = some x) : ∃ A c l, v = .slice A l.length c ∧ FilC w A l := by
  rcases open_slice_fields Try.underlying23 Try.underlying46 (by kernel_rfl) (by kernel_rfl) h with ⟨h0, -⟩ | ⟨a, len, cap, m, D, Pl, hcs, -, hl, -, hm, -, hf⟩
  · cases h0; exact ⟨none, 0, [], rfl, fun k hk => absurd hk (by simp)⟩
  cases hcs
  have hlm : len ≤ m := by subst hm; split <;> omega
  have key : ∀ i, ∃ e : Fil, i < len → w.cell? (a.add (i * 2 + 0)) = some (.int .i64 e.no) ∧ ∃ A c, w.cell? (a.add (i * 2 + 1)) = some (.slice A e.runs.length c) ∧ RunsC w A e.runs := by
    intro i
    by_cases hi : i < len
    · obtain ⟨ys, n', -, -, -, hg⟩ := hf i (by omega)
      obtain ⟨v0, y0, hc0, -, ht0⟩ := hg 0 _ rfl
      obtain ⟨v1, y1, hc1, -, ht1⟩ := hg 1 _ rfl
      obtain ⟨n0, e0, -⟩ := DataW.trod_int Try.underlying3 ht0
      obtain ⟨A, c, l, rfl, hr⟩ := reads_runs ht1
      cases e0
      exact ⟨⟨n0, l⟩, fun _ => ⟨hc0, A, c, hc1, hr⟩⟩
    · exact ⟨⟨0, []⟩, fun h => absurd h hi⟩
  obtain ⟨E, hE⟩ := Classical.axiomOfChoice key
  refine ⟨some a, cap, (List.range len).map E, by simp, fun k hk => ?_⟩
  have hk' : k < len := by simpa using hk
  obtain ⟨h0, A, c, h1, hr⟩ := hE k hk'
  have ea := at_spot (hE 0 (by omega)).1
  obtain ⟨b, o, sp⟩ := a
  cases ea
  refine ⟨b, o, A, c, rfl, ?_, ?_, ?_⟩
  · simpa [add_is] using h0
  · simpa [add_is, Nat.add_assoc] using h1
  · simpa using hr
set_option maxRecDepth 100000 in
theorem reads_pic {r : Reach} {b0 : Nat} {v : Value} {d : DataW H} {p : List MemPlace} (hv : Value.okWide Try.prog w r b0 25 v) (h : DataW.Trod enc Try.prog w base spare held 25 v d p) : ∃ q : Pic, PicC w v q := by
  obtain ⟨v0, v1, v2, y0, y1, y2, n, rfl, -, -, h0, h1, h2⟩ := open_agg3 Try.underlying25 (by kernel_rfl) (by kernel_rfl) hv h
  obtain ⟨n0, e0, -⟩ := DataW.trod_int Try.underlying3 h0
  cases e0
  obtain ⟨Ax, cx, fx, rfl, hx⟩ := reads_exts h1
  obtain ⟨Fa, cf, fs, rfl, hf⟩ := reads_fils h2
  exact ⟨⟨n0, fx, fs⟩, Ax, cx, Fa, cf, rfl, hx, hf⟩
set_option maxRecDepth 100000 in
theorem reads_step {r : Reach} {b0 : Nat} {v : Value} {d : DataW H} {p : List MemPlace} (hv : Value.okWide Try.prog w r b0 35 v) (h : DataW.Trod enc Try.prog w base spare held 35 v d p) : ∃ x : Step, v = vSt x := by
  obtain ⟨v0, v1, v2, v3, y0, y1, y2, y3, n, rfl, -, -, h0, h1, h2, h3⟩ := open_agg4 Try.underlying35 (by kernel_rfl) (by kernel_rfl) hv h
  obtain ⟨n0, e0, -⟩ := DataW.trod_int Try.underlying3 h0
  obtain ⟨n1, e1, -⟩ := DataW.trod_int Try.underlying3 h1
  obtain ⟨n2, e2, -⟩ := DataW.trod_int Try.underlying3 h2
  obtain ⟨n3, e3, -⟩ := DataW.trod_int Try.underlying3 h3
  cases e0; cases e1; cases e2; cases e3
  exact ⟨⟨n0, n1, n2, n3⟩, rfl⟩
end
theorem try_laid : laidOutB Try.prog = true := by kernel_rfl
theorem try_own : ownKnob Try.prog.godebug = none := by kernel_rfl

theorem trodAll_stays {H : Type} {enc : TypeId × Value → H} {W W' : World} (hb : Below W.heap.size W W') {sp : Nat → Bool} : ∀ {ts : List TypeId} {vs : List Value} {ds : List (DataW H)} {ps : List MemPlace},
    (∀ t ∈ ts, Try.prog.readableRec t = true ∧ t < Try.prog.types.size) → DataW.TrodAll enc Try.prog W 0 (fun _ => true) true ts vs ds ps → (∀ p ∈ ps, p.block < W.heap.size) → (∀ p ∈ ps, sp p.block = true) →
    DataW.TrodAll enc Try.prog W' 0 sp true ts vs ds ps
  | [], vs, ds, ps, _, h, _, _ => by
    obtain ⟨rfl, rfl, rfl⟩ := trodAll_nil h
    exact trodAll_mk0
  | t :: ts, vs, ds, ps, hr, h, hlt, hs => by
    obtain ⟨v, vs', d, ds', p, q, rfl, rfl, rfl, h0, h1⟩ := trodAll_cons h
    refine trodAll_cons_mk ?_ (trodAll_stays hb (fun t ht => hr t (List.mem_cons_of_mem _ ht)) h1 (fun x hx => hlt x (List.mem_append_right _ hx)) (fun x hx => hs x (List.mem_append_right _ hx)))
    exact WideElems.Trod_stays try_laid (hr t List.mem_cons_self).1 (hr t List.mem_cons_self).2 h0 (fun x hx => hb.same (hlt x (List.mem_append_left _ hx))) (fun x hx => hs x (List.mem_append_left _ hx))

set_option maxRecDepth 100000 in
/-- a row that says 'true; the input reads as it did' -/
theorem row_true {H : Type} {enc : TypeId × Value → H} {f : Func} {s : ChangeSpec} {apart fresh handsOn again : Bool} {W W' : World} {args : Array Value} {ds gs : List (DataW H)} {before : List MemPlace}
    (hvs : s.vars = []) (hrt : f.resultTypes = #[4]) (hread : ∀ t ∈ f.params.toList, Try.prog.readableRec t = true ∧ t < Try.prog.types.size)
    (hW : DataW.Whole enc Try.prog f.params.toList s.vars apart W args.toList ds gs before)
    (h1 : (s.fn H (ds ++ gs)).results = [.lit (.bool true)]) (h2 : (s.fn H (ds ++ gs)).args = ds) (h3 : (s.fn H (ds ++ gs)).vars = []) (hb : Below W.heap.size W W') :
    s.post enc Try.prog f apart fresh handsOn again W args (.bool true) W' := by
  have hW' := hW
  obtain ⟨p, q, hA, hV, rfl, -, -⟩ := hW
  rw [hvs] at hV
  obtain ⟨rfl, rfl⟩ := trodVars_none hV
  have hlt : ∀ x ∈ p ++ [], x.block < W.heap.size := fun x hx => hW'.lt x hx
  refine post_of_below (pa := p) (pv := []) hW' ?_ ?_ ?_ rfl hb ?_
  · intro b sp hd
    rw [h1, hrt]
    exact trodAll_cons_mk (shut_bool Try.underlying4 true) trodAll_mk0
  · intro sp hsp
    rw [h2]
    exact trodAll_stays hb hread hA (fun x hx => hlt x (by simpa using hx)) (fun x hx => hsp x (by simpa using hx))
  · intro sp _
    rw [h3, hvs]
    rfl
  · exact ok_one hrt rfl (okWide_bool_mk Try.underlying4 true)
end Go.Proofs.Yteipclnlfanfeaa
