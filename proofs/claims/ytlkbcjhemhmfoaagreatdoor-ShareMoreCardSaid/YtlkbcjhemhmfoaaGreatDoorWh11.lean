/- The statement ShareMore: with more water no right is promised less; no conditions. What a call of it does. -/
import Derived.Test.YtlkbcjhemhmfoaaGreatDoorWg0
import Derived.Test.YtlkbcjhemhmfoaaGreatDoorWt11
set_option linter.unusedSimpArgs false
set_option linter.unusedVariables false
namespace Go.Proofs.YtlkbcjhemhmfoaaGreatDoor.fnMore
open Go Go.AM Go.Proofs Go.ChangeShapes Go.WideShapes Go.ChangeAt Go.RowKit
set_option maxRecDepth 100000

theorem contract (hB : EnvOK Tryz.prog envB) (H0 : Type) (enc : TypeId × Value → H0) (W : World) (base : Nat) (args : Array Value) (ds gs : List (DataW H0)) (before : List MemPlace)
    (hval : ∀ (j : Nat) t v, Tryz.f11.params[j]? = some t → args[j]? = some v → Value.okWide Tryz.prog W .any base t v)
    (hW : DataW.Whole enc Tryz.prog Tryz.f11.params.toList Rows.shareMoreSpec.vars false W args.toList ds gs before) (hL : laidMetH Tryz.prog Rows.shareMoreRow.laid W) :
    Calls Tryz.prog 11 args W fun e W' => ∃ v, e = .returned v ∧ Rows.shareMoreSpec.post enc Tryz.prog Tryz.f11 false true false false W args v W' := by
  have hC : HasCells W := hasCells hL
  have hW' := hW
  obtain ⟨p, q, hA0, hV, rfl, hfz, hnd⟩ := hW
  have hA : DataW.TrodAll enc Tryz.prog W 0 (fun _ => true) true [26, 27, 3, 3, 4] args.toList ds p := hA0
  obtain ⟨v0, vs0, d0, ds0, p0, q0, hargs, rfl, rfl, h0, r0⟩ := trodAll_cons hA
  obtain ⟨v1, vs1, d1, ds1, p1, q1, rfl, rfl, rfl, h1, r1⟩ := trodAll_cons r0
  obtain ⟨v2, vs2, d2, ds2, p2, q2, rfl, rfl, rfl, h2, r2⟩ := trodAll_cons r1
  obtain ⟨v3, vs3, d3, ds3, p3, q3, rfl, rfl, rfl, h3, r3⟩ := trodAll_cons r2
  obtain ⟨v4, vs4, d4, ds4, p4, q4, rfl, rfl, rfl, h4, r4⟩ := trodAll_cons r3
  obtain ⟨rfl, rfl, rfl⟩ := trodAll_nil r4
  obtain rfl : args = #[v0, v1, v2, v3, v4] := by
    apply Array.ext'
    simpa using hargs
  obtain ⟨rfl, rfl⟩ := trodVars_none hV
  obtain ⟨cs0, rfl, hs0⟩ := okWide_struct Tryz.underlying26 (hval 0 26 v0 rfl rfl)
  obtain ⟨s0a, s0b, s0c, rfl, rs, ss, po, oa, ob, oc, ia, ib, ic, Aa, Ab, Ac⟩ := share_trod hC h0 hs0
  obtain ⟨xs1, o1, i1, A1⟩ := ints_trod hC (okWide_slice Tryz.underlying27 (hval 1 27 v1 rfl rfl)) h1
  obtain ⟨n2, rfl⟩ := okWide_int Tryz.underlying3 (hval 2 3 v2 rfl rfl)
  obtain ⟨n3, rfl⟩ := okWide_int Tryz.underlying3 (hval 3 3 v3 rfl rfl)
  obtain ⟨n4, rfl⟩ := okWide_bool Tryz.underlying4 (hval 4 4 v4 rfl rfl)
  have kAa := Aa.sc (r := [oa, ob, oc, o1]) (info := fun i => match i with | 0 => ia | 1 => ib | 2 => ic | _ => i1) (j := 0) rfl rfl
  have kAb := Ab.sc (r := [oa, ob, oc, o1]) (info := fun i => match i with | 0 => ia | 1 => ib | 2 => ic | _ => i1) (j := 1) rfl rfl
  have kAc := Ac.sc (r := [oa, ob, oc, o1]) (info := fun i => match i with | 0 => ia | 1 => ib | 2 => ic | _ => i1) (j := 2) rfl rfl
  have kA1 := A1.sc (r := [oa, ob, oc, o1]) (info := fun i => match i with | 0 => ia | 1 => ib | 2 => ic | _ => i1) (j := 3) rfl rfl
  have hwalk := law_run hB (r := [oa, ob, oc, o1]) (args := [.agg [.sl (some (0, 0)) rs.length false 7, .sl (some (1, 0)) ss.length false 3, .sl (some (2, 0)) po.length false 2], .one (.sl (some (3, 0)) xs1.length false 1), .one (.int .i64 n2), .one (.int .i64 n3), .one (.bool n4)]) (args' := [.agg [slR oa 0 rs.length 7, slR ob 1 ss.length 3, slR oc 2 po.length 2], .one (slR o1 3 xs1.length 1), .one (.int .i64 n2), .one (.int .i64 n3), .one (.bool n4)]) (vs := #[.agg #[s0a, s0b, s0c], v1, .int .i64 n2, .int .i64 n3, .bool n4]) (by
      show Ct0 envB 11 _ [⟨0, false, none, .raw (oa.getD [])⟩, ⟨1, false, none, .raw (ob.getD [])⟩, ⟨2, false, none, .raw (oc.getD [])⟩, ⟨3, false, none, .raw (o1.getD [])⟩] 4 _
      rw [Aa.getD, Ab.getD, Ac.getD, A1.getD]
      exact c_shareMore rs ss po xs1 n2 n3 n4 false false false false) ⟨⟨_, rfl, kAa.1, kAb.1, kAc.1, trivial⟩, ⟨_, rfl, kA1.1⟩, RAV.of_flat rfl, RAV.of_flat rfl, RAV.of_flat rfl, trivial⟩ (fun i => match i with | 0 => ia | 1 => ib | 2 => ic | _ => i1) (fun i l hi => by
      match i, hi with
      | 0, hi => exact Aa.lies (by simpa using hi) _
      | 1, hi => exact Ab.lies (by simpa using hi) _
      | 2, hi => exact Ac.lies (by simpa using hi) _
      | 3, hi => exact A1.lies (by simpa using hi) _
      | i + 4, hi => simp at hi) ⟨⟨_, rfl, kAa.2, kAb.2, kAc.2, trivial⟩, kA1.2, rfl, rfl, rfl, trivial⟩
  refine hwalk.mono fun e W' ⟨he, hg⟩ => ?_
  subst he
  exact ⟨_, rfl, post_true rfl rfl (by
    intro t ht
    have ht : t ∈ [26, 27, 3, 3, 4] := ht
    simp only [List.mem_cons, List.not_mem_nil, or_false] at ht
    rcases ht with rfl | rfl | rfl | rfl | rfl
    · exact ⟨by kernel_rfl, of_decide_eq_true (by kernel_rfl)⟩
    · exact ⟨by kernel_rfl, of_decide_eq_true (by kernel_rfl)⟩
    · exact ⟨by kernel_rfl, of_decide_eq_true (by kernel_rfl)⟩
    · exact ⟨by kernel_rfl, of_decide_eq_true (by kernel_rfl)⟩
    · exact ⟨by kernel_rfl, of_decide_eq_true (by kernel_rfl)⟩) hW' rfl hg⟩

noncomputable def wArgs : Array Value := #[.agg #[.slice none 0 0, .slice none 0 0, .slice none 0 0], .slice none 0 0, .int .i64 0, .int .i64 0, .bool false]
theorem laid_met (os : Os) : laidMet Tryz.prog Rows.shareMoreRow.laid ((laidWorld os).forCall (fun _ _ => 0) ⟨#[], wArgs, []⟩).memory :=
  laidMet_of_run' 8 (by kernel_rfl) (by kernel_rfl)
theorem reads (os : Os) {H : Type} (enc : TypeId × Value → H) : ∃ ds places, DataW.whole enc Tryz.prog ((laidWorld os).forCall (fun _ _ => 0) ⟨#[], wArgs, []⟩).memory Tryz.f11.params.toList Rows.shareMoreSpec.vars false wArgs.toList 8 = some (ds, [], places) :=
  ⟨[.agg [.nil, .nil, .nil], .nil, .lit (.int .i64 0), .lit (.int .i64 0), .lit (.bool false)], [], by kernel_rfl⟩

theorem lifted (hB : EnvOK Tryz.prog envB) (os : Os) (started : os.Started) (H : Type) (enc : TypeId × Value → H) (F : Stop.Interp) :
    ReturnsInHanded {} Tryz.checked os 11 .any ((OpenSpec.ofChange Rows.shareMoreSpec).preRow enc Tryz.prog Tryz.f11 Rows.shareMoreRow.domain false Rows.shareMoreRow.laid) (((OpenSpec.ofChange Rows.shareMoreSpec).at F).post enc Tryz.prog Tryz.f11 false true false false) := by
  obtain ⟨ds, places, hx⟩ := reads os enc
  refine returnsInHanded_of_row (C := Tryz.checked) (s := OpenSpec.ofChange Rows.shareMoreSpec) own started (by kernel_rfl) Tryz.func11
    (witness_row_at (enc := enc) (C := Tryz.checked) false (laidWorld os) wArgs rfl (by kernel_rfl) (by kernel_rfl) (by kernel_rfl)
      (OpenSpec.preRow_of_cond 8 hx (by kernel_rfl) (fun k hk => by cases hk) (by kernel_rfl) (laid_met os))) ?_
  intro W base args ds gs before hval hW _ _ _ hL _ _
  exact contract hB H enc W base args ds gs before hval hW hL

theorem plain (f : FuncId) (fn : Func) (hf : Tryz.pinned.checked.prog.funcNamed "snowline/snowlinelaw08.ShareMore" = some f) (hfn : Tryz.pinned.checked.prog.funcs[f]? = some fn) :
    true = Tryz.pinned.checked.prog.looks [] ∧ ∀ (j : Nat) t, fn.params[j]? = some t → Tryz.pinned.checked.prog.wantsStandIn t = false := by
  obtain rfl : f = 11 := Option.some.inj ((show Tryz.prog.funcNamed "snowline/snowlinelaw08.ShareMore" = some 11 by kernel_rfl).symm.trans hf) |>.symm
  obtain rfl : fn = Tryz.f11 := (Option.some.inj (Tryz.func11.symm.trans hfn)).symm
  refine ⟨by kernel_rfl, fun j t ht => ?_⟩
  have ht : #[26, 27, 3, 3, 4][j]? = some t := ht
  have ht : t ∈ #[26, 27, 3, 3, 4] := Array.mem_of_getElem? ht
  simp only [List.mem_toArray, List.mem_cons, List.not_mem_nil, or_false] at ht
  rcases ht with rfl | rfl | rfl | rfl | rfl
  · exact (show Tryz.prog.wantsStandIn 26 = false by kernel_rfl)
  · exact (show Tryz.prog.wantsStandIn 27 = false by kernel_rfl)
  · exact (show Tryz.prog.wantsStandIn 3 = false by kernel_rfl)
  · exact (show Tryz.prog.wantsStandIn 3 = false by kernel_rfl)
  · exact (show Tryz.prog.wantsStandIn 4 = false by kernel_rfl)
end Go.Proofs.YtlkbcjhemhmfoaaGreatDoor.fnMore
