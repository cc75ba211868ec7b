/- The statement ShareNeeded: what Need returns is enough, and not too much; no conditions. What a call of it does. -/
import Derived.Test.YtlkbcjhemhmfoaaGreatDoorWg0
import Derived.Test.YtlkbcjhemhmfoaaGreatDoorWt6
set_option linter.unusedSimpArgs false
set_option linter.unusedVariables false
namespace Go.Proofs.YtlkbcjhemhmfoaaGreatDoor.fnNeeded
open Go Go.AM Go.Proofs Go.ChangeShapes Go.WideShapes Go.ChangeAt Go.RowKit
set_option maxRecDepth 100000

theorem contract (hB : EnvOK Tryz.prog envB) (H0 : Type) (enc : TypeId × Value → H0) (W : World) (base : Nat) (args : Array Value) (ds gs : List (DataW H0)) (before : List MemPlace)
    (hval : ∀ (j : Nat) t v, Tryz.f6.params[j]? = some t → args[j]? = some v → Value.okWide Tryz.prog W .any base t v)
    (hW : DataW.Whole enc Tryz.prog Tryz.f6.params.toList Rows.shareNeededSpec.vars false W args.toList ds gs before) (hL : laidMetH Tryz.prog Rows.shareNeededRow.laid W) :
    Calls Tryz.prog 6 args W fun e W' => ∃ v, e = .returned v ∧ Rows.shareNeededSpec.post enc Tryz.prog Tryz.f6 false true false false W args v W' := by
  have hC : HasCells W := hasCells hL
  have hW' := hW
  obtain ⟨p, q, hA0, hV, rfl, hfz, hnd⟩ := hW
  have hA : DataW.TrodAll enc Tryz.prog W 0 (fun _ => true) true [26, 3, 3, 3] args.toList ds p := hA0
  obtain ⟨v0, vs0, d0, ds0, p0, q0, hargs, rfl, rfl, h0, r0⟩ := trodAll_cons hA
  obtain ⟨v1, vs1, d1, ds1, p1, q1, rfl, rfl, rfl, h1, r1⟩ := trodAll_cons r0
  obtain ⟨v2, vs2, d2, ds2, p2, q2, rfl, rfl, rfl, h2, r2⟩ := trodAll_cons r1
  obtain ⟨v3, vs3, d3, ds3, p3, q3, rfl, rfl, rfl, h3, r3⟩ := trodAll_cons r2
  obtain ⟨rfl, rfl, rfl⟩ := trodAll_nil r3
  obtain rfl : args = #[v0, v1, v2, v3] := by
    apply Array.ext'
    simpa using hargs
  obtain ⟨rfl, rfl⟩ := trodVars_none hV
  obtain ⟨cs0, rfl, hs0⟩ := okWide_struct Tryz.underlying26 (hval 0 26 v0 rfl rfl)
  obtain ⟨s0a, s0b, s0c, rfl, rs, ss, po, oa, ob, oc, ia, ib, ic, Aa, Ab, Ac⟩ := share_trod hC h0 hs0
  obtain ⟨n1, rfl⟩ := okWide_int Tryz.underlying3 (hval 1 3 v1 rfl rfl)
  obtain ⟨n2, rfl⟩ := okWide_int Tryz.underlying3 (hval 2 3 v2 rfl rfl)
  obtain ⟨n3, rfl⟩ := okWide_int Tryz.underlying3 (hval 3 3 v3 rfl rfl)
  have kAa := Aa.sc (r := [oa, ob, oc]) (info := fun i => match i with | 0 => ia | 1 => ib | _ => ic) (j := 0) rfl rfl
  have kAb := Ab.sc (r := [oa, ob, oc]) (info := fun i => match i with | 0 => ia | 1 => ib | _ => ic) (j := 1) rfl rfl
  have kAc := Ac.sc (r := [oa, ob, oc]) (info := fun i => match i with | 0 => ia | 1 => ib | _ => ic) (j := 2) rfl rfl
  have hwalk := law_run hB (r := [oa, ob, oc]) (args := [.agg [.sl (some (0, 0)) rs.length false 7, .sl (some (1, 0)) ss.length false 3, .sl (some (2, 0)) po.length false 2], .one (.int .i64 n1), .one (.int .i64 n2), .one (.int .i64 n3)]) (args' := [.agg [slR oa 0 rs.length 7, slR ob 1 ss.length 3, slR oc 2 po.length 2], .one (.int .i64 n1), .one (.int .i64 n2), .one (.int .i64 n3)]) (vs := #[.agg #[s0a, s0b, s0c], .int .i64 n1, .int .i64 n2, .int .i64 n3]) (by
      show Ct0 envB 6 _ [⟨0, false, none, .raw (oa.getD [])⟩, ⟨1, false, none, .raw (ob.getD [])⟩, ⟨2, false, none, .raw (oc.getD [])⟩] 3 _
      rw [Aa.getD, Ab.getD, Ac.getD]
      exact c_shareNeeded rs ss po n1 n2 n3 false false false) ⟨⟨_, rfl, kAa.1, kAb.1, kAc.1, trivial⟩, RAV.of_flat rfl, RAV.of_flat rfl, RAV.of_flat rfl, trivial⟩ (fun i => match i with | 0 => ia | 1 => ib | _ => ic) (fun i l hi => by
      match i, hi with
      | 0, hi => exact Aa.lies (by simpa using hi) _
      | 1, hi => exact Ab.lies (by simpa using hi) _
      | 2, hi => exact Ac.lies (by simpa using hi) _
      | i + 3, hi => simp at hi) ⟨⟨_, rfl, kAa.2, kAb.2, kAc.2, trivial⟩, rfl, rfl, rfl, trivial⟩
  refine hwalk.mono fun e W' ⟨he, hg⟩ => ?_
  subst he
  exact ⟨_, rfl, post_true rfl rfl (by
    intro t ht
    have ht : t ∈ [26, 3, 3, 3] := ht
    simp only [List.mem_cons, List.not_mem_nil, or_false] at ht
    rcases ht with rfl | rfl | rfl | rfl
    · exact ⟨by kernel_rfl, of_decide_eq_true (by kernel_rfl)⟩
    · exact ⟨by kernel_rfl, of_decide_eq_true (by kernel_rfl)⟩
    · exact ⟨by kernel_rfl, of_decide_eq_true (by kernel_rfl)⟩
    · exact ⟨by kernel_rfl, of_decide_eq_true (by kernel_rfl)⟩) hW' rfl hg⟩

noncomputable def wArgs : Array Value := #[.agg #[.slice none 0 0, .slice none 0 0, .slice none 0 0], .int .i64 0, .int .i64 0, .int .i64 0]
theorem laid_met (os : Os) : laidMet Tryz.prog Rows.shareNeededRow.laid ((laidWorld os).forCall (fun _ _ => 0) ⟨#[], wArgs, []⟩).memory :=
  laidMet_of_run' 8 (by kernel_rfl) (by kernel_rfl)
theorem reads (os : Os) {H : Type} (enc : TypeId × Value → H) : ∃ ds places, DataW.whole enc Tryz.prog ((laidWorld os).forCall (fun _ _ => 0) ⟨#[], wArgs, []⟩).memory Tryz.f6.params.toList Rows.shareNeededSpec.vars false wArgs.toList 8 = some (ds, [], places) :=
  ⟨[.agg [.nil, .nil, .nil], .lit (.int .i64 0), .lit (.int .i64 0), .lit (.int .i64 0)], [], by kernel_rfl⟩

theorem lifted (hB : EnvOK Tryz.prog envB) (os : Os) (started : os.Started) (H : Type) (enc : TypeId × Value → H) (F : Stop.Interp) :
    ReturnsInHanded {} Tryz.checked os 6 .any ((OpenSpec.ofChange Rows.shareNeededSpec).preRow enc Tryz.prog Tryz.f6 Rows.shareNeededRow.domain false Rows.shareNeededRow.laid) (((OpenSpec.ofChange Rows.shareNeededSpec).at F).post enc Tryz.prog Tryz.f6 false true false false) := by
  obtain ⟨ds, places, hx⟩ := reads os enc
  refine returnsInHanded_of_row (C := Tryz.checked) (s := OpenSpec.ofChange Rows.shareNeededSpec) own started (by kernel_rfl) Tryz.func6
    (witness_row_at (enc := enc) (C := Tryz.checked) false (laidWorld os) wArgs rfl (by kernel_rfl) (by kernel_rfl) (by kernel_rfl)
      (OpenSpec.preRow_of_cond 8 hx (by kernel_rfl) (fun k hk => by cases hk) (by kernel_rfl) (laid_met os))) ?_
  intro W base args ds gs before hval hW _ _ _ hL _ _
  exact contract hB H enc W base args ds gs before hval hW hL

theorem plain (f : FuncId) (fn : Func) (hf : Tryz.pinned.checked.prog.funcNamed "snowline/snowlinelaw08.ShareNeeded" = some f) (hfn : Tryz.pinned.checked.prog.funcs[f]? = some fn) :
    true = Tryz.pinned.checked.prog.looks [] ∧ ∀ (j : Nat) t, fn.params[j]? = some t → Tryz.pinned.checked.prog.wantsStandIn t = false := by
  obtain rfl : f = 6 := Option.some.inj ((show Tryz.prog.funcNamed "snowline/snowlinelaw08.ShareNeeded" = some 6 by kernel_rfl).symm.trans hf) |>.symm
  obtain rfl : fn = Tryz.f6 := (Option.some.inj (Tryz.func6.symm.trans hfn)).symm
  refine ⟨by kernel_rfl, fun j t ht => ?_⟩
  have ht : #[26, 3, 3, 3][j]? = some t := ht
  have ht : t ∈ #[26, 3, 3, 3] := Array.mem_of_getElem? ht
  simp only [List.mem_toArray, List.mem_cons, List.not_mem_nil, or_false] at ht
  rcases ht with rfl | rfl | rfl | rfl
  · exact (show Tryz.prog.wantsStandIn 26 = false by kernel_rfl)
  · exact (show Tryz.prog.wantsStandIn 3 = false by kernel_rfl)
  · exact (show Tryz.prog.wantsStandIn 3 = false by kernel_rfl)
  · exact (show Tryz.prog.wantsStandIn 3 = false by kernel_rfl)
end Go.Proofs.YtlkbcjhemhmfoaaGreatDoor.fnNeeded
