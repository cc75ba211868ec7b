/- Rows: the end of each, and of ShareEnters. -/
import Derived.Test.YtlkbcjhemhmfoaaGreatDoorWr1
import Derived.Test.YtlkbcjhemhmfoaaGreatDoorWe5
set_option linter.unusedSimpArgs false
set_option linter.unusedVariables false
namespace Go.AM
open Go Go.Proofs Go.RowKit Go.ChangeShapes Go.WideShapes
set_option maxRecDepth 100000

theorem laidOutT : laidOutB Tryz.prog = true := by kernel_rfl

/-- What was handed in reads as it did. -/
theorem trodAll_stays {H0 : Type} {enc : TypeId × Value → H0} {W W' : World} (hg : Grown W W') {sp' : Nat → Bool} : ∀ {ts : List TypeId} {vs : List Value} {ds : List (DataW H0)} {ps : List MemPlace}, (∀ t ∈ ts, Tryz.prog.readableRec t = true ∧ t < Tryz.prog.types.size) →
    DataW.TrodAll enc Tryz.prog W 0 (fun _ => true) true ts vs ds ps → (∀ p ∈ ps, p.block < W.heap.size) → (∀ p ∈ ps, sp' p.block = true) → DataW.TrodAll enc Tryz.prog W' 0 sp' true ts vs ds ps
  | [], [], [], _, _, h, _, _ => h
  | t :: ts, v :: vs, d :: ds, ps, hr, ⟨p, q, ⟨n, h1⟩, h2, e⟩, hlt, hs => by
    subst e
    obtain ⟨r1, r2⟩ := hr t List.mem_cons_self
    refine ⟨p, q, ⟨n, ?_⟩, trodAll_stays hg (fun t ht => hr t (List.mem_cons_of_mem _ ht)) h2 (fun x hx => hlt x (List.mem_append_right _ hx)) (fun x hx => hs x (List.mem_append_right _ hx)), rfl⟩
    exact DataW.trod_stays (kids_book laidOutT r1) (book_sized r1) (fun h => by cases h) ⟨r2, book_self t⟩ h1
      (fun x hx => hg.1.sameAt (hlt x (List.mem_append_left _ hx)) (fun f => f) (fun b e => by
        have := DataW.trod_good (kids_book laidOutT r1) (fun h => by cases h) n t v.cells.toList (d, p) ⟨r2, book_self t⟩ h1 x hx
        subst e
        exact this))
      (fun x hx => hs x (List.mem_append_left _ hx))
  | [], [], _ :: _, _, _, h, _, _ => h.elim
  | [], _ :: _, _, _, _, h, _, _ => h.elim
  | _ :: _, [], _, _, _, h, _, _ => h.elim
  | _ :: _, _ :: _, [], _, _, h, _, _ => h.elim

/-- A statement's end. -/
theorem post_true {H0 : Type} {enc : TypeId × Value → H0} {fn : Func} {s : ChangeSpec} {W W' : World} {args : Array Value} {ds gs : List (DataW H0)} {before : List MemPlace} (hres0 : fn.resultTypes = #[4]) (hvars0 : s.vars = [])
    (hr : ∀ t ∈ fn.params.toList, Tryz.prog.readableRec t = true ∧ t < Tryz.prog.types.size)
    (hW : DataW.Whole enc Tryz.prog fn.params.toList s.vars false W args.toList ds gs before) (hsp : s.fn H0 (ds ++ gs) = { results := [.lit (.bool true)], args := ds }) (hg : Grown W W') :
    s.post enc Tryz.prog fn false true false false W args (.bool true) W' := by
  have hW' := hW
  obtain ⟨p, q, hA, hV, he, hfz, hnd⟩ := hW
  rw [hvars0] at hV
  obtain ⟨rfl, rfl⟩ := trodVars_none hV
  rw [List.append_nil] at he
  subst he
  refine post_of_same (pa := before) (pv := []) hW' (fun _ _ _ => ?_) (fun sp hsp' => ?_) (fun _ _ => ?_) (by simp) (hg.frame _) hg.2.1 ?_
  · rw [hsp, hres0]
    exact trodAll_cons_mk (shut_bool Tryz.underlying4 _) trodAll_mk0
  · rw [hsp]
    exact trodAll_stays hg hr hA (fun p hp => hW'.lt p hp) hsp'
  · rw [hsp, hvars0]; rfl
  · exact fun j t r h1 h2 => ok_one hres0 rfl (okWide_bool_mk Tryz.underlying4 _) j t r h1 h2

theorem u3 : Tryz.prog.cellsOf 3 = 1 := by kernel_rfl
theorem evt_trod {H0 : Type} {enc : TypeId × Value → H0} {W : World} {sp : Nat → Bool} {hd : Bool} (fuel : Nat) (cs : List Value) (x : DataW H0 × List MemPlace) (h : DataW.trod enc Tryz.prog W 0 sp hd fuel 85 cs = some x) : ∃ ns : List Int, ns.length = 10 ∧ cs = ns.map (Value.int .i64) :=
  trod_ints Tryz.underlying85 Tryz.underlying3 u3 (by kernel_rfl) (fun j f hf => by
    match j, hf with
    | 0, hf | 1, hf | 2, hf | 3, hf | 4, hf | 5, hf | 6, hf | 7, hf | 8, hf | 9, hf => simp at hf; subst hf; exact ⟨rfl, rfl⟩
    | j + 10, hf => simp at hf) h

theorem hasCells {W : World} {name : String} {d : DataW Unit} {rest : List (String × DataW Unit)} (hL : laidMet Tryz.prog ((name, d) :: rest) W) : HasCells W := by
  obtain ⟨ps, ⟨g, t, cs, fuel, p, q, hg, ht, hvar, _⟩, _⟩ := hL
  unfold World.var? at hvar
  rw [hg, Option.bind_some] at hvar
  split at hvar
  · rename_i c tt fz hh
    exact ⟨g, c, tt, fz, hh⟩
  · cases hvar

/-- A struct's value, cell by cell. -/
theorem agg_ints {ns : List Int} {cs : Array Value} (h : cs.toList = ns.map (Value.int .i64)) {l : List Sc} (hl : l = ns.map (Sc.int .i64)) (ρ : Rho) : avR ρ (.agg l) (.agg cs) := by
  subst hl
  refine ⟨cs, rfl, ?_⟩
  rw [h]
  exact LR.map (R := fun a b => a = b) (fun x y e => by subst e; rfl) (by
    clear h
    induction ns with
    | nil => trivial
    | cons a ns ih => exact ⟨rfl, ih⟩)
theorem reg_trod {H0 : Type} {enc : TypeId × Value → H0} {W : World} {cs : Array Value} {d : DataW H0} {p : List MemPlace} (hC : HasCells W) (h : DataW.Trod enc Tryz.prog W 0 (fun _ => true) true 62 (.agg cs) d p) (hs : cs.size = Tryz.prog.cellsOf 62) : ∃ s, cs = #[s] ∧ ∃ (xs : List Evt) (o : Option (List Sc)) (inf : Nat × Nat × Nat), SA W s (arr Evt.c xs) xs.length 10 o inf := by
  obtain ⟨fuel, hf⟩ := h
  have h1 : Tryz.prog.cellsOf 62 = 1 := by kernel_rfl
  rw [h1] at hs
  obtain ⟨s, rfl⟩ : ∃ s, cs = #[s] := ⟨cs[0], by apply Array.ext <;> simp [hs]; intro i h1; subst h1; rfl⟩
  obtain ⟨xs, n, _, _, _, hlen, hall⟩ := DataW.trod_struct Tryz.underlying62 hf
  have h2 := hall 0 _ rfl
  have h3 : Tryz.prog.cellsOf 60 = 1 := by kernel_rfl
  have h4 : ∃ x, xs[0]? = some x := ⟨xs[0]'(by rw [hlen]; decide), List.getElem?_eq_getElem _⟩
  obtain ⟨x, hx⟩ := h4
  rw [hx] at h2
  have h5 : DataW.trod enc Tryz.prog W 0 (fun _ => true) true n 60 [s] = some x := by
    rw [← h2]
    show _ = DataW.trod enc Tryz.prog W 0 (fun _ => true) true n 60 (List.take (Tryz.prog.cellsOf 60) (List.drop 0 [s]))
    rw [h3]; rfl
  exact ⟨s, rfl, open_SA eEvt (by decide) mkEvt mkEvt_c Tryz.underlying60 (by kernel_rfl) evt_trod hC h5⟩

end Go.AM
namespace Go.Proofs.YtlkbcjhemhmfoaaGreatDoor.fnEnters
open Go Go.AM Go.Proofs Go.ChangeShapes Go.WideShapes Go.ChangeAt Go.RowKit
set_option maxRecDepth 100000

theorem own : ownKnob Tryz.prog.godebug = none := by kernel_rfl

theorem contract (hB : EnvOK Tryz.prog envB) (H0 : Type) (enc : TypeId × Value → H0) (W : World) (base : Nat) (args : Array Value) (ds gs : List (DataW H0)) (before : List MemPlace)
    (hval : ∀ (j : Nat) t v, Tryz.f14.params[j]? = some t → args[j]? = some v → Value.okWide Tryz.prog W .any base t v)
    (hW : DataW.Whole enc Tryz.prog Tryz.f14.params.toList Rows.shareEntersSpec.vars false W args.toList ds gs before) (hL : laidMetH Tryz.prog Rows.shareEntersRow.laid W) :
    Calls Tryz.prog 14 args W fun e W' => ∃ v, e = .returned v ∧ Rows.shareEntersSpec.post enc Tryz.prog Tryz.f14 false true false false W args v W' := by
  have hC : HasCells W := hasCells hL
  have hW' := hW
  obtain ⟨p, q, hA0, hV, rfl, hfz, hnd⟩ := hW
  have hA : DataW.TrodAll enc Tryz.prog W 0 (fun _ => true) true [62, 85] args.toList ds p := hA0
  obtain ⟨v0, vs0, d0, ds0, p0, q0, hargs, rfl, rfl, h0, r0⟩ := trodAll_cons hA
  obtain ⟨v1, vs1, d1, ds1, p1, q1, rfl, rfl, rfl, h1, r1⟩ := trodAll_cons r0
  obtain ⟨rfl, rfl, rfl⟩ := trodAll_nil r1
  obtain rfl : args = #[v0, v1] := by
    apply Array.ext'
    simpa using hargs
  obtain ⟨rfl, rfl⟩ := trodVars_none hV
  -- the register
  obtain ⟨cs0, rfl, hs0⟩ := okWide_struct Tryz.underlying62 (hval 0 62 v0 rfl rfl)
  obtain ⟨cs1, rfl, hs1⟩ := okWide_struct Tryz.underlying85 (hval 1 85 v1 rfl rfl)
  obtain ⟨s0, rfl, xs, o, inf, hSA⟩ := reg_trod hC h0 hs0
  obtain ⟨f1, hf1⟩ := h1
  obtain ⟨ns, hn, hcs⟩ := evt_trod _ _ _ hf1
  obtain ⟨k1, k2⟩ := hSA.sc (r := [o]) (info := fun _ => inf) (j := 0) rfl rfl
  have hwalk := law_run hB (r := [o]) (args := [.agg [.sl (some (0, 0)) xs.length false 10], .agg (mkEvt ns).c]) (args' := [.agg [slR o 0 xs.length 10], .agg (mkEvt ns).c]) (vs := #[.agg #[s0], .agg cs1]) (by
      have := c_shareEnters xs false (mkEvt ns)
      rw [← hSA.getD] at this
      exact this) ⟨⟨_, rfl, k1, trivial⟩, RAV.of_flat rfl, trivial⟩ (fun _ => inf) (fun i l hi => by
        match i, hi with
        | 0, hi => exact hSA.lies (by simpa using hi) _
        | i + 1, hi => simp at hi) ⟨⟨_, rfl, k2, trivial⟩, agg_ints hcs (mkEvt_c ns hn) _, trivial⟩
  refine hwalk.mono fun e W' ⟨he, hg⟩ => ?_
  subst he
  exact ⟨_, rfl, post_true rfl rfl (by
    intro t ht
    have ht : t ∈ [62, 85] := ht
    simp only [List.mem_cons, List.not_mem_nil, or_false] at ht
    rcases ht with rfl | rfl
    · exact ⟨by kernel_rfl, of_decide_eq_true (by kernel_rfl)⟩
    · exact ⟨by kernel_rfl, of_decide_eq_true (by kernel_rfl)⟩) hW' rfl hg⟩

end Go.Proofs.YtlkbcjhemhmfoaaGreatDoor.fnEnters
