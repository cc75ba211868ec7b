/- Rows: the end of each, and what their calls are handed. -/
import Derived.Test.YtlkbcjhemhmfoaaGreatDoorWr1
set_option linter.unusedSimpArgs false
set_option linter.unusedVariables false
namespace Go.AM
open Go Go.Proofs Go.RowKit Go.ChangeShapes Go.WideShapes
set_option maxRecDepth 100000

theorem laidOutT : laidOutB Tryz.prog = true := by kernel_rfl

/-- What was handed in reads as it did. -/
theorem trodAll_stays {H0 : Type} {enc : TypeId × Value → H0} {W W' : World} (hg : Grown W W') {sp' : Nat → Bool} : ∀ {ts : List TypeId} {vs : List Value} {ds : List (DataW H0)} {ps : List MemPlace}, (∀ t ∈ ts, Tryz.prog.readableRec t = true ∧ t < Tryz.prog.types.size) →
    DataW.TrodAll enc Tryz.prog W 0 (fun _ => true) true ts vs ds ps → (∀ p ∈ ps, p.block < W.heap.size) → (∀ p ∈ ps, sp' p.block = true) → DataW.TrodAll enc Tryz.prog W' 0 sp' true ts vs ds ps
  | [], [], [], _, _, h, _, _ => h
  | t :: ts, v :: vs, d :: ds, ps, hr, ⟨p, q, ⟨n, h1⟩, h2, e⟩, hlt, hs => by
    subst e
    obtain ⟨r1, r2⟩ := hr t List.mem_cons_self
    refine ⟨p, q, ⟨n, ?_⟩, trodAll_stays hg (fun t ht => hr t (List.mem_cons_of_mem _ ht)) h2 (fun x hx => hlt x (List.mem_append_right _ hx)) (fun x hx => hs x (List.mem_append_right _ hx)), rfl⟩
    exact DataW.trod_stays (kids_book laidOutT r1) (book_sized r1) (fun h => by cases h) ⟨r2, book_self t⟩ h1
      (fun x hx => hg.1.sameAt (hlt x (List.mem_append_left _ hx)) (fun f => f) (fun b e => by
        have := DataW.trod_good (kids_book laidOutT r1) (fun h => by cases h) n t v.cells.toList (d, p) ⟨r2, book_self t⟩ h1 x hx
        subst e
        exact this))
      (fun x hx => hs x (List.mem_append_left _ hx))
  | [], [], _ :: _, _, _, h, _, _ => h.elim
  | [], _ :: _, _, _, _, h, _, _ => h.elim
  | _ :: _, [], _, _, _, h, _, _ => h.elim
  | _ :: _, _ :: _, [], _, _, h, _, _ => h.elim

/-- A statement's end. -/
theorem post_true {H0 : Type} {enc : TypeId × Value → H0} {fn : Func} {s : ChangeSpec} {W W' : World} {args : Array Value} {ds gs : List (DataW H0)} {before : List MemPlace} (hres0 : fn.resultTypes = #[4]) (hvars0 : s.vars = [])
    (hr : ∀ t ∈ fn.params.toList, Tryz.prog.readableRec t = true ∧ t < Tryz.prog.types.size)
    (hW : DataW.Whole enc Tryz.prog fn.params.toList s.vars false W args.toList ds gs before) (hsp : s.fn H0 (ds ++ gs) = { results := [.lit (.bool true)], args := ds }) (hg : Grown W W') :
    s.post enc Tryz.prog fn false true false false W args (.bool true) W' := by
  have hW' := hW
  obtain ⟨p, q, hA, hV, he, hfz, hnd⟩ := hW
  rw [hvars0] at hV
  obtain ⟨rfl, rfl⟩ := trodVars_none hV
  rw [List.append_nil] at he
  subst he
  refine post_of_same (pa := before) (pv := []) hW' (fun _ _ _ => ?_) (fun sp hsp' => ?_) (fun _ _ => ?_) (by simp) (hg.frame _) hg.2.1 ?_
  · rw [hsp, hres0]
    exact trodAll_cons_mk (shut_bool Tryz.underlying4 _) trodAll_mk0
  · rw [hsp]
    exact trodAll_stays hg hr hA (fun p hp => hW'.lt p hp) hsp'
  · rw [hsp, hvars0]; rfl
  · exact fun j t r h1 h2 => ok_one hres0 rfl (okWide_bool_mk Tryz.underlying4 _) j t r h1 h2

theorem u3 : Tryz.prog.cellsOf 3 = 1 := by kernel_rfl
theorem evt_trod {H0 : Type} {enc : TypeId × Value → H0} {W : World} {sp : Nat → Bool} {hd : Bool} (fuel : Nat) (cs : List Value) (x : DataW H0 × List MemPlace) (h : DataW.trod enc Tryz.prog W 0 sp hd fuel 85 cs = some x) : ∃ ns : List Int, ns.length = 10 ∧ cs = ns.map (Value.int .i64) :=
  trod_ints Tryz.underlying85 Tryz.underlying3 u3 (by kernel_rfl) (fun j f hf => by
    match j, hf with
    | 0, hf | 1, hf | 2, hf | 3, hf | 4, hf | 5, hf | 6, hf | 7, hf | 8, hf | 9, hf => simp at hf; subst hf; exact ⟨rfl, rfl⟩
    | j + 10, hf => simp at hf) h

theorem hasCells {W : World} {name : String} {d : DataW Unit} {rest : List (String × DataW Unit)} (hL : laidMet Tryz.prog ((name, d) :: rest) W) : HasCells W := by
  obtain ⟨ps, ⟨g, t, cs, fuel, p, q, hg, ht, hvar, _⟩, _⟩ := hL
  unfold World.var? at hvar
  rw [hg, Option.bind_some] at hvar
  split at hvar
  · rename_i c tt fz hh
    exact ⟨g, c, tt, fz, hh⟩
  · cases hvar

/-- A struct's value, cell by cell. -/
theorem agg_ints {ns : List Int} {cs : Array Value} (h : cs.toList = ns.map (Value.int .i64)) {l : List Sc} (hl : l = ns.map (Sc.int .i64)) (ρ : Rho) : avR ρ (.agg l) (.agg cs) := by
  subst hl
  refine ⟨cs, rfl, ?_⟩
  rw [h]
  exact LR.map (R := fun a b => a = b) (fun x y e => by subst e; rfl) (by
    clear h
    induction ns with
    | nil => trivial
    | cons a ns ih => exact ⟨rfl, ih⟩)
theorem reg_trod {H0 : Type} {enc : TypeId × Value → H0} {W : World} {cs : Array Value} {d : DataW H0} {p : List MemPlace} (hC : HasCells W) (h : DataW.Trod enc Tryz.prog W 0 (fun _ => true) true 62 (.agg cs) d p) (hs : cs.size = Tryz.prog.cellsOf 62) : ∃ s, cs = #[s] ∧ ∃ (xs : List Evt) (o : Option (List Sc)) (inf : Nat × Nat × Nat), SA W s (arr Evt.c xs) xs.length 10 o inf := by
  obtain ⟨fuel, hf⟩ := h
  have h1 : Tryz.prog.cellsOf 62 = 1 := by kernel_rfl
  rw [h1] at hs
  obtain ⟨s, rfl⟩ : ∃ s, cs = #[s] := ⟨cs[0], by apply Array.ext <;> simp [hs]; intro i h1; subst h1; rfl⟩
  obtain ⟨xs, n, _, _, _, hlen, hall⟩ := DataW.trod_struct Tryz.underlying62 hf
  have h2 := hall 0 _ rfl
  have h3 : Tryz.prog.cellsOf 60 = 1 := by kernel_rfl
  have h4 : ∃ x, xs[0]? = some x := ⟨xs[0]'(by rw [hlen]; decide), List.getElem?_eq_getElem _⟩
  obtain ⟨x, hx⟩ := h4
  rw [hx] at h2
  have h5 : DataW.trod enc Tryz.prog W 0 (fun _ => true) true n 60 [s] = some x := by
    rw [← h2]
    show _ = DataW.trod enc Tryz.prog W 0 (fun _ => true) true n 60 (List.take (Tryz.prog.cellsOf 60) (List.drop 0 [s]))
    rw [h3]; rfl
  exact ⟨s, rfl, open_SA eEvt (by decide) mkEvt mkEvt_c Tryz.underlying60 (by kernel_rfl) evt_trod hC h5⟩

/-! ### A share -/
theorem rt_trod {H0 : Type} {enc : TypeId × Value → H0} {W : World} {sp : Nat → Bool} {hd : Bool} (fuel : Nat) (cs : List Value) (x : DataW H0 × List MemPlace) (h : DataW.trod enc Tryz.prog W 0 sp hd fuel 57 cs = some x) : ∃ ns : List Int, ns.length = 7 ∧ cs = ns.map (Value.int .i64) :=
  trod_ints Tryz.underlying57 Tryz.underlying3 u3 (by kernel_rfl) (fun j f hf => by
    match j, hf with
    | 0, hf | 1, hf | 2, hf | 3, hf | 4, hf | 5, hf | 6, hf => simp at hf; subst hf; exact ⟨rfl, rfl⟩
    | j + 7, hf => simp at hf) h
theorem su_trod {H0 : Type} {enc : TypeId × Value → H0} {W : World} {sp : Nat → Bool} {hd : Bool} (fuel : Nat) (cs : List Value) (x : DataW H0 × List MemPlace) (h : DataW.trod enc Tryz.prog W 0 sp hd fuel 50 cs = some x) : ∃ ns : List Int, ns.length = 3 ∧ cs = ns.map (Value.int .i64) :=
  trod_ints Tryz.underlying50 Tryz.underlying3 u3 (by kernel_rfl) (fun j f hf => by
    match j, hf with
    | 0, hf | 1, hf | 2, hf => simp at hf; subst hf; exact ⟨rfl, rfl⟩
    | j + 3, hf => simp at hf) h
theorem po_trod {H0 : Type} {enc : TypeId × Value → H0} {W : World} {sp : Nat → Bool} {hd : Bool} (fuel : Nat) (cs : List Value) (x : DataW H0 × List MemPlace) (h : DataW.trod enc Tryz.prog W 0 sp hd fuel 134 cs = some x) : ∃ ns : List Int, ns.length = 2 ∧ cs = ns.map (Value.int .i64) :=
  trod_ints Tryz.underlying134 Tryz.underlying3 u3 (by kernel_rfl) (fun j f hf => by
    match j, hf with
    | 0, hf | 1, hf => simp at hf; subst hf; exact ⟨rfl, rfl⟩
    | j + 2, hf => simp at hf) h
theorem int_trod {H0 : Type} {enc : TypeId × Value → H0} {W : World} {sp : Nat → Bool} {hd : Bool} (fuel : Nat) (cs : List Value) (x : DataW H0 × List MemPlace) (h : DataW.trod enc Tryz.prog W 0 sp hd fuel 3 cs = some x) : ∃ ns : List Int, ns.length = 1 ∧ cs = ns.map (Value.int .i64) := by
  obtain ⟨z, h4, _, _⟩ := DataW.trod_int Tryz.underlying3 h
  exact ⟨[z], rfl, h4⟩
/-- A list of numbers that is handed in. -/
theorem ints_trod {H0 : Type} {enc : TypeId × Value → H0} {W : World} {v : Value} {d : DataW H0} {p : List MemPlace} (hC : HasCells W) (hv : ∃ a len cap, v = .slice a len cap) (h : DataW.Trod enc Tryz.prog W 0 (fun _ => true) true 27 v d p) : ∃ (xs : List Int) (o : Option (List Sc)) (inf : Nat × Nat × Nat), SA W v (arr iC xs) xs.length 1 o inf := by
  obtain ⟨fuel, hf⟩ := h
  obtain ⟨a, len, cap, rfl⟩ := hv
  exact open_SA eI (by decide) mkI mkI_c Tryz.underlying27 u3 int_trod hC hf
theorem share_trod {H0 : Type} {enc : TypeId × Value → H0} {W : World} {cs : Array Value} {d : DataW H0} {p : List MemPlace} (hC : HasCells W) (h : DataW.Trod enc Tryz.prog W 0 (fun _ => true) true 26 (.agg cs) d p) (hs : cs.size = Tryz.prog.cellsOf 26) :
    ∃ s1 s2 s3, cs = #[s1, s2, s3] ∧ ∃ (rs : List Rt) (ss : List Su) (po : List Po) (o1 o2 o3 : Option (List Sc)) (i1 i2 i3 : Nat × Nat × Nat), SA W s1 (arr Rt.c rs) rs.length 7 o1 i1 ∧ SA W s2 (arr Su.c ss) ss.length 3 o2 i2 ∧ SA W s3 (arr Po.c po) po.length 2 o3 i3 := by
  obtain ⟨fuel, hf⟩ := h
  have h1 : Tryz.prog.cellsOf 26 = 3 := by kernel_rfl
  rw [h1] at hs
  obtain ⟨s1, s2, s3, rfl⟩ : ∃ s1 s2 s3, cs = #[s1, s2, s3] := ⟨cs[0], cs[1], cs[2], by
    apply Array.ext
    · simp [hs]
    · intro i h1 h2
      match i, h2 with
      | 0, _ => rfl
      | 1, _ => rfl
      | 2, _ => rfl⟩
  obtain ⟨xs, n, _, _, _, hlen, hall⟩ := DataW.trod_struct Tryz.underlying26 hf
  have g : ∀ (j : Nat) (t : TypeId) (s : Value), j < 3 → [s1, s2, s3][j]? = some s → Tryz.prog.cellsOf t = 1 → DataW.trod enc Tryz.prog W 0 (fun _ => true) true n t (List.take (Tryz.prog.cellsOf t) (List.drop j [s1, s2, s3])) = xs[j]? → ∃ x, DataW.trod enc Tryz.prog W 0 (fun _ => true) true n t [s] = some x := fun j t s hj hsj hc h2 => by
    have hl : j < xs.length := by rw [hlen]; exact hj
    rw [List.getElem?_eq_getElem hl, hc] at h2
    refine ⟨xs[j], ?_⟩
    rw [← h2]
    congr 1
    match j, hj, hsj with
    | 0, _, h => injection h with h; rw [← h]; rfl
    | 1, _, h => injection h with h; rw [← h]; rfl
    | 2, _, h => injection h with h; rw [← h]; rfl
  obtain ⟨x1, g1⟩ := g 0 22 s1 (by decide) rfl (by kernel_rfl) (hall 0 _ rfl)
  obtain ⟨x2, g2⟩ := g 1 23 s2 (by decide) rfl (by kernel_rfl) (hall 1 _ rfl)
  obtain ⟨x3, g3⟩ := g 2 24 s3 (by decide) rfl (by kernel_rfl) (hall 2 _ rfl)
  obtain ⟨rs, o1, i1, a1⟩ := open_SA eRt (by decide) mkRt mkRt_c Tryz.underlying22 (by kernel_rfl) rt_trod hC g1
  obtain ⟨ss, o2, i2, a2⟩ := open_SA eSu (by decide) mkSu mkSu_c Tryz.underlying23 (by kernel_rfl) su_trod hC g2
  obtain ⟨po, o3, i3, a3⟩ := open_SA ePo (by decide) mkPo mkPo_c Tryz.underlying24 (by kernel_rfl) po_trod hC g3
  exact ⟨s1, s2, s3, rfl, rs, ss, po, o1, o2, o3, i1, i2, i3, a1, a2, a3⟩

end Go.AM
namespace Go.Proofs.YtlkbcjhemhmfoaaGreatDoor
open Go Go.AM Go.Proofs Go.ChangeShapes Go.WideShapes Go.ChangeAt Go.RowKit
theorem own : ownKnob Tryz.prog.godebug = none := by kernel_rfl
/-- The cells of a listed table. -/
def cellsD : DataW Unit → Array Value
  | .agg l => (l.map fun x => match x with | .lit (.int k n) => Value.int k n | _ => .bool false).toArray
  | _ => #[]
/-- A world whose tables hold what is listed. -/
noncomputable def laidWorld (os : Os) : World :=
  { World.holding Tryz.prog os ⟨#[], #[], []⟩ with heap := ((((World.holding Tryz.prog os ⟨#[], #[], []⟩).heap.modify 6 fun
      | .cells _ t frozen => .cells (cellsD Rows.laid_math_bits_deBruijn32tab) t frozen
      | o => o).modify 7 fun
      | .cells _ t frozen => .cells (cellsD Rows.laid_math_bits_deBruijn64tab) t frozen
      | o => o).modify 2 fun
      | .cells _ t frozen => .cells (cellsD Rows.laid_internal_strconv_uint64pow10) t frozen
      | o => o) }
end Go.Proofs.YtlkbcjhemhmfoaaGreatDoor
