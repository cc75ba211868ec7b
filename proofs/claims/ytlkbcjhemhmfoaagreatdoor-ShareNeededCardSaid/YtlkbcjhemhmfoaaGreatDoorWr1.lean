/- Rows: arguments opened. -/
import Derived.Test.YtlkbcjhemhmfoaaGreatDoorWr0
set_option linter.unusedSimpArgs false
set_option linter.unusedVariables false
namespace Go.AM
open Go Go.Proofs Go.RowKit Go.ChangeShapes Go.WideShapes

section
variable {H0 : Type} {enc : TypeId × Value → H0} {P0 : Program} {W : World} {sp : Nat → Bool} {hd : Bool}

/-- A struct of integers. -/
theorem trod_ints {t ti : TypeId} {fs : Array Field} (hs : P0.underlying t = some (.struct fs)) (hI : P0.underlying ti = some (.int .i64)) (hci : P0.cellsOf ti = 1) (hC : P0.cellsOf t = fs.size) (hf : ∀ (j : Nat) (f : Field), fs[j]? = some f → f.type = ti ∧ f.offset = j)
    {fuel : Nat} {cs : List Value} {x : DataW H0 × List MemPlace} (h : DataW.trod enc P0 W 0 sp hd fuel t cs = some x) : ∃ ns : List Int, ns.length = fs.size ∧ cs = ns.map (Value.int .i64) := by
  obtain ⟨xs, n, _, _, hlen, hxs, hall⟩ := DataW.trod_struct hs h
  rw [hC] at hlen
  have each : ∀ i, i < fs.size → ∃ z, cs[i]? = some (.int .i64 z) := fun i hi => by
    obtain ⟨f, hfi⟩ : ∃ f, fs[i]? = some f := ⟨fs[i], Array.getElem?_eq_getElem hi⟩
    obtain ⟨h1, h2⟩ := hf i f hfi
    have h3 := hall i f hfi
    rw [h1, h2, hci, List.getElem?_eq_getElem (by omega)] at h3
    obtain ⟨z, h4, _, _⟩ := DataW.trod_int hI h3
    refine ⟨z, ?_⟩
    have : ((cs.drop i).take 1)[0]? = some (.int .i64 z) := by rw [h4]; rfl
    rw [List.getElem?_take_of_lt (by omega), List.getElem?_drop, Nat.add_zero] at this
    exact this
  refine ⟨(List.range fs.size).map fun i => (match cs[i]? with | some (Value.int IntKind.i64 z) => z | _ => (0 : Int)), by simp, ?_⟩
  apply List.ext_getElem?
  intro i
  by_cases hi : i < fs.size
  · obtain ⟨z, hz⟩ := each i hi
    rw [hz]
    simp [hi, hz]
  · rw [List.getElem?_eq_none (by omega), List.getElem?_eq_none (by simp; omega)]

/-- A slice of rows of integers. -/
theorem open_rows {t e : TypeId} {s : Nat} (ht : P0.underlying t = some (.slice e)) (hC : P0.cellsOf e = s) (hs : 0 < s) (hE : ∀ (fuel : Nat) (cs : List Value) (x : DataW H0 × List MemPlace), DataW.trod enc P0 W 0 (fun _ => true) hd fuel e cs = some x → ∃ ns : List Int, ns.length = s ∧ cs = ns.map (Value.int .i64))
    {fuel : Nat} {cs : List Value} {x : DataW H0 × List MemPlace} (h : DataW.trod enc P0 W 0 (fun _ => true) hd fuel t cs = some x) :
    cs = [.slice none 0 0] ∨ ∃ (a : Addr) (len cap : Nat) (N : Nat → List Int), cs = [.slice (some a) len cap] ∧ len ≤ cap ∧ (∀ i, i < cap → (N i).length = s) ∧
      (0 < cap → ∃ c tt fz, W.heap[a.block]? = some (.cells c tt fz) ∧ a.spot = none ∧ ∀ i, i < cap → ∀ j, j < s → c[a.off + (i * s + j)]? = some (.int .i64 ((N i).getD j 0))) := by
  rcases Deep.open_slice ht h with ⟨h1, _⟩ | ⟨a, len, cap, m, n, D, Pl, h1, _, h2, _, hm, _, hall⟩
  · exact .inl h1
  · refine .inr ?_
    simp only [if_true] at hm
    subst hm
    rw [hC] at hall
    have h3 : ∀ i, i < m → ∃ ns : List Int, ns.length = s ∧ W.cells? 0 (a.add (i * s)) s = some (ns.map (Value.int .i64)) := fun i hi => by
      obtain ⟨cs', h4, h5⟩ := hall i hi
      obtain ⟨ns, h6, rfl⟩ := hE _ _ _ h5
      exact ⟨ns, h6, h4⟩
    obtain ⟨N, hN⟩ := Deep.choose_lt h3
    refine ⟨a, len, m, N, h1, h2, fun i hi => (hN i hi).1, fun hpos => ?_⟩
    have cell : ∀ i, i < m → ∀ j, j < s → W.cell? ((a.add (i * s)).add j) = some (.int .i64 ((N i).getD j 0)) := fun i hi j hj => by
      obtain ⟨h6, h7⟩ := hN i hi
      have h8 := (World.cells?_some h7).2.2 j hj
      rw [h8]
      simp [List.getD_eq_getElem?_getD, List.getElem?_map, List.getElem?_eq_getElem (show j < (N i).length by omega)]
    have h0 := cell 0 hpos 0 hs
    have hspot : a.spot = none := by simpa [Addr.add] using World.cell?_spot h0
    have hblk : ∀ i j, ((a.add (i * s)).add j) = ⟨a.block, a.off + (i * s + j), none⟩ := fun i j => by
      obtain ⟨b, o, spt⟩ := a
      have hspot : spt = none := hspot
      subst hspot
      unfold Addr.add
      by_cases h1 : i * s = 0 <;> by_cases h2 : j = 0 <;> simp [h1, h2, Nat.add_assoc]
    rw [hblk] at h0
    unfold World.cell? at h0
    dsimp only at h0
    split at h0
    · rename_i c tt fz hh
      refine ⟨c, tt, fz, hh, hspot, fun i hi j hj => ?_⟩
      have := cell i hi j hj
      rw [hblk] at this
      unfold World.cell? at this
      dsimp only at this
      rw [hh] at this
      simpa using this
    · cases h0
end

/-- What a slice that a call is handed holds, and where. -/
def SA (W : World) (v : Value) (l : List Sc) (n sz : Nat) (o : Option (List Sc)) (inf : Nat × Nat × Nat) : Prop :=
  (o = none ∧ n = 0 ∧ l = [] ∧ v = .slice none 0 0) ∨ (o = some l ∧ (∃ a c, v = .slice (some a) n c ∧ (a = ⟨inf.1, inf.2.1, none⟩ ∨ c = 0) ∧ n ≤ c ∧ c * sz ≤ inf.2.2) ∧ ∀ ρ, Lies ρ False W l inf.1 inf.2.1 inf.2.2)
def slR (o : Option (List Sc)) (j n sz : Nat) : Sc := match o with
  | some _ => .sl (some (j, 0)) n false sz
  | none => .sl none 0 true 0
theorem SA.sc {W : World} {v : Value} {l : List Sc} {n sz : Nat} {o : Option (List Sc)} {inf : Nat × Nat × Nat} (h : SA W v l n sz o inf) {r : List (Option (List Sc))} {info : Nat → Nat × Nat × Nat} {j : Nat} (hr : r[j]? = some o) (hi : info j = inf) :
    RSc (sgOf r) (.sl (some (j, 0)) n false sz) (slR o j n sz) ∧ scR (rhoOf r info) (slR o j n sz) v := by
  rcases h with ⟨rfl, rfl, rfl, rfl⟩ | ⟨rfl, ⟨a, c, rfl, h1, h2, h3⟩, _⟩
  · exact ⟨.inr ⟨by unfold sgOf; rw [hr], rfl, rfl⟩, rfl, rfl⟩
  · refine ⟨.inl ⟨j, by unfold sgOf; rw [hr], rfl⟩, inf.1, inf.2.1, inf.2.2, c, a, ?_, rfl, h1, h2, (fun h => by cases h), by omega⟩
    unfold rhoOf; rw [hr, hi]
theorem SA.lies {W : World} {v : Value} {l l' : List Sc} {n sz : Nat} {o : Option (List Sc)} {inf : Nat × Nat × Nat} (h : SA W v l n sz o inf) (ho : o = some l') (ρ : Rho) : Lies ρ False W l' inf.1 inf.2.1 inf.2.2 := by
  rcases h with ⟨rfl, _⟩ | ⟨rfl, _, h⟩
  · cases ho
  · injection ho with ho; subst ho; exact h ρ
theorem SA.getD {W : World} {v : Value} {l : List Sc} {n sz : Nat} {o : Option (List Sc)} {inf : Nat × Nat × Nat} (h : SA W v l n sz o inf) : o.getD [] = l := by
  rcases h with ⟨rfl, _, rfl, _⟩ | ⟨rfl, _⟩ <;> rfl

/-- Some block of cells, where a slice has none. -/
def HasCells (W : World) : Prop := ∃ (b : Nat) (c : Array Value) (tt : TypeId) (fz : Nat × Nat), W.heap[b]? = some (Obj.cells c tt fz)

theorem open_SA {H0 : Type} {enc : TypeId × Value → H0} {P0 : Program} {W : World} {hd : Bool} {t e : TypeId} {α : Type} {cc : α → List Sc} {s : Nat} (el : Elt cc s) (hs : 0 < s) (mk : List Int → α) (hmk : ∀ ns : List Int, ns.length = s → cc (mk ns) = ns.map (Sc.int .i64)) (ht : P0.underlying t = some (.slice e)) (hC : P0.cellsOf e = s)
    (hE : ∀ (fuel : Nat) (cs : List Value) (x : DataW H0 × List MemPlace), DataW.trod enc P0 W 0 (fun _ => true) hd fuel e cs = some x → ∃ ns : List Int, ns.length = s ∧ cs = ns.map (Value.int .i64)) (hW : HasCells W)
    {fuel : Nat} {v : Value} {x : DataW H0 × List MemPlace} (h : DataW.trod enc P0 W 0 (fun _ => true) hd fuel t [v] = some x) : ∃ (xs : List α) (o : Option (List Sc)) (inf : Nat × Nat × Nat), SA W v (arr cc xs) xs.length s o inf := by
  rcases open_rows ht hC hs hE h with h1 | ⟨a, len, cap, N, h1, hle, hN, hcap⟩
  · injection h1 with h1
    exact ⟨[], none, (0, 0, 0), .inl ⟨rfl, rfl, rfl, h1⟩⟩
  · injection h1 with h1
    subst h1
    have hlen : ((List.range len).map fun i => mk (N i)).length = len := by simp
    by_cases h0 : cap = 0
    · obtain ⟨b, c, tt, fz, hb⟩ := hW
      refine ⟨(List.range len).map fun i => mk (N i), _, (b, 0, 0), .inr ⟨rfl, ⟨a, cap, by rw [hlen], .inr h0, by rw [hlen]; exact hle, by subst h0; simp⟩, fun ρ => ⟨c, tt, fz, hb, ?_, by simp, fun j y hy => ?_, fun h => h.elim⟩⟩⟩
      · rw [arr_len el, hlen]; have : len = 0 := by omega
        subst this; simp
      · have : len = 0 := by omega
        subst this
        simp [arr] at hy
    · obtain ⟨c, tt, fz, hb, hsp, hcell⟩ := hcap (by omega)
      have ha : a = ⟨a.block, a.off, none⟩ := by
        obtain ⟨b, o, spt⟩ := a
        have hsp : spt = none := hsp
        subst hsp; rfl
      refine ⟨(List.range len).map fun i => mk (N i), _, (a.block, a.off, cap * s), .inr ⟨rfl, ⟨a, cap, by rw [hlen], .inl ha, by rw [hlen]; exact hle, Nat.le_refl _⟩, fun ρ => ⟨c, tt, fz, hb, ?_, ?_, fun j y hy => ?_, fun h => h.elim⟩⟩⟩
      · rw [arr_len el, hlen]; exact Nat.mul_le_mul_right s hle
      · have h2 := hcell (cap - 1) (by omega) (s - 1) (by omega)
        have h3 : a.off + ((cap - 1) * s + (s - 1)) < c.size := by
          rcases Nat.lt_or_ge (a.off + ((cap - 1) * s + (s - 1))) c.size with h | h
          · exact h
          · rw [Array.getElem?_eq_none h] at h2; cases h2
        have h4 : (cap - 1) * s + s = cap * s := by
          rw [← Nat.succ_mul]; congr 1; omega
        show a.off + cap * s ≤ c.size
        omega
      · have hj : j < len * s := by
          have : j < (arr cc ((List.range len).map fun i => mk (N i))).length := by
            rcases Nat.lt_or_ge j (arr cc ((List.range len).map fun i => mk (N i))).length with h | h
            · exact h
            · rw [List.getElem?_eq_none h] at hy; cases hy
          rwa [arr_len el, hlen] at this
        have hdiv : j / s < len := Nat.div_lt_of_lt_mul (by rw [Nat.mul_comm]; exact hj)
        have hmod : j % s < s := Nat.mod_lt _ hs
        have hjj : j / s * s + j % s = j := by rw [Nat.mul_comm]; exact Nat.div_add_mod j s
        have hx : ((List.range len).map fun i => mk (N i))[j / s]? = some (mk (N (j / s))) := by simp [hdiv]
        have h2 := arr_get el hx (j % s) 1 (by omega)
        rw [hjj] at h2
        have h3 : (((arr cc ((List.range len).map fun i => mk (N i))).drop j).take 1)[0]? = some y := by rw [List.getElem?_take_of_lt (by omega), List.getElem?_drop, Nat.add_zero]; exact hy
        have hNl := hN (j / s) (by omega)
        rw [h2, hmk _ hNl, List.getElem?_take_of_lt (by omega), List.getElem?_drop, Nat.add_zero, List.getElem?_map, List.getElem?_eq_getElem (by omega)] at h3
        injection h3 with h3
        refine ⟨_, (show c[a.off + j]? = _ by rw [← hjj]; exact hcell (j / s) (by omega) (j % s) hmod), ?_⟩
        rw [← h3, List.getD_eq_getElem?_getD, List.getElem?_eq_getElem (by omega)]
        rfl

/-! ### The structs -/
def mkEvt : List Int → Evt
  | [a, b, c, d, e, f, g, h, i, j] => ⟨a, b, c, d, e, f, g, h, i, j⟩
  | _ => ⟨0, 0, 0, 0, 0, 0, 0, 0, 0, 0⟩
def mkRt : List Int → Rt
  | [a, b, c, d, e, f, g] => ⟨a, b, c, d, e, f, g⟩
  | _ => ⟨0, 0, 0, 0, 0, 0, 0⟩
def mkSu : List Int → Su
  | [a, b, c] => ⟨a, b, c⟩
  | _ => ⟨0, 0, 0⟩
def mkPo : List Int → Po
  | [a, b] => ⟨a, b⟩
  | _ => ⟨0, 0⟩
def mkDw : List Int → Dw
  | [a, b, c] => ⟨a, b, c⟩
  | _ => ⟨0, 0, 0⟩
def mkI : List Int → Int
  | [a] => a
  | _ => 0
theorem mkEvt_c : ∀ ns : List Int, ns.length = 10 → (mkEvt ns).c = ns.map (Sc.int .i64)
  | [a, b, c, d, e, f, g, h, i, j], _ => rfl
theorem mkRt_c : ∀ ns : List Int, ns.length = 7 → (mkRt ns).c = ns.map (Sc.int .i64)
  | [a, b, c, d, e, f, g], _ => rfl
theorem mkSu_c : ∀ ns : List Int, ns.length = 3 → (mkSu ns).c = ns.map (Sc.int .i64)
  | [a, b, c], _ => rfl
theorem mkPo_c : ∀ ns : List Int, ns.length = 2 → (mkPo ns).c = ns.map (Sc.int .i64)
  | [a, b], _ => rfl
theorem mkDw_c : ∀ ns : List Int, ns.length = 3 → (mkDw ns).c = ns.map (Sc.int .i64)
  | [a, b, c], _ => rfl
theorem mkI_c : ∀ ns : List Int, ns.length = 1 → iC (mkI ns) = ns.map (Sc.int .i64)
  | [a], _ => rfl

end Go.AM
