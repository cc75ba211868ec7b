/- Making and growing rows: the machine and the model. No program here. -/
import Derived.Test.YtlkbcjhemhmfoaaGreatDoorAm3
set_option linter.unusedSimpArgs false
set_option linter.unusedVariables false
namespace Go.AM
open Go

section
variable {ρ : Rho}

theorem Stp.sub {ρ ρ' : Rho} {g g' g'' : G} {ro : Nat} {w w' : World} (h : Stp ρ ρ' g g' ro w w') (hs : ∀ i l, g'' i = some l → g' i = some l) : Stp ρ ρ' g g'' ro w w' :=
  { h with wr := fun b hb ⟨i, l, p, h1, h2, h3, h4⟩ => h.wr b hb ⟨i, l, p, h1, hs _ _ h2, h3, h4⟩ }
theorem Rel.drew {ρ : Rho} {g : G} {ro : Nat} {w : World} (h : Rel ρ g ro w) : Rel ρ g ro w.drew := h.world fun _ _ => rfl
theorem Stp.drew (ρ : Rho) (g : G) (ro : Nat) (w : World) : Stp ρ ρ g g ro w w.drew := ⟨Rho.le_refl ρ, rfl, rfl, rfl, Nat.le_refl _, fun _ _ _ => rfl, fun _ _ h => h, fun _ => rfl⟩

/-- A new block in place of what was known of the number id. -/
theorem Did.new {h : H} {id : Nat} {w : World} (hR : Rel ρ h.get h.ro w) (hid : ρ id = none) {l : List Sc} {cs : Array Value} {t : TypeId} (hl : LR (scR ρ) l (cs.toList.take l.length)) (hlen : l.length ≤ cs.size)
    {v : AV} {v' : Value} (hv : ∀ ρ' : Rho, ρ.le ρ' → ρ' id = some (w.heap.size, 0, cs.size) → avR ρ' v v') {r : Result Next} (hr : r = .ok (.value v') (w.alloc (.cells cs t))) : Did ρ h id w v (h.put id l) r := by
  obtain ⟨h1, h2, h3⟩ := hR.new hid (t := t) hl hlen
  refine ⟨v', _, _, .inl hr, hv _ h2.ext h3, h1.congr fun i => H.get_put .., h2.congr fun i => H.get_put .., rfl, rfl, fun i hi hne => ?_⟩
  simp [hne, hi]

theorem zeros_rel {z : List Sc} {zc : Array Value} (hz : LR (scR ρ) z zc.toList) (n : Nat) : LR (scR ρ) (zeros n z) ((Array.range (n * zc.size)).map (zc[· % zc.size]!)).toList := by
  have hl : z.length = zc.size := by simpa using hz.length
  unfold zeros
  refine LR.mk (by simp [hl]) fun j x y hx hy => ?_
  have hj : j < n * zc.size := by
    have := (List.getElem?_eq_some_iff.1 hy).1
    simpa using this
  have h0 : 0 < zc.size := by
    rcases Nat.eq_zero_or_pos zc.size with e | e
    · rw [e] at hj; simp at hj
    · exact e
  have hm : j % zc.size < zc.size := Nat.mod_lt _ h0
  rw [List.getElem?_map, List.getElem?_range (by rw [hl]; exact hj)] at hx
  simp only [Option.map_some, Option.some.injEq] at hx
  rw [Array.getElem?_toList, Array.getElem?_map, Array.getElem?_range] at hy
  rw [if_pos hj] at hy
  simp only [Option.map_some, Option.some.injEq] at hy
  subst hx hy
  rw [hl]
  have e1 : z[j % zc.size]? = some (z.getD (j % zc.size) default) := by
    rw [List.getD_eq_getElem?_getD, List.getElem?_eq_getElem (by omega)]; simp
  have e2 : zc.toList[j % zc.size]? = some (zc[j % zc.size]!) := by
    simp [hm]
  exact hz.get2 e1 e2

/-! ### Rows that are made -/
theorem alloc_did {P : Program} {X : Env} (hT : X.T = tyOf P) {h : H} {id : Nat} {w : World} (hR : Rel ρ h.get h.ro w) (hid : ρ id = none) {t : TypeId} (ht : (X.T t).ty.isNone = false) {r : Result Next}
    (hr : r = (do pure (.value (← Instr.alloc t true (.tuple #[]))) : Sem Next).run P w) : Did ρ h id w (.one (.ptr (some (id, 0)))) (h.put id (X.T t).zero) r := by
  rw [hT] at *
  obtain ⟨z, hz, hzr⟩ := zero_rel (P := P) (t := t) (.inl (isNone_ne ht))
  have hlen := (hzr ρ).length
  simp only [Array.length_toList] at hlen
  refine Did.new (v := .one (.ptr (some (id, 0)))) (v' := .pointer (some ⟨w.heap.size, 0, none⟩)) hR hid (t := t) (cs := z.cells) ?_ (by omega) (fun ρ' _ e => (⟨_, _, _, e, rfl⟩ : ptrR ρ' (id, 0) (.pointer (some ⟨w.heap.size, 0, none⟩)))) ?_
  · rw [List.take_of_length_le (by simp; omega)]; exact hzr ρ
  · rw [hr]
    simp only [Instr.alloc, newVar, newRow, Sem.run_bind, hz, Result.andThen_ok, run_newObj, Sem.run_pure]
    rfl

theorem box_did {P : Program} {h : H} {id : Nat} {w : World} (hR : Rel ρ h.get h.ro w) (hid : ρ id = none) {t : TypeId} {x : AV} {l : List Sc} (hx : x.cells = some l) {v : Value} (hv : avR ρ x v) {r : Result Next}
    (hr : r = (do pure (.value (← Instr.box t v)) : Sem Next).run P w) : Did ρ h id w (.one (.ptr (some (id, 0)))) (h.put id l) r := by
  have hc := cells_rel hx hv
  have hlen := hc.length
  simp only [Array.length_toList] at hlen
  refine Did.new (v := .one (.ptr (some (id, 0)))) (v' := .pointer (some ⟨w.heap.size, 0, none⟩)) hR hid (t := t) (cs := v.cells) ?_ (by omega) (fun ρ' _ e => (⟨_, _, _, e, rfl⟩ : ptrR ρ' (id, 0) (.pointer (some ⟨w.heap.size, 0, none⟩)))) ?_
  · rw [List.take_of_length_le (by simp; omega)]; exact hc
  · rw [hr]
    simp only [Instr.box, newVar, newRow, Sem.run_bind, Result.andThen_ok, run_newObj, Sem.run_pure]
    rfl

theorem makeSlice_did {P : Program} {X : Env} (hT : X.T = tyOf P) {h : H} {id : Nat} {w : World} (hR : Rel ρ h.get h.ro w) (hid : ρ id = none) {t e : TypeId} (ht : (X.T t).ty = .slice e) {k k' : IntKind} {n m : Int}
    (hc : 0 ≤ n ∧ n ≤ m ∧ (X.T e).bytes * m ≤ 281474976710656 ∧ m ≤ 281474976710656 ∧ (X.T e).ty.isNone = false ∧ (X.T e).zero.length = (X.T e).size) {r : Result Next}
    (hr : r = (do pure (.value (← Instr.makeSlice t (.int k n) (.int k' m))) : Sem Next).run P w) :
    Did ρ h id w (.one (.sl (some (id, 0)) n.toNat (decide (n = m)) (X.T e).size)) (h.put id (zeros m.toNat (X.T e).zero)) r := by
  rw [hT] at *
  obtain ⟨h0, h1, h2, h3, hty, hzl⟩ := hc
  obtain ⟨z, hz, hzr⟩ := zero_rel (P := P) (t := e) (.inl (isNone_ne hty))
  obtain ⟨i, zv, d, hi, _, _, _, hsize, hbytes, _⟩ := tyOf_some (P := P) (t := e) (.inl (isNone_ne hty))
  have hzlen := (hzr ρ).length
  simp only [Array.length_toList] at hzlen
  have wr : ∀ q : Int, 0 ≤ q → q ≤ 281474976710656 → IntKind.i64.wrap q = q := fun q a b => IntWalk.i64_in q (by omega)
  have hzs : z.cells.size = (tyOf P e).size := by omega
  have hrows : LR (scR ρ) (zeros m.toNat (tyOf P e).zero) ((Array.range (m.toNat * (tyOf P e).size)).map ((if m.toNat * (tyOf P e).size = 0 then #[] else z.cells)[· % (if m.toNat * (tyOf P e).size = 0 then #[] else z.cells).size]!)).toList := by
    by_cases e0 : m.toNat * (tyOf P e).size = 0
    · simp only [e0, if_true]
      unfold zeros
      rw [hzl, e0]
      simp [LR]
    · simp only [e0, if_false]
      have := zeros_rel (hzr ρ) m.toNat
      rwa [hzs] at this ⊢
  have hlen := hrows.length
  refine Did.new hR hid (t := e) (cs := (Array.range (m.toNat * (tyOf P e).size)).map ((if m.toNat * (tyOf P e).size = 0 then #[] else z.cells)[· % (if m.toNat * (tyOf P e).size = 0 then #[] else z.cells).size]!)) ?_ (by simp at hlen ⊢; omega) (fun ρ' _ e' => ?_) ?_ (v' := .slice (some ⟨w.heap.size, 0, none⟩) n.toNat m.toNat)
  · rw [List.take_of_length_le (by simp at hlen ⊢; omega)]; exact hrows
  · exact ⟨w.heap.size, 0, _, m.toNat, _, e', rfl, .inl rfl, by omega, fun hh => by simp at hh; omega, by simp⟩
  · rw [hr]
    have t1 : ¬ (m < 0) := by omega
    have t2 : ¬ ((i.bytes : Int) * m > 2 ^ 48) := by rw [← hbytes]; omega
    have t3 : ¬ (n < 0) := by omega
    have t4 : ¬ (n > m) := by omega
    simp only [Instr.makeSlice, asInt, asIntOf, Sem.run_bind, Sem.run_pure, Result.andThen_ok, run_underlying' (under_slice ht), run_typeInfo' hi, wr m (by omega) h3, wr n h0 (by omega)]
    simp only [t1, t2, t3, t4, decide_false, Bool.or_false, Bool.false_eq_true, if_false, run_askRoom, Result.andThen_ok, Sem.run_bind, run_sizeOf' (P := P) (t := e) (.inl (isNone_ne hty))]
    by_cases e0 : m.toNat * (tyOf P e).size = 0
    · simp only [e0, if_true, Sem.run_pure, Result.andThen_ok, newRow, Sem.run_bind, run_newObj]
      rfl
    · simp only [e0, if_false, Sem.run_bind, hz, Sem.run_pure, Result.andThen_ok, newRow, run_newObj]
      rfl

theorem buildSlice_did {P : Program} {X : Env} (hT : X.T = tyOf P) {h : H} {id : Nat} {w : World} (hR : Rel ρ h.get h.ro w) (hid : ρ id = none) {t e : TypeId} (ht : (X.T t).ty = .slice e) {len : Nat} {parts : List (Nat × AV)} {l : List Sc} {vparts : Array (Nat × Value)}
    (hc : len * (X.T e).size ≤ 1000000 ∧ 0 < (X.T e).size ∧ (X.T e).zero.length = (X.T e).size ∧ (X.T e).ty.isNone = false) (hf : fills (fun i => some (i * (X.T e).size, (X.T e).size)) (zeros len (X.T e).zero) parts = some l)
    (hp : LR (partR ρ) parts vparts.toList) {r : Result Next} (hr : r = (do pure (.value (← Instr.buildSlice t len vparts)) : Sem Next).run P w) :
    Did ρ h id w (.one (.sl (some (id, 0)) len true (X.T e).size)) (h.put id l) r := by
  rw [hT] at *
  obtain ⟨h0, h1, hzl, hty⟩ := hc
  obtain ⟨z, hz, hzr⟩ := zero_rel (P := P) (t := e) (.inl (isNone_ne hty))
  have hzlen := (hzr ρ).length
  simp only [Array.length_toList] at hzlen
  have hzs : z.cells.size = (tyOf P e).size := by omega
  have hrows : LR (scR ρ) (zeros len (tyOf P e).zero) ((Array.range (len * (tyOf P e).size)).map ((if len * (tyOf P e).size = 0 then #[] else z.cells)[· % (if len * (tyOf P e).size = 0 then #[] else z.cells).size]!)).toList := by
    by_cases e0 : len * (tyOf P e).size = 0
    · simp only [e0, if_true]
      unfold zeros
      rw [hzl, e0]
      simp [LR]
    · simp only [e0, if_false]
      have := zeros_rel (hzr ρ) len
      rwa [hzs] at this ⊢
  obtain ⟨cells, hfill, hcl⟩ := fills_run hf hrows hp
  have hlen := hcl.length
  -- a build keeps the number of cells
  have hsz : ∀ (ps : List (Nat × AV)) (cs l : List Sc), fills (fun i => some (i * (tyOf P e).size, (tyOf P e).size)) cs ps = some l → l.length = cs.length := by
    intro ps
    induction ps with
    | nil => intro cs l h; simp [fills] at h; rw [h]
    | cons p ps ih =>
      intro cs l h
      obtain ⟨i, x⟩ := p
      simp only [fills, Option.bind_some, Option.bind_eq_some_iff] at h
      obtain ⟨xs, _, h⟩ := h
      split at h
      · rw [ih _ _ h]; simp; omega
      · simp at h
  have hl2 := hsz _ _ _ hf
  have hl3 : l.length = len * (tyOf P e).size := by rw [hl2]; simp [zeros, hzl]
  simp only [Array.length_toList] at hlen
  refine Did.new hR hid (t := e) (cs := cells) ?_ (by omega) (fun ρ' _ e' => ?_) ?_ (v' := .slice (some ⟨w.heap.size, 0, none⟩) len len)
  · rw [List.take_of_length_le (by simp; omega)]; exact hcl
  · exact ⟨w.heap.size, 0, _, len, _, e', rfl, .inl rfl, Nat.le_refl _, fun _ => rfl, by omega⟩
  · rw [hr]
    have t1 : ¬ (len * (tyOf P e).size > 2 ^ 24) := by omega
    simp only [Instr.buildSlice, Sem.run_bind, Sem.run_pure, Result.andThen_ok, run_underlying' (under_slice ht), run_sizeOf' (P := P) (t := e) (.inl (isNone_ne hty)), t1, if_false]
    by_cases e0 : len * (tyOf P e).size = 0
    · simp only [e0, if_true] at hfill
      simp only [e0, if_true, Sem.run_bind, Sem.run_pure, Result.andThen_ok]
      rw [hfill]
      simp only [newRow, Sem.run_bind, run_newObj, Sem.run_pure, Result.andThen_ok]
      rfl
    · simp only [e0, if_false] at hfill
      simp only [e0, if_false, Sem.run_bind, hz, Sem.run_pure, Result.andThen_ok]
      rw [hfill]
      simp only [newRow, Sem.run_bind, run_newObj, Sem.run_pure, Result.andThen_ok]
      rfl

end
end Go.AM
