/- The operations of the machine that read, make and write blocks are what the model does. No program here. -/
import Derived.Test.YtlkbcjhemhmfoaaGreatDoorAm2
import Derived.Laws.AppendOwn
import Derived.Laws.CopyOwn
set_option linter.unusedSimpArgs false
set_option linter.unusedVariables false
namespace Go.AM
open Go

theorem isNone_ne {y : Ty} (h : y.isNone = false) : y ≠ .none := by rintro rfl; simp [Ty.isNone] at h

section
variable {ρ : Rho}

/-! ### Builds -/
def partR (ρ : Rho) (x : Nat × AV) (v : Nat × Value) : Prop := x.1 = v.1 ∧ avR ρ x.2 v.2

theorem fills_run {place : Nat → Option (Nat × Nat)} : ∀ {parts : List (Nat × AV)} {vparts : List (Nat × Value)} {cs l : List Sc} {cells : Array Value}, fills place cs parts = some l → LR (scR ρ) cs cells.toList → LR (partR ρ) parts vparts →
    ∃ cells', Instr.fill place cells vparts = some cells' ∧ LR (scR ρ) l cells'.toList
  | [], [], cs, l, cells, h, hc, _ => by simp [fills] at h; subst h; exact ⟨cells, by simp [Instr.fill], hc⟩
  | (i, x) :: parts, (j, v) :: vparts, cs, l, cells, h, hc, hp => by
    obtain ⟨⟨hij, hxv⟩, hrest⟩ := hp
    have hij : i = j := hij
    subst hij
    simp only [fills, Option.bind_eq_some_iff, Prod.exists] at h
    obtain ⟨off, size, hpl, xs, hxs, h⟩ := h
    split at h
    · rename_i hc1
      have hcells := cells_rel hxs hxv
      have hlen := hcells.length
      have hsize : v.cells.size = size := by simpa [hc1.1] using hlen.symm
      have hcl := hc.length
      simp only [Array.length_toList] at hcl hlen
      have hfit : off + v.cells.size ≤ cells.size := by omega
      simp only [Instr.fill, hpl]
      have hcond : (decide (v.cells.size ≠ size) || decide (off + v.cells.size > cells.size)) = false := by simp; omega
      rw [if_neg (by simpa using hcond)]
      refine fills_run h ?_ hrest
      have e : (v.cells.zipIdx.foldl (fun cs (p : Value × Nat) => cs.setIfInBounds (off + p.2) p.1) cells) = (cells.toList.take off ++ v.cells.toList ++ cells.toList.drop (off + size)).toArray := by
        have := setAt_foldl v.cells.toList 0 off cells
        rw [Nat.add_zero] at this
        have ht : List.take (cells.size - off) v.cells.toList = v.cells.toList := List.take_of_length_le (by rw [Array.length_toList]; omega)
        rw [← Array.foldl_toList, Array.toList_zipIdx, this, ht, Array.length_toList, hsize]
      have e2 : (Array.foldl (fun cs (x : Value × Nat) => match x with | (c, j) => cs.setIfInBounds (off + j) c) cells v.cells.zipIdx) = (v.cells.zipIdx.foldl (fun cs (p : Value × Nat) => cs.setIfInBounds (off + p.2) p.1) cells) := rfl
      rw [e2, e]
      exact ((hc.take off).append hcells).append (hc.drop (off + size))
    · simp at h
  | [], _ :: _, _, _, _, _, _, hp => hp.elim
  | _ :: _, [], _, _, _, _, _, hp => hp.elim

theorem parts_rel {ev : Operand → AV} {ev' : Operand → Value} (he : ∀ x, avR ρ (ev x) (ev' x)) (parts : Array (Nat × Operand)) :
    LR (partR ρ) (parts.toList.map fun (i, x) => (i, ev x)) (parts.map fun (i, x) => (i, ev' x)).toList := by
  rw [Array.toList_map]
  exact LR.self (S := partR ρ) (f := fun p : Nat × Operand => (p.1, ev p.2)) (g := fun p : Nat × Operand => (p.1, ev' p.2)) (fun p => ⟨rfl, he p.2⟩) parts.toList

theorem zero_rel {P : Program} {t : TypeId} (h : (tyOf P t).ty ≠ .none ∨ 0 < (tyOf P t).size) : ∃ z : Value, (∀ w, (zeroValue t).run P w = .ok z w) ∧ ∀ ρ, LR (scR ρ) (tyOf P t).zero z.cells.toList := by
  obtain ⟨i, z, d, hi, _, hz, hc, _⟩ := tyOf_some h
  exact ⟨z, fun w => by simp [zeroValue, typeInfo, hi, hz], fun ρ => constCells_rel ρ hc⟩

theorem mapM_places {P : Program} {fields : Array Field} (hs : ∀ f ∈ fields.toList, ∀ w, (sizeOf f.type).run P w = .ok (tyOf P f.type).size w) (w : World) :
    (fields.mapM (fun f => do pure (f.offset, ← sizeOf f.type) : Field → Sem (Nat × Nat))).run P w = .ok (fields.map fun f => (f.offset, (tyOf P f.type).size)) w := by
  have key : ∀ (l : List Field), (∀ f ∈ l, ∀ w, (sizeOf f.type).run P w = .ok (tyOf P f.type).size w) → ∀ w, (l.mapM (fun f => do pure (f.offset, ← sizeOf f.type) : Field → Sem (Nat × Nat))).run P w = .ok (l.map fun f => (f.offset, (tyOf P f.type).size)) w := by
    intro l
    induction l with
    | nil => intro _ w; simp
    | cons f l ih =>
      intro h w
      simp only [List.mapM_cons, Sem.run_bind, h f (by simp), Result.andThen_ok, Sem.run_pure, ih (fun g hg => h g (by simp [hg]))]
      rfl
  have h2 := key fields.toList hs w
  rw [Array.mapM_eq_mapM_toList]
  simp only [Sem.run_map, h2, Result.andThen_ok]
  congr 1
  apply Array.toList_inj.1
  simp

/-! ### Reading -/
theorem H.load_get {h : H} {i o n : Nat} {l : List Sc} (hl : h.load i o n = some l) : ∃ bl, h.get i = some bl ∧ o + n ≤ bl.length ∧ l = (bl.drop o).take n := by
  unfold H.load at hl
  simp only [Option.bind_eq_some_iff] at hl
  obtain ⟨bl, hb, hl⟩ := hl
  split at hl
  · simp at hl; exact ⟨bl, hb, ‹_›, hl.symm⟩
  · simp at hl

/-- The cells that a load reads. -/
theorem Rel.reads {g : G} {ro : Nat} {w : World} (hR : Rel ρ g ro w) {i o n : Nat} {bl : List Sc} (hb : g i = some bl) (hle : o + n ≤ bl.length) {b base room : Nat} (hr : ρ i = some (b, base, room)) :
    ∃ vs : List Value, LR (scR ρ) ((bl.drop o).take n) vs ∧ vs.length = n ∧ ∀ j v, vs[j]? = some v → w.cell? ((⟨b, base + o, none⟩ : Addr).add j) = some v := by
  obtain ⟨b', base', room', e, cs, t, fz, hcs, hlen, hroom, hcell, _⟩ := hR.blk i bl hb
  rw [hr] at e
  simp only [Option.some.injEq, Prod.mk.injEq] at e
  obtain ⟨rfl, rfl, rfl⟩ := e
  refine ⟨(cs.toList.drop (base + o)).take n, LR.mk (by simp; omega) fun j x y hx hy => ?_, by simp; omega, fun j v hv => ?_⟩
  · have hj : j < n := by
      have := (List.getElem?_eq_some_iff.1 hx).1
      simp at this; omega
    rw [List.getElem?_take_of_lt hj, List.getElem?_drop] at hx hy
    obtain ⟨v, hv, hs⟩ := hcell _ _ hx
    have : cs[base + (o + j)]? = some y := by simpa [Nat.add_assoc] using hy
    rw [hv] at this
    injection this with this
    subst this
    exact hs
  · have hj : j < n := by
      have := (List.getElem?_eq_some_iff.1 hv).1
      simp at this; omega
    rw [List.getElem?_take_of_lt hj, List.getElem?_drop] at hv
    rw [add_plain]
    simp only [World.cell?, hcs, Option.isSome_none, Bool.false_eq_true, if_false]
    simpa using hv

theorem load_run {P : Program} {t : TypeId} (hty : (tyOf P t).ty ≠ .none) {h : H} {w : World} (hR : Rel ρ h.get h.ro w) {i o : Nat} {l : List Sc} (hl : h.load i o (tyOf P t).size = some l) {x : AV} (hx : mkAV (tyOf P t).isAgg l = some x)
    {v : Value} (hv : scR ρ (.ptr (some (i, o))) v) : ∃ v', avR ρ x v' ∧ (Instr.loadAt t v).run P w = .ok v' w := by
  obtain ⟨bl, hb, hle, rfl⟩ := H.load_get hl
  obtain ⟨b, base, room, hr, rfl⟩ := hv
  obtain ⟨vs, hvs, hlen, hcells⟩ := hR.reads hb hle hr
  obtain ⟨m1, m2⟩ := mkAV_rel hx hvs
  have hsize := fun w => run_sizeOf' (P := P) (t := t) (.inl hty) w
  have hagg := fun w => run_isAgg' (P := P) (t := t) hty w
  simp only [Instr.loadAt, Instr.sureAddr, loadVar, Sem.run_bind, Sem.run_pure, Result.andThen_ok, hagg]
  cases ha : (tyOf P t).isAgg with
  | true =>
    refine ⟨_, m1 ha, ?_⟩
    simp only [if_true, Sem.run_bind, hsize, Result.andThen_ok, Sem.run_pure]
    rw [← hlen, run_loadCells_list w ⟨b, base + o, none⟩ vs hcells]
    rfl
  | false =>
    obtain ⟨v, hv, hr'⟩ := m2 ha
    refine ⟨v, hr', ?_⟩
    have := hcells 0 v (by rw [hv]; rfl)
    rw [add_plain, Nat.add_zero] at this
    simp only [Bool.false_eq_true, if_false, run_load, this]

/-! ### Writing -/
theorem run_store' (P : Program) {w : World} {b x : Nat} {cs : Array Value} {t : TypeId} (hb : w.heap[b]? = some (.cells cs t (0, 0))) (hx : x < cs.size) {v : Value} (hv : v.oneCell' = true) :
    (store ⟨b, x, none⟩ v).run P w = .ok () { w with heap := w.heap.setIfInBounds b (.cells (cs.setIfInBounds x v) t (0, 0)) } := by
  have hcell : w.cell? ⟨b, x, none⟩ = some (cs[x]) := by simp [World.cell?, hb, hx]
  have hfz : w.frozen? ⟨b, x, none⟩ = false := by simp [World.frozen?, hb]
  have hset : w.setCell ⟨b, x, none⟩ v = { w with heap := w.heap.setIfInBounds b (.cells (cs.setIfInBounds x v) t (0, 0)) } := by
    unfold World.setCell
    congr 1
    have hlt := (Array.getElem?_eq_some_iff.1 hb).1
    apply Array.ext_getElem?
    intro j
    rw [Array.getElem?_modify, Array.getElem?_setIfInBounds]
    by_cases e : b = j
    · subst e
      have h2 := (Array.getElem?_eq_some_iff.1 hb).2
      simp [hlt, h2]
    · simp [e]
  rw [run_store P w ⟨b, x, none⟩ v .plain hv]
  simp only [hcell, hfz, hset]
  simp

theorem stores_run (P : Program) {b x : Nat} {t : TypeId} : ∀ (vs : List Value) (k : Nat) (w : World) (cs : Array Value), w.heap[b]? = some (.cells cs t (0, 0)) → x + k + vs.length ≤ cs.size → (∀ v ∈ vs, v.oneCell' = true) →
    ∃ cs' : Array Value, (storeCells ⟨b, x, none⟩ vs k).run P w = .ok () { w with heap := w.heap.setIfInBounds b (.cells cs' t (0, 0)) } ∧ cs'.toList = cs.toList.take (x + k) ++ vs ++ cs.toList.drop (x + k + vs.length)
  | [], k, w, cs, hb, _, _ => by
    refine ⟨cs, ?_, by simp⟩
    have : w.heap.setIfInBounds b (.cells cs t (0, 0)) = w.heap := by
      apply Array.ext_getElem?
      intro j
      rw [Array.getElem?_setIfInBounds]
      split
      · rename_i e; subst e
        have hlt := (Array.getElem?_eq_some_iff.1 hb).1
        simp [hlt, hb]
        exact (Array.getElem?_eq_some_iff.1 hb).2.symm
      · rfl
    simp [storeCells, this]
  | v :: vs, k, w, cs, hb, hle, hone => by
    simp only [List.length_cons] at hle
    have h1 := run_store' P hb (x := x + k) (by omega) (hone v (by simp))
    have hlt := (Array.getElem?_eq_some_iff.1 hb).1
    have hb' : ({ w with heap := w.heap.setIfInBounds b (.cells (cs.setIfInBounds (x + k) v) t (0, 0)) } : World).heap[b]? = some (.cells (cs.setIfInBounds (x + k) v) t (0, 0)) := by simp [hlt]
    obtain ⟨cs', h2, h3⟩ := stores_run P (b := b) (x := x) vs (k + 1) _ _ hb' (by rw [Array.size_setIfInBounds]; omega) fun u hu => hone u (by simp [hu])
    refine ⟨cs', ?_, ?_⟩
    · simp only [storeCells, Sem.run_bind, add_plain, h1, Result.andThen_ok, h2]
      simp
    · rw [h3]
      apply List.ext_getElem?
      intro j
      simp only [Array.toList_setIfInBounds, List.length_cons]
      have hk : x + k < cs.size := by omega
      have : List.take (x + (k + 1)) (cs.toList.set (x + k) v) = List.take (x + k) cs.toList ++ [v] := by
        rw [show x + (k + 1) = x + k + 1 from rfl, List.take_succ_eq_append_getElem (by simpa using hk), List.take_set]
        simp
        rw [List.set_eq_of_length_le (by simp; omega)]
      rw [this, List.drop_set, if_pos (by omega), show x + (k + 1) + vs.length = x + k + (vs.length + 1) by omega]
      simp


/-- A block of the call's own is written (i = id), or goes on under another number from some place on. -/
theorem Rel.wrote {g : G} {ro : Nat} {w : World} (hR : Rel ρ g ro w) {i : Nat} {bl : List Sc} (hb : g i = some bl) (hro : ro ≤ i) {b base room : Nat} (hr : ρ i = some (b, base, room)) {cs : Array Value} {t : TypeId} {fz : Nat × Nat} (hcs : w.heap[b]? = some (.cells cs t fz))
    {cs' : Array Value} (hsz : cs'.size = cs.size) {l' : List Sc} {o : Nat} (ho : o ≤ room) (hlen : l'.length ≤ room - o) (hcell : ∀ (j : Nat) x, l'[j]? = some x → ∃ v, cs'[base + o + j]? = some v ∧ scR ρ x v)
    {id : Nat} (hid : (id = i ∧ o = 0) ∨ (id ≠ i ∧ ρ id = none ∧ ro ≤ id)) :
    let w' : World := { w with heap := w.heap.setIfInBounds b (.cells cs' t (0, 0)) }
    let ρ' : Rho := fun k => if k = id then some (b, base + o, room - o) else ρ k
    let g' : G := fun k => if k = id then some l' else if k = i then none else g k
    Rel ρ' g' ro w' ∧ Stp ρ ρ' g g' ro w w' ∧ ρ' id = some (b, base + o, room - o) := by
  intro w' ρ' g'
  have hlt := (Array.getElem?_eq_some_iff.1 hcs).1
  obtain ⟨b', base', room', e, cs1, t1, fz1, hcs1, hl1, hroom, hcell1, hown⟩ := hR.blk i bl hb
  rw [hr] at e
  simp only [Option.some.injEq, Prod.mk.injEq] at e
  obtain ⟨rfl, rfl, rfl⟩ := e
  rw [hcs] at hcs1
  simp only [Option.some.injEq, Obj.cells.injEq] at hcs1
  obtain ⟨rfl, rfl, rfl⟩ := hcs1
  have hle : ρ.le ρ' := fun k p e => by
    show (if k = id then _ else _) = _
    by_cases hk : k = id
    · subst hk
      rcases hid with ⟨rfl, rfl⟩ | ⟨_, hn, _⟩
      · rw [hr] at e; injection e with e; subst e; simp
      · rw [hn] at e; cases e
    · rw [if_neg hk]; exact e
  have hnew : w'.heap[b]? = some (.cells cs' t (0, 0)) := by simp [w', hlt]
  have hoth : ∀ k, k ≠ b → w'.heap[k]? = w.heap[k]? := fun k hk => by
    show (w.heap.setIfInBounds _ _)[k]? = _
    rw [Array.getElem?_setIfInBounds_ne (Ne.symm hk)]
  have hid2 : ro ≤ id := by rcases hid with ⟨rfl, _⟩ | ⟨_, _, h⟩ <;> assumption
  have old : ∀ k l, g' k = some l → k ≠ id → g k = some l ∧ k ≠ i := fun k l hk hne => by
    have hk : (if k = id then some l' else if k = i then none else g k) = some l := hk
    rw [if_neg hne] at hk
    split at hk
    · cases hk
    · exact ⟨hk, ‹_›⟩
  have oldne : ∀ k l, g k = some l → k ≠ i → ∀ p, ρ k = some p → p.1 ≠ b := fun k l hk hne p hp => hR.apart k i l bl hk hb hne hro p _ hp hr
  refine ⟨⟨fun k l hk => ?_, fun k j l1 l2 hk hj hne hroj p q hp hq => ?_⟩, ⟨hle, rfl, rfl, rfl, by simp [w'], fun k hk hn => hoth k ?_, fun k hk hw => ?_, fun a => ?_⟩, by simp [ρ']⟩
  · by_cases hki : k = id
    · subst hki
      have e : l' = l := by simpa [g'] using hk
      subst e
      exact ⟨b, base + o, room - o, by simp [ρ'], cs', t, (0, 0), hnew, hlen, by omega, fun j x hx => let ⟨v, hv, hs⟩ := hcell j x hx; ⟨v, hv, hs.mono hle⟩, fun _ => rfl⟩
    · obtain ⟨hk', hki'⟩ := old k l hk hki
      obtain ⟨b2, base2, room2, e2, hl2⟩ := hR.blk k l hk'
      exact ⟨b2, base2, room2, hle _ _ e2, (hl2.world (hoth b2 (oldne k l hk' hki' _ e2))).rho hle⟩
  · by_cases hk' : k = id <;> by_cases hj' : j = id
    · exact absurd (hk'.trans hj'.symm) hne
    · obtain ⟨hj2, hj3⟩ := old j l2 hj hj'
      have hq' : ρ j = some q := by simpa [ρ', hj'] using hq
      have hp' : p = (b, base + o, room - o) := by simpa [ρ', hk'] using hp.symm
      subst hp'
      exact (oldne j l2 hj2 hj3 q hq').symm
    · obtain ⟨hk2, hk3⟩ := old k l1 hk hk'
      have hp' : ρ k = some p := by simpa [ρ', hk'] using hp
      have hq' : q = (b, base + o, room - o) := by simpa [ρ', hj'] using hq.symm
      subst hq'
      exact oldne k l1 hk2 hk3 p hp'
    · obtain ⟨hk2, _⟩ := old k l1 hk hk'
      obtain ⟨hj2, _⟩ := old j l2 hj hj'
      exact hR.apart k j l1 l2 hk2 hj2 hne hroj p q (by simpa [ρ', hk'] using hp) (by simpa [ρ', hj'] using hq)
  · rintro rfl
    exact hn ⟨i, bl, _, hro, hb, hr, rfl⟩
  · obtain ⟨j, l, p, hroj, hj, hp, rfl⟩ := hw
    by_cases hj' : j = id
    · have hp' : p = (b, base + o, room - o) := by simpa [ρ', hj'] using hp.symm
      subst hp'
      exact ⟨i, bl, _, hro, hb, hr, rfl⟩
    · exact ⟨j, l, p, hroj, (old j l hj hj').1, by simpa [ρ', hj'] using hp, rfl⟩
  · unfold World.frozen?
    by_cases ha : a.block = b
    · rw [ha, hnew, hcs, hown hro]
    · rw [hoth _ ha]

theorem Rel.congr {ρ : Rho} {g g' : G} {ro : Nat} {w : World} (h : Rel ρ g ro w) (e : ∀ i, g' i = g i) : Rel ρ g' ro w := by
  have : g' = g := funext e
  subst this
  exact h
theorem Stp.congr {ρ ρ' : Rho} {g g' g'' : G} {ro : Nat} {w w' : World} (h : Stp ρ ρ' g g' ro w w') (e : ∀ i, g'' i = g' i) : Stp ρ ρ' g g'' ro w w' := by
  have : g'' = g' := funext e
  subst this
  exact h

/-- A store: the world behind it. -/
theorem store_rel (P : Program) {h : H} {w : World} (hR : Rel ρ h.get h.ro w) {i o : Nat} {xs : List Sc} {h' : H} (hs : h.store i o xs = some h') {b base room : Nat} (hr : ρ i = some (b, base, room)) {vs : List Value} (hv : LR (scR ρ) xs vs) :
    ∃ w', (storeCells ⟨b, base + o, none⟩ vs).run P w = .ok () w' ∧ Rel ρ h'.get h'.ro w' ∧ Stp ρ ρ h.get h'.get h.ro w w' ∧ h'.ro = h.ro ∧ h'.nx = h.nx := by
  unfold H.store at hs
  split at hs
  · rename_i hro
    simp only [Option.bind_eq_some_iff] at hs
    obtain ⟨bl, hb, hs⟩ := hs
    split at hs
    · rename_i hle
      simp only [Option.some.injEq] at hs
      subst hs
      obtain ⟨b', base', room', e, cs, t, fz, hcs, hlen, hroom, hcell, hown⟩ := hR.blk i bl hb
      rw [hr] at e
      simp only [Option.some.injEq, Prod.mk.injEq] at e
      obtain ⟨rfl, rfl, rfl⟩ := e
      have hfz := hown hro
      subst hfz
      have hvl := hv.length
      have hone : ∀ v ∈ vs, v.oneCell' = true := fun v hm => by
        obtain ⟨j, hj, e⟩ := List.getElem_of_mem hm
        have : ∃ s, xs[j]? = some s := ⟨xs[j]'(by omega), by simp [hvl, hj]⟩
        obtain ⟨s, hs⟩ := this
        obtain ⟨v', hv', hr'⟩ := hv.get hs
        have : v' = v := by rw [List.getElem?_eq_getElem hj, e] at hv'; injection hv' with h; exact h.symm
        subst this
        exact hr'.one
      obtain ⟨cs', hrun, hcs'⟩ := stores_run P (b := b) (x := base + o) vs 0 w cs hcs (by omega) hone
      have hsz : cs'.size = cs.size := by
        rw [← Array.length_toList, hcs']
        simp; omega
      have key := hR.wrote hb hro hr hcs hsz (l' := bl.take o ++ xs ++ bl.drop (o + xs.length)) (o := 0) (Nat.zero_le _) (by simp; omega) (fun j x hx => by
        rw [← Array.getElem?_toList, hcs', Nat.add_zero, Nat.add_zero]
        by_cases h1 : j < o
        · have e1 : (bl.take o ++ xs ++ bl.drop (o + xs.length))[j]? = bl[j]? := by
            rw [List.append_assoc, List.getElem?_append_left (by simp; omega), List.getElem?_take_of_lt h1]
          rw [e1] at hx
          obtain ⟨v, hv, hs⟩ := hcell j x hx
          refine ⟨v, ?_, hs⟩
          rw [List.append_assoc, List.getElem?_append_left (by simp; omega), List.getElem?_take_of_lt (by omega)]
          simpa using hv
        · by_cases h2 : j < o + xs.length
          · have e1 : (bl.take o ++ xs ++ bl.drop (o + xs.length))[j]? = xs[j - o]? := by
              rw [List.append_assoc, List.getElem?_append_right (by simp; omega), List.getElem?_append_left (by simp; omega)]
              congr 1; simp; omega
            rw [e1] at hx
            obtain ⟨v, hv, hs⟩ := hv.get hx
            refine ⟨v, ?_, hs⟩
            rw [List.append_assoc, List.getElem?_append_right (by simp; omega), List.getElem?_append_left (by simp; omega)]
            rw [← hv]; congr 1; simp; omega
          · have e1 : (bl.take o ++ xs ++ bl.drop (o + xs.length))[j]? = bl[j]? := by
              rw [List.append_assoc, List.getElem?_append_right (by simp; omega), List.getElem?_append_right (by simp; omega), List.getElem?_drop]
              congr 1; simp; omega
            rw [e1] at hx
            obtain ⟨v, hv, hs⟩ := hcell j x hx
            refine ⟨v, ?_, hs⟩
            rw [List.append_assoc, List.getElem?_append_right (by simp; omega), List.getElem?_append_right (by simp; omega), List.getElem?_drop]
            rw [← Array.getElem?_toList] at hv
            rw [← hv]; congr 1; simp; omega) (id := i) (.inl ⟨rfl, rfl⟩)
      obtain ⟨k1, k2, k3⟩ := key
      have eρ : (fun k => if k = i then some (b, base + 0, room - 0) else ρ k) = ρ := by
        funext k
        by_cases hk : k = i
        · subst hk; simp [hr]
        · simp [hk]
      rw [eρ] at k1 k2
      refine ⟨_, hrun, k1.congr fun k => ?_, k2.congr fun k => ?_, rfl, rfl⟩ <;>
      · rw [H.get_put]
        by_cases hk : k = i <;> simp [hk]
    · simp at hs
  · simp at hs

end
end Go.AM
