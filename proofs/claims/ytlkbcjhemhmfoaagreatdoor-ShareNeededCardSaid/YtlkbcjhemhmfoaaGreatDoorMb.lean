/- The machine, second part. -/
import Derived.Test.YtlkbcjhemhmfoaaGreatDoorMa
section
/- append, copy, clear; and every operation together: the machine and the model. No program here. -/
set_option linter.unusedSimpArgs false
set_option linter.unusedVariables false
namespace Go.AM
open Go

section
variable {ρ : Rho}

/-- What a slice that is read reads as. -/
theorem lenCells_rel {h : H} {w : World} (hR : Rel ρ h.get h.ro w) {size n : Nat} {x : AV} {l : List Sc} (hl : lenCells h size x = some (n, l)) {v : Value} (hv : avR ρ x v) :
    ∃ a c vs, v = .slice a n c ∧ n ≤ c ∧ LR (scR ρ) l vs ∧ vs.length = n * size ∧ (n ≠ 0 → ∃ ad, a = some ad ∧ ∀ j u, vs[j]? = some u → w.cell? (ad.add j) = some u) := by
  unfold lenCells at hl
  split at hl
  · simp only [Option.some.injEq, Prod.mk.injEq] at hl
    obtain ⟨rfl, rfl⟩ := hl
    obtain ⟨rfl, rfl⟩ := hv
    exact ⟨none, 0, [], rfl, Nat.le_refl _, trivial, by simp, fun h => absurd rfl h⟩
  · rename_i i o m full sz
    split at hl
    · rename_i hsz
      subst hsz
      simp only [Option.map_eq_some_iff, Prod.mk.injEq] at hl
      obtain ⟨l', hload, rfl, rfl⟩ := hl
      obtain ⟨b, base, room, c, ad, hr, rfl, had, hnc, hf, hroom⟩ := hv
      obtain ⟨bl, hb, hle, rfl⟩ := H.load_get hload
      obtain ⟨vs, hvs, hlen, hcells⟩ := hR.reads hb hle hr
      refine ⟨_, c, vs, rfl, hnc, hvs, hlen, fun hn => ⟨ad, rfl, ?_⟩⟩
      rcases had with had | had
      · subst had; exact hcells
      · omega
    · simp at hl
  · simp at hl

theorem LR.one {l : List Sc} {vs : List Value} (h : LR (scR ρ) l vs) : ∀ v ∈ vs, v.oneCell' = true := fun v hm => by
  obtain ⟨j, hj, e⟩ := List.getElem_of_mem hm
  have hl := h.length
  obtain ⟨v', hv', hr'⟩ := h.get (x := l[j]'(by omega)) (j := j) (by simp [show j < l.length by omega])
  have : v' = v := by rw [List.getElem?_eq_getElem hj, e] at hv'; injection hv' with h; exact h.symm
  subst this
  exact hr'.one

theorem append_zero {P : Program} {t e ty : TypeId} (ht : P.underlying t = some (.slice e)) {i : TypeInfo} (hi : P.info? e = some i) (a : Option Addr) (n c : Nat) (hnc : n ≤ c) (b : Option Addr) (c' : Nat) (w : World) :
    (Builtin.append_ #[t, t] ty #[.slice a n c, .slice b 0 c']).run P w = .ok (.slice a n c) w := by
  cases a <;> cases b <;> simp [Builtin.append_, run_underlying' ht, sizeOf, typeInfo, hi, Builtin.lenOf, hnc, Builtin.firstCells, loadCells, loadCellsFrom, storeCells]

/-- The row goes on in new memory. -/
theorem append_new_did {h : H} {id : Nat} {w : World} (hR : Rel ρ h.get h.ro w) (hid : ρ id = none) {e : TypeId} {sz : Nat} {olds news : List Sc} {vo vn : List Value} (ho : LR (scR ρ) olds vo) (hn : LR (scR ρ) news vn)
    {N C : Nat} (hN : (olds ++ news).length = N * sz) (hC : N ≤ C) {z : Array Value} (hz : z.size = sz) {h' : H} (hh : ∀ i l, h'.get i = some l → (h.put id (olds ++ news)).get i = some l) (hro : h'.ro = h.ro) (hnx : h'.nx = h.nx) (hget : h'.get id = some (olds ++ news))
    {r : Result Next} (hr : r = .ok (.value (.slice (some ⟨w.heap.size, 0, none⟩) N C)) (w.drew.alloc (.cells (vo.toArray ++ vn.toArray ++ Builtin.zeroCells z (C - N)) e))) :
    Did ρ h id w (.one (.sl (some (id, 0)) N false sz)) h' r := by
  have hl := (ho.append hn)
  have hlen := hl.length
  have hcs : (vo.toArray ++ vn.toArray ++ Builtin.zeroCells z (C - N)).size = C * sz := by
    simp only [Array.size_append, List.size_toArray, size_zeroCells, hz]
    have e1 : vo.length + vn.length = N * sz := by rw [← List.length_append, ← hlen]; exact hN
    rw [e1, ← Nat.add_mul]
    congr 1; omega
  obtain ⟨h1, h2, h3⟩ := hR.drew.new hid (t := e) (l := olds ++ news) (cs := vo.toArray ++ vn.toArray ++ Builtin.zeroCells z (C - N)) (by
    have : (vo.toArray ++ vn.toArray ++ Builtin.zeroCells z (C - N)).toList.take (olds ++ news).length = vo ++ vn := by
      simp only [Array.toList_append, hlen]
      exact List.take_left
    rw [this]; exact hl) (by rw [hcs, hN]; exact Nat.mul_le_mul_right _ hC)
  have h3' : (fun i => if i = id then some (w.drew.heap.size, 0, (vo.toArray ++ vn.toArray ++ Builtin.zeroCells z (C - N)).size) else ρ i) id = some (w.heap.size, 0, C * sz) := by rw [h3, hcs]; rfl
  have h4 : avR (fun i => if i = id then some (w.drew.heap.size, 0, (vo.toArray ++ vn.toArray ++ Builtin.zeroCells z (C - N)).size) else ρ i) (.one (.sl (some (id, 0)) N false sz)) (.slice (some ⟨w.heap.size, 0, none⟩) N C) :=
    ⟨w.heap.size, 0, C * sz, C, ⟨w.heap.size, 0, none⟩, h3', rfl, .inl rfl, hC, fun hh => by simp at hh, by omega⟩
  refine ⟨_, _, _, .inl hr, h4, ?_, ?_, hro, hnx, fun i hi hne => by simp [hne, hi]⟩
  · rw [hro]
    exact (h1.congr fun i => H.get_put ..).sub hh fun _ _ _ h => h
  · exact (((Stp.drew ρ h.get h.ro w).trans h2).congr fun i => H.get_put ..).sub hh

theorem append_did {P : Program} {X : Env} (hT : X.T = tyOf P) {h : H} {id : Nat} {w : World} (hR : Rel ρ h.get h.ro w) (hid : ρ id = none) (hidro : h.ro ≤ id) {t u ty : TypeId} {s x v : AV} {h' : H} (ha : abuiltin X h id .append [t, u] [s, x] = some (v, h')) {vs vx : Value} (hs : avR ρ s vs) (hx : avR ρ x vx)
    {r : Result Next} (hr : r = (do pure (.value (← Builtin.append_ #[t, u] ty #[vs, vx])) : Sem Next).run P w) : Did ρ h id w v h' r := by
  have hgid : h.get id = none := by
    cases hg : h.get id with
    | none => rfl
    | some l => obtain ⟨b, base, room, e, _⟩ := hR.blk id l hg; rw [hid] at e; cases e
  obtain ⟨XT, XF, XE, Xs, Xw⟩ := X
  dsimp only at hT
  subst hT
  simp only [abuiltin] at ha
  split at ha
  · rename_i e ht
    split at ha
    · simp at ha
    · rename_i hcond
      have htu : t = u := by
        rcases Nat.decEq t u with h | h
        · exact absurd (Or.inl h) hcond
        · exact h
      have hs0 : (tyOf P e).size ≠ 0 := fun h => hcond (Or.inr (Or.inl h))
      subst htu
      simp only [Option.bind_eq_some_iff, Prod.exists] at ha
      obtain ⟨n, new, hlc, ha⟩ := ha
      obtain ⟨a', c', vn, rfl, hnc', hvn, hvl, hcells⟩ := lenCells_rel hR hlc hx
      obtain ⟨i, z, d, hi, _, hz, hcc, hsize, hbytes, _⟩ := tyOf_some (P := P) (t := e) (.inr (by omega))
      have hu := under_slice ht
      obtain ⟨zv, hzv, hzr⟩ := zero_rel (P := P) (t := e) (.inr (by omega))
      have hzl : z.cells.size = (tyOf P e).zero.length := by
        have := (constCells_rel ρ hcc).length
        simpa using this.symm
      have hzs : z.cells.size = (tyOf P e).size := by
        rw [hzl]
        rcases Nat.decEq (tyOf P e).zero.length (tyOf P e).size with hne | he
        · exact absurd (Or.inr (Or.inr hne)) hcond
        · exact he
      have hfit : ∀ N old : Nat, old < N → N * i.bytes ≤ 140737488355328 → Builtin.nextslicecap N old * i.bytes ≤ 281474976710656 := fun N old h1 h2 => growslice_fits h1 h2
      have bpos : (tyOf P e).bytes = i.bytes := hbytes
      split at ha
      · -- a nil slice
        obtain ⟨rfl, rfl⟩ := hs
        split at ha
        · rename_i hn0
          subst hn0
          simp only [Option.some.injEq, Prod.mk.injEq] at ha
          obtain ⟨rfl, rfl⟩ := ha
          refine Did.pure (v := .one (.sl none 0 true 0)) hR (v' := .slice none 0 0) (⟨rfl, rfl⟩ : scR ρ (.sl none 0 true 0) (.slice none 0 0)) ?_
          rw [hr]
          simp only [Sem.run_bind, append_zero hu hi none 0 0 (Nat.le_refl _), Result.andThen_ok, Sem.run_pure]
        · rename_i hn0
          split at ha
          · rename_i hb
            simp only [Option.some.injEq, Prod.mk.injEq] at ha
            obtain ⟨rfl, rfl⟩ := ha
            obtain ⟨ad, rfl, hcl⟩ := hcells hn0
            have hrun := run_append_nil (P := P) w t ty e i z hu hi hz ad n c' vn (by rw [hvl, hsize]) hcl (by omega) (by omega) (by rw [← bpos]; omega)
            refine append_new_did hR hid (e := e) (olds := []) (news := new) (vo := []) (vn := vn) trivial hvn (N := n) (C := grownCap w n 0 e) (z := z.cells) ?_ (grownCap_ge w n 0 e) hzs (fun i l h => h) rfl rfl (by rw [H.get_put]; simp) ?_
            · rw [List.nil_append, ← hvl]; exact hvn.length
            · rw [hr]
              simp only [Sem.run_bind, hrun, Result.andThen_ok, Sem.run_pure]
              simp
          · simp at ha
      · rename_i i0 o sn full sz
        have hs' := hs
        obtain ⟨b, base, room, c, ad, hrho, rfl, had, hnc, hf, hroom⟩ := hs
        split at ha
        · rename_i hn0
          subst hn0
          simp only [Option.some.injEq, Prod.mk.injEq] at ha
          obtain ⟨rfl, rfl⟩ := ha
          refine Did.pure hR hs' ?_
          rw [hr]
          simp only [Sem.run_bind, append_zero hu hi (some ad) sn c hnc, Result.andThen_ok, Sem.run_pure]
        · rename_i hn0
          obtain ⟨ax, rfl, hcl⟩ := hcells hn0
          split at ha
          · rename_i hb
            obtain ⟨rfl, hb1, hb2⟩ := hb
            simp only [Option.bind_eq_some_iff] at ha
            obtain ⟨old, hold, ha⟩ := ha
            obtain ⟨bl, hbl, hle, rfl⟩ := H.load_get hold
            obtain ⟨vo, hvo, hvol, hvoc⟩ := hR.reads hbl hle hrho
            have hvoc' : ∀ (j : Nat) v, vo[j]? = some v → w.cell? (ad.add j) = some v := fun j v hj => by
              rcases had with had | had
              · subst had; exact hvoc j v hj
              · have : vo = [] := List.eq_nil_of_length_eq_zero (by rw [hvol, show sn = 0 by omega]; simp)
                subst this; simp at hj
            have hlen1 : ((bl.drop o).take (sn * (tyOf P e).size) ++ new).length = (sn + n) * (tyOf P e).size := by
              rw [List.length_append, hvo.length, hvn.length, hvol, hvl, Nat.add_mul]
            have grow : c < sn + n → ∀ h' : H, (∀ i l, h'.get i = some l → (h.put id ((bl.drop o).take (sn * (tyOf P e).size) ++ new)).get i = some l) → h'.ro = h.ro → h'.nx = h.nx → h'.get id = some ((bl.drop o).take (sn * (tyOf P e).size) ++ new) →
                Did ρ h id w (.one (.sl (some (id, 0)) (sn + n) false (tyOf P e).size)) h' r := by
              intro hc h' k1 k2 k3 k4
              have hrun := run_append_grow (P := P) w t ty e i z hu hi hz ad sn c vo (by rw [hvol, hsize]) hvoc' ax n c' vn (by rw [hvl, hsize]) hcl hc (by omega) (hfit _ _ hc (by rw [← bpos]; omega))
              refine append_new_did hR hid (e := e) hvo hvn (N := sn + n) (C := grownCap w (sn + n) c e) (z := z.cells) hlen1 (grownCap_ge w (sn + n) c e) hzs k1 k2 k3 k4 ?_
              rw [hr]
              simp only [Sem.run_bind, hrun, Result.andThen_ok, Sem.run_pure]
            split at ha
            · rename_i hfull
              simp only [Option.some.injEq, Prod.mk.injEq] at ha
              obtain ⟨rfl, rfl⟩ := ha
              exact grow (by have := hf hfull; omega) _ (fun _ _ h => h) rfl rfl (by rw [H.get_put]; simp)
            · rename_i hfull
              split at ha
              · rename_i hro
                simp only [Option.some.injEq, Prod.mk.injEq] at ha
                obtain ⟨rfl, rfl⟩ := ha
                by_cases hc : c < sn + n
                · refine grow hc _ (fun k l hk => ?_) rfl rfl (by rw [H.get_put]; simp)
                  rw [H.get_put, H.get_kill] at hk
                  rw [H.get_put]
                  split at hk
                  · rename_i e1; rw [if_pos e1]; exact hk
                  · rename_i e1
                    rw [if_neg e1]
                    split at hk
                    · cases hk
                    · exact hk
                · -- there is room: the row is written where it lies
                  have had' : ad = ⟨b, base + o, none⟩ := by
                    rcases had with had | had
                    · exact had
                    · omega
                  subst had'
                  obtain ⟨b', base', room', e', cs, ct, fz, hcs, hlb, hrm, hcell, hown⟩ := hR.blk i0 bl hbl
                  rw [hrho] at e'
                  simp only [Option.some.injEq, Prod.mk.injEq] at e'
                  obtain ⟨rfl, rfl, rfl⟩ := e'
                  have hfz := hown hro
                  subst hfz
                  have hmul : (sn + n) * (tyOf P e).size ≤ c * (tyOf P e).size := Nat.mul_le_mul_right _ (by omega)
                  rw [Nat.add_mul] at hmul
                  obtain ⟨cs', hst, hcs'⟩ := stores_run P (b := b) (x := base + o + sn * (tyOf P e).size) vn 0 w cs hcs (by omega) hvn.one
                  have hsz' : cs'.size = cs.size := by
                    rw [← Array.length_toList, hcs']
                    simp; omega
                  rw [Nat.add_zero] at hcs'
                  have hold2 : (bl.drop o).take (sn * (tyOf P e).size) = (bl.drop o).take (sn * (tyOf P e).size) := rfl
                  have holdl : ((bl.drop o).take (sn * (tyOf P e).size)).length = sn * (tyOf P e).size := by rw [hvo.length, hvol]
                  have hnewl : new.length = n * (tyOf P e).size := by rw [hvn.length, hvl]
                  have hne : id ≠ i0 := fun hh => by rw [hh] at hid; rw [hid] at hrho; cases hrho
                  obtain ⟨k1, k2, k3⟩ := hR.wrote hbl hro hrho hcs hsz' (l' := (bl.drop o).take (sn * (tyOf P e).size) ++ new) (o := o) (by omega) (by rw [hlen1, Nat.add_mul]; omega) (fun j x hx => by
                    by_cases h1 : j < sn * (tyOf P e).size
                    · rw [List.getElem?_append_left (by omega), List.getElem?_take_of_lt h1, List.getElem?_drop] at hx
                      obtain ⟨v, hv, hs⟩ := hcell _ x hx
                      refine ⟨v, ?_, hs⟩
                      rw [← Array.getElem?_toList, hcs', List.append_assoc, List.getElem?_append_left (by simp; omega), List.getElem?_take_of_lt (by omega)]
                      rw [← hv, Nat.add_assoc]; simp
                    · rw [List.getElem?_append_right (by omega), holdl] at hx
                      have hj : j - sn * (tyOf P e).size < new.length := (List.getElem?_eq_some_iff.1 hx).1
                      obtain ⟨v, hv, hs⟩ := hvn.get hx
                      refine ⟨v, ?_, hs⟩
                      rw [← Array.getElem?_toList, hcs', List.append_assoc, List.getElem?_append_right (by simp; omega), List.getElem?_append_left (by simp; omega)]
                      rw [← hv]; congr 1; simp; omega) (id := id) (.inr ⟨hne, hid, hidro⟩)
                  have hrun : (Builtin.append_ #[t, t] ty #[.slice (some ⟨b, base + o, none⟩) sn c, .slice (some ax) n c']).run P w = .ok (.slice (some ⟨b, base + o, none⟩) (sn + n) c) { w with heap := w.heap.setIfInBounds b (.cells cs' ct (0, 0)) } := by
                    have hfc := run_firstCells_some (P := P) w i.size n ax n c' vn (by rw [hvl, hsize]) hcl
                    have hfc' : (Builtin.firstCells i.size n (.slice (some ax) n c')).run P w = .ok vn.toArray w := by
                      have := run_firstCells_some (P := P) w i.size n ax n c' vn (by rw [hvl, hsize]) hcl
                      exact this
                    have hroom' : sn + n ≤ c := by omega
                    rw [hsize] at hst
                    simp [Builtin.append_, run_underlying' hu, sizeOf, typeInfo, hi, Builtin.lenOf, hroom', hfc', add_plain, hst]
                  have hval : avR (fun k => if k = id then some (b, base + o, room - o) else ρ k) (.one (.sl (some (id, 0)) (sn + n) false (tyOf P e).size)) (.slice (some ⟨b, base + o, none⟩) (sn + n) c) :=
                    ⟨b, base + o, room - o, c, ⟨b, base + o, none⟩, k3, rfl, .inl (by rw [Nat.add_zero]), by omega, fun hh => by simp at hh, by omega⟩
                  have hr' : r = .ok (.value (.slice (some ⟨b, base + o, none⟩) (sn + n) c)) { w with heap := w.heap.setIfInBounds b (.cells cs' ct (0, 0)) } := by
                    rw [hr]; simp only [Sem.run_bind, hrun, Result.andThen_ok, Sem.run_pure]
                  refine ⟨_, _, _, .inl hr', hval, k1.congr fun k => ?_, k2.congr fun k => ?_, rfl, rfl, fun k hk hkn => by simp [hkn, hk]⟩ <;>
                  · rw [H.get_put, H.get_kill]
              · simp at ha
          · simp at ha
      · simp at ha
  · simp at ha

end
end Go.AM
end

section
/- Every operation of the machine is what the model does. No program here. -/
set_option linter.unusedSimpArgs false
set_option linter.unusedVariables false
namespace Go.AM
open Go

section
variable {ρ : Rho}

theorem Did.one {h : H} {id : Nat} {w : World} {s : Sc} {v' : Value} (hR : Rel ρ h.get h.ro w) (hv : scR ρ s v') {r : Result Next} (hr : r = .ok (.value v') w) : Did ρ h id w (.one s) h r := Did.pure (v := .one s) hR hv hr

theorem store_did {P : Program} {X : Env} (hT : X.T = tyOf P) {h : H} {id : Nat} {w : World} (hR : Rel ρ h.get h.ro w) {t : TypeId} (ht : (X.T t).ty.isNone = false) {i o : Nat} {x : AV} {l : List Sc} (hx : x.cells = some l) (hl : l.length = (X.T t).size) {h' : H} (hs : h.store i o l = some h') {va vx : Value}
    (hva : scR ρ (.ptr (some (i, o))) va) (hvx : avR ρ x vx) {r : Result Next} (hr : r = (do Instr.storeAt t va vx; pure .skip : Sem Next).run P w) : Did ρ h id w undefA h' r := by
  rw [hT] at *
  obtain ⟨b, base, room, hrho, rfl⟩ := hva
  have hc := cells_rel hx hvx
  obtain ⟨w', hrun, h1, h2, h3, h4⟩ := store_rel P hR hs hrho hc
  refine ⟨undef, w', ρ, .inr ⟨?_, rfl⟩, ⟨#[], rfl, trivial⟩, by rw [h3]; exact h3 ▸ h1, h2, h3, h4, fun i hi _ => hi⟩
  rw [hr]
  have hsz : vx.cells.size = (tyOf P t).size := by
    have := hc.length
    simp only [Array.length_toList] at this
    omega
  simp only [Instr.storeAt, Instr.sureAddr, storeVar, Sem.run_bind, Sem.run_pure, Result.andThen_ok, run_sizeOf' (P := P) (t := t) (.inl (isNone_ne ht)), hsz, ne_eq, not_true_eq_false, if_false, hrun]

theorem copy_did {P : Program} {X : Env} (hT : X.T = tyOf P) {h : H} {id : Nat} {w : World} (hR : Rel ρ h.get h.ro w) {t u ty : TypeId} {d s v : AV} {h' : H} (ha : abuiltin X h id .copy [t, u] [d, s] = some (v, h')) {vd vs : Value} (hd : avR ρ d vd) (hs : avR ρ s vs)
    {r : Result Next} (hr : r = (do pure (.value (← Builtin.copy_ #[t, u] ty #[vd, vs])) : Sem Next).run P w) : Did ρ h id w v h' r := by
  obtain ⟨XT, XF, XE, Xs, Xw⟩ := X
  dsimp only at hT
  subst hT
  simp only [abuiltin] at ha
  split at ha
  · rename_i e ht
    split at ha
    · rename_i i o dn full sz
      simp only [Option.bind_eq_some_iff, Prod.exists] at ha
      obtain ⟨n, new, hlc, ha⟩ := ha
      split at ha
      · rename_i hsz
        obtain ⟨rfl, hsz⟩ := hsz
        simp only [Option.map_eq_some_iff, Prod.mk.injEq] at ha
        obtain ⟨h1, hst, rfl, rfl⟩ := ha
        obtain ⟨a', c', vn, rfl, hnc', hvn, hvl, hcells⟩ := lenCells_rel hR hlc hs
        obtain ⟨b, base, room, c, ad, hrho, rfl, had, hnc, hf, hroom⟩ := hd
        obtain ⟨w', hrun, k1, k2, k3, k4⟩ := store_rel P hR hst hrho (hvn.take _)
        obtain ⟨ti, tz, td, hi, _, _, _, hsize, _, _⟩ := tyOf_some (P := P) (t := e) (.inr hsz)
        have hsz2 := fun w => run_sizeOf' (P := P) (t := e) (.inr hsz) w
        refine ⟨.int .i64 (min n dn : Nat), w', ρ, .inl ?_, rfl, by rw [k3]; exact k3 ▸ k1, k2, k3, k4, fun i hi _ => hi⟩
        rw [hr]
        have hfc : (Builtin.firstCells (tyOf P e).size (Nat.min n dn) (.slice a' n c')).run P w = .ok (vn.take (min n dn * (tyOf P e).size)).toArray w := by
          by_cases hn : n = 0
          · subst hn
            have : vn = [] := List.eq_nil_of_length_eq_zero (by simpa using hvl)
            subst this
            have hm : Nat.min 0 dn = 0 := Nat.zero_min dn
            rw [hm]
            cases a' <;> simp [Builtin.firstCells, loadCells, loadCellsFrom]
          · obtain ⟨ax, rfl, hcl⟩ := hcells hn
            refine run_firstCells_some (P := P) w (tyOf P e).size (Nat.min n dn) ax n c' _ ?_ fun j v hj => ?_
            · rw [List.length_take, hvl]
              exact Nat.min_eq_left (Nat.mul_le_mul_right _ (Nat.min_le_left _ _))
            · have hj' : j < min n dn * (tyOf P e).size := by
                have := (List.getElem?_eq_some_iff.1 hj).1
                simp at this; omega
              rw [List.getElem?_take_of_lt hj'] at hj
              exact hcl j v hj
        have hst2 : (storeCells ad (vn.take (min n dn * (tyOf P e).size))).run P w = .ok () w' := by
          rcases had with had | had
          · subst had; exact hrun
          · have hm : min n dn = 0 := by omega
            rw [hm] at hrun ⊢
            simp only [Nat.zero_mul, List.take_zero] at hrun ⊢
            simpa [storeCells] using hrun
        simp [Builtin.copy_, run_underlying' (under_slice ht), Builtin.lenOf, hsz2, hfc, hst2, goInt]
      · simp at ha
    · simp at ha
  · simp at ha

theorem clear_did {P : Program} {X : Env} (hT : X.T = tyOf P) {h : H} {id : Nat} {w : World} (hR : Rel ρ h.get h.ro w) {t ty : TypeId} {x v : AV} {h' : H} (ha : abuiltin X h id .clear [t] [x] = some (v, h')) {vx : Value} (hx : avR ρ x vx)
    {r : Result Next} (hr : r = (do pure (.value (← Builtin.clear_ #[t] ty #[vx])) : Sem Next).run P w) : Did ρ h id w v h' r := by
  obtain ⟨XT, XF, XE, Xs, Xw⟩ := X
  dsimp only at hT
  subst hT
  simp only [abuiltin] at ha
  split at ha
  · rename_i e n full sz ht
    simp only [Option.some.injEq, Prod.mk.injEq] at ha
    obtain ⟨rfl, rfl⟩ := ha
    obtain ⟨_, rfl⟩ := hx
    refine Did.pure (v := undefA) (v' := .tuple #[]) hR ⟨#[], rfl, trivial⟩ ?_
    rw [hr]
    simp [Builtin.clear_, run_underlying' (under_slice ht)]
  · rename_i e i o n full sz ht
    obtain ⟨b, base, room, c, ad, hrho, rfl, had, hnc, hf, hroom⟩ := hx
    split at ha
    · rename_i hn
      subst hn
      simp only [Option.some.injEq, Prod.mk.injEq] at ha
      obtain ⟨rfl, rfl⟩ := ha
      refine Did.pure (v := undefA) (v' := .tuple #[]) hR ⟨#[], rfl, trivial⟩ ?_
      rw [hr]
      simp [Builtin.clear_, run_underlying' (under_slice ht)]
    · rename_i hn
      split at ha
      · rename_i hz
        obtain ⟨hz1, hty⟩ := hz
        simp only [Option.map_eq_some_iff, Prod.mk.injEq] at ha
        obtain ⟨h1, hst, rfl, rfl⟩ := ha
        obtain ⟨z, hzv, hzr⟩ := zero_rel (P := P) (t := e) (.inl (isNone_ne hty))
        obtain ⟨w', hrun, k1, k2, k3, k4⟩ := store_rel P hR hst hrho (zeros_rel (hzr ρ) n)
        refine ⟨undef, w', ρ, .inl ?_, ⟨#[], rfl, trivial⟩, by rw [k3]; exact k3 ▸ k1, k2, k3, k4, fun i hi _ => hi⟩
        have had' : ad = ⟨b, base + o, none⟩ := by
          rcases had with had | had
          · exact had
          · omega
        subst had'
        rw [hr]
        obtain ⟨m, rfl⟩ : ∃ m, n = m + 1 := ⟨n - 1, by omega⟩
        have hrun' : (storeCells ⟨b, base + o, none⟩ (Builtin.zeroCells z.cells (m + 1)).toList).run P w = .ok () w' := hrun
        simp [Builtin.clear_, run_underlying' (under_slice ht), hzv, hrun', undef]
      · simp at ha
  · simp at ha

theorem builtin_did {P : Program} {X : Env} (hT : X.T = tyOf P) {h : H} {id : Nat} {w : World} (hR : Rel ρ h.get h.ro w) (hid : ρ id = none) (hidro : h.ro ≤ id) {b : Builtin} {ts : Array TypeId} {ty : TypeId} {args : List AV} {v : AV} {h' : H} (ha : abuiltin X h id b ts.toList args = some (v, h')) {vs : Array Value} (hv : LR (avR ρ) args vs.toList)
    (cb : Array Bool) {r : Result Next} (hr : r = (builtin b ts ty cb vs).run P w) : Did ρ h id w v h' r := by
  have two : ∀ (x y : AV), args = [x, y] → ∃ vx vy, vs = #[vx, vy] ∧ avR ρ x vx ∧ avR ρ y vy := by
    intro x y e
    subst e
    obtain ⟨l⟩ := vs
    match l, hv with
    | [vx, vy], hv => exact ⟨vx, vy, rfl, hv.1, hv.2.1⟩
    | _ :: _ :: _ :: _, hv => exact hv.2.2.elim
  have one : ∀ (x : AV), args = [x] → ∃ vx, vs = #[vx] ∧ avR ρ x vx := by
    intro x e
    subst e
    obtain ⟨l⟩ := vs
    match l, hv with
    | [vx], hv => exact ⟨vx, rfl, hv.1⟩
    | _ :: _ :: _, hv => exact hv.2.elim
  obtain ⟨tl⟩ := ts
  have ha0 := ha
  unfold abuiltin at ha
  split at ha
  · rename_i t x he
    have he : tl = [t] := he
    subst he
    obtain ⟨vx, rfl, hx⟩ := one x rfl
    rw [hT] at ha
    split at ha
    · rename_i s ht
      simp only [Option.some.injEq, Prod.mk.injEq] at ha
      obtain ⟨rfl, rfl⟩ := ha
      have e : vx = .string s := hx
      subst e
      refine Did.one (v' := .int .i64 s.size) hR (by exact rfl) ?_
      rw [hr]
      simp [builtin, Builtin.len_, run_underlying' (under_str ht), goInt]
    · rename_i e a n full sz ht
      simp only [Option.some.injEq, Prod.mk.injEq] at ha
      obtain ⟨rfl, rfl⟩ := ha
      have e1 : ∃ a' c, vx = .slice a' n c := by
        cases a with
        | none => obtain ⟨rfl, rfl⟩ := hx; exact ⟨_, _, rfl⟩
        | some a => obtain ⟨b, base, room, c, ad, _, rfl, _⟩ := hx; exact ⟨_, _, rfl⟩
      obtain ⟨a', c, rfl⟩ := e1
      refine Did.one (v' := .int .i64 n) hR (by exact rfl) ?_
      rw [hr]
      simp [builtin, Builtin.len_, run_underlying' (under_slice ht), goInt]
    · simp at ha
  · rename_i t u s x he
    have he : tl = [t, u] := he
    subst he
    obtain ⟨vs', vx, rfl, hs, hx⟩ := two s x rfl
    exact append_did (ty := ty) hT hR hid hidro ha0 hs hx (by rw [hr]; simp only [builtin])
  · rename_i t u d s he
    have he : tl = [t, u] := he
    subst he
    obtain ⟨vd, vs', rfl, hd, hs⟩ := two d s rfl
    exact copy_did (ty := ty) hT hR ha0 hd hs (by rw [hr]; simp only [builtin])
  · rename_i t x he
    have he : tl = [t] := he
    subst he
    obtain ⟨vx, rfl, hx⟩ := one x rfl
    exact clear_did (ty := ty) hT hR ha0 hx (by rw [hr]; simp only [builtin])
  · rename_i k a k' b
    obtain ⟨vx, vy, rfl, hx, hy⟩ := two _ _ rfl
    simp only [Option.some.injEq, Prod.mk.injEq] at ha
    obtain ⟨rfl, rfl⟩ := ha
    have e1 : vx = .int k a := hx
    have e2 : vy = .int k' b := hy
    subst e1 e2
    refine Did.one (v' := .int k (if b < a then b else a)) hR (by exact rfl) ?_
    rw [hr]
    simp [builtin, Builtin.min_, Builtin.min2]
  · rename_i k a k' b
    obtain ⟨vx, vy, rfl, hx, hy⟩ := two _ _ rfl
    simp only [Option.some.injEq, Prod.mk.injEq] at ha
    obtain ⟨rfl, rfl⟩ := ha
    have e1 : vx = .int k a := hx
    have e2 : vy = .int k' b := hy
    subst e1 e2
    refine Did.one (v' := .int k (if b > a then b else a)) hR (by exact rfl) ?_
    rw [hr]
    simp [builtin, Builtin.max_, Builtin.max2]
  · simp at ha


theorem allB_mem {α : Type} {p : α → Bool} : ∀ {l : List α}, allB p l = true → ∀ {x : α}, x ∈ l → p x = true
  | [], _, _, hx => by simp at hx
  | a :: l, h, x, hx => by
    simp only [allB, Bool.and_eq_true] at h
    rcases List.mem_cons.1 hx with rfl | hx
    · exact h.1
    · exact allB_mem h.2 hx

theorem ev_list {ev : Operand → AV} {a : Act} (he : ∀ x, avR ρ (ev x) (a.eval x)) (l : Array Operand) : LR (avR ρ) (l.toList.map ev) (l.map a.eval).toList := by
  rw [Array.toList_map]
  exact LR.self (S := avR ρ) (f := ev) (g := a.eval) he l.toList

theorem ev_opt {ev : Operand → AV} {a : Act} (he : ∀ x, avR ρ (ev x) (a.eval x)) (x : Option Operand) : OptR ρ (x.map ev) (x.map a.eval) := by
  cases x with
  | none => rfl
  | some x => exact ⟨_, rfl, he x⟩

theorem caps_rel : ∀ {l : List AV} {vs : List Value} {r : List (Nat × Nat)}, capsOf l = some r → LR (avR ρ) l vs → LR (ptrR ρ) r vs
  | [], [], r, h, _ => by simp [capsOf, allSome] at h; subst h; trivial
  | x :: l, v :: vs, r, h, hr => by
    simp only [capsOf, List.map_cons, allSome, Option.bind_eq_some_iff, Option.map_eq_some_iff] at h
    obtain ⟨a, ha, r', hr', rfl⟩ := h
    split at ha
    · simp only [Option.some.injEq] at ha
      subst ha
      exact ⟨hr.1, caps_rel hr' hr.2⟩
    · simp at ha
  | [], _ :: _, _, _, hr => hr.elim
  | _ :: _, [], _, _, hr => hr.elim

theorem elAV_rel {e : Bool × List Sc} {x : AV} (h : elAV e = some x) {v : Value} (hv : elR ρ e v) : avR ρ x v := by
  unfold elAV at h
  split at h
  · simp only [Option.some.injEq] at h; subst h; exact hv
  · simp only [Option.some.injEq] at h; subst h; exact hv
  · simp at h
theorem avEl_rel {e : Bool × List Sc} {x : AV} (h : avEl x = some e) {v : Value} (hv : avR ρ x v) : elR ρ e v := by
  unfold avEl at h
  split at h
  · simp only [Option.some.injEq] at h; subst h; exact hv
  · simp only [Option.some.injEq] at h; subst h; exact hv
  · simp at h

/-- EVERY OPERATION. -/
theorem aop_did {P : Program} {X : Env} (hT : X.T = tyOf P) (hS : SEqOK P X) {h : H} {id : Nat} {w : World} (hR : Rel ρ h.get h.ro w) (hid : ρ id = none) (hidro : h.ro ≤ id) {ev : Operand → AV} {a : Act} (he : ∀ x, avR ρ (ev x) (a.eval x)) {o : Oper} {v : AV} {h' : H} (ha : aop X ev h id o.op = some (v, h')) :
    Did ρ h id w v h' ((execOp a.eval o).run P w) := by
  obtain ⟨dst, op, type, pos, after, guard⟩ := o
  dsimp only at ha
  cases op with
  | move x =>
    simp only [aop, Option.some.injEq, Prod.mk.injEq] at ha
    obtain ⟨rfl, rfl⟩ := ha
    exact Did.pure hR (he x) rfl
  | assign x =>
    simp only [aop, Option.some.injEq, Prod.mk.injEq] at ha
    obtain ⟨rfl, rfl⟩ := ha
    exact Did.pure hR (he x) rfl
  | pick c x y =>
    simp only [aop] at ha
    split at ha
    · rename_i t hc
      simp only [Option.some.injEq, Prod.mk.injEq] at ha
      obtain ⟨rfl, rfl⟩ := ha
      have hb := he c
      rw [hc] at hb
      have hb : a.eval c = .bool t := hb
      refine Did.pure (v' := if t then a.eval x else a.eval y) hR (by cases t <;> simp [he]) ?_
      simp only [execOp, hb, asBool, Sem.run_bind, Sem.run_pure, Result.andThen_ok]
    · simp at ha
  | alloc t =>
    simp only [aop] at ha
    split at ha
    · simp at ha
    · rename_i ht
      simp only [Option.some.injEq, Prod.mk.injEq] at ha
      obtain ⟨rfl, rfl⟩ := ha
      exact alloc_did hT hR hid (by simpa using ht) (by simp only [execOp])
  | box t x =>
    simp only [aop, Option.map_eq_some_iff, Prod.mk.injEq] at ha
    obtain ⟨l, hl, rfl, rfl⟩ := ha
    exact box_did (P := P) (t := t) hR hid hl (he x) (by simp only [execOp])
  | load t x =>
    simp only [aop] at ha
    split at ha
    · rename_i i o hx
      split at ha
      · simp at ha
      · rename_i ht
        simp only [Option.bind_eq_some_iff, Option.map_eq_some_iff, Prod.mk.injEq] at ha
        obtain ⟨l, hl, y, hy, rfl, rfl⟩ := ha
        have hv := he x
        rw [hx] at hv
        rw [hT] at hl hy ht
        obtain ⟨v', hv', hrun⟩ := load_run (P := P) (isNone_ne (by simpa using ht)) hR hl hy hv
        refine Did.pure hR hv' ?_
        simp only [execOp, Sem.run_bind, hrun, Result.andThen_ok, Sem.run_pure]
    · simp at ha
  | store t x y =>
    simp only [aop] at ha
    split at ha
    · rename_i i o hx
      split at ha
      · simp at ha
      · rename_i ht
        simp only [Option.bind_eq_some_iff] at ha
        obtain ⟨l, hl, ha⟩ := ha
        split at ha
        · rename_i hlen
          simp only [Option.map_eq_some_iff, Prod.mk.injEq] at ha
          obtain ⟨h1, hst, rfl, rfl⟩ := ha
          have hv := he x
          rw [hx] at hv
          exact store_did hT hR (by simpa using ht) hl hlen hst hv (he y) (by simp only [execOp])
        · simp at ha
    · simp at ha
  | nilCheck x =>
    simp only [aop] at ha
    split at ha
    · rename_i p hx
      simp only [Option.some.injEq, Prod.mk.injEq] at ha
      obtain ⟨rfl, rfl⟩ := ha
      have hv := he x
      rw [hx] at hv
      obtain ⟨b, base, room, hr, hb⟩ := hv
      refine Did.one (v' := a.eval x) hR (by exact ⟨b, base, room, hr, hb⟩) ?_
      simp only [execOp, hb, Sem.run_pure]
    · rename_i f c hx
      simp only [Option.some.injEq, Prod.mk.injEq] at ha
      obtain ⟨rfl, rfl⟩ := ha
      have hv := he x
      rw [hx] at hv
      obtain ⟨cs, hb, hc⟩ := hv
      refine Did.one (v' := a.eval x) hR (by exact ⟨cs, hb, hc⟩) ?_
      simp only [execOp, hb, Sem.run_pure]
    · simp at ha
  | binOp op t x y ty =>
    simp only [aop, Option.map_eq_some_iff, Prod.mk.injEq] at ha
    obtain ⟨s, hs, rfl, rfl⟩ := ha
    obtain ⟨v', hv', hrun⟩ := abin_run (P := P) hT hS hs (he x) (he y) x y w
    refine Did.one hR hv' ?_
    simp only [Sem.run_bind] at hrun
    simp only [execOp, Sem.run_bind, Sem.run_pure]
    rw [hrun]
    rfl
  | unOp op t x =>
    simp only [aop, Option.map_eq_some_iff, Prod.mk.injEq] at ha
    obtain ⟨s, hs, rfl, rfl⟩ := ha
    obtain ⟨v', hv', hrun⟩ := aun_run (P := P) hs (he x) w
    refine Did.one hR hv' ?_
    simp only [execOp, Sem.run_bind, hrun, Result.andThen_ok, Sem.run_pure]
  | convert s d x =>
    simp only [aop] at ha
    split at ha
    · rename_i k1 k2 k3 n hs hd hx
      simp only [Option.some.injEq, Prod.mk.injEq] at ha
      obtain ⟨rfl, rfl⟩ := ha
      have hv := he x
      rw [hx] at hv
      have hb : a.eval x = .int k3 n := hv
      rw [hT] at hs hd
      refine Did.one (v' := .int k2 (k2.wrap n)) hR (by exact rfl) ?_
      simp [execOp, hb, convert, run_underlying' (under_int hs), run_underlying' (under_int hd), Conv.intToInt]
    · simp at ha
  | makeFunc f first caps =>
    cases f with
    | func g =>
      simp only [aop] at ha
      split at ha
      · rename_i hf
        simp only [Option.map_eq_some_iff, Prod.mk.injEq] at ha
        obtain ⟨l, hl, rfl, rfl⟩ := ha
        refine Did.one (v' := .func (.func g) #[] (caps.map a.eval)) hR (by exact ⟨_, rfl, caps_rel hl (ev_list he caps)⟩) ?_
        have : first = #[] := by simpa using hf
        subst this
        simp [execOp, Instr.makeFunc]
      · simp at ha
    | _ => simp [aop] at ha
  | makeSlice t l c =>
    simp only [aop] at ha
    split at ha
    · rename_i e k n k' m ht hl hc
      split at ha
      · rename_i hb
        simp only [Option.some.injEq, Prod.mk.injEq] at ha
        obtain ⟨rfl, rfl⟩ := ha
        have h1 := he l
        have h2 := he c
        rw [hl] at h1
        rw [hc] at h2
        have h1 : a.eval l = .int k n := h1
        have h2 : a.eval c = .int k' m := h2
        exact makeSlice_did hT hR hid ht (k := k) (k' := k') hb (by simp only [execOp, h1, h2])
      · simp at ha
    · simp at ha
  | slice t x lo hi mx =>
    simp only [aop, Option.map_eq_some_iff, Prod.mk.injEq] at ha
    obtain ⟨s, hs, rfl, rfl⟩ := ha
    obtain ⟨v', hv', hrun⟩ := aslice_run (P := P) hT hR hs (he x) (ev_opt he lo) (ev_opt he hi) (ev_opt he mx)
    refine Did.one hR hv' ?_
    simp only [execOp, Sem.run_bind, hrun, Result.andThen_ok, Sem.run_pure]
  | fieldAddr t x f =>
    simp only [aop] at ha
    split at ha
    · rename_i fs i o ht hx
      simp only [Option.bind_eq_some_iff, Prod.exists] at ha
      obtain ⟨off, ft, hf, ha⟩ := ha
      split at ha
      · rename_i h0
        simp only [Option.some.injEq, Prod.mk.injEq] at ha
        obtain ⟨rfl, rfl⟩ := ha
        have hv := he x
        rw [hx] at hv
        rw [hT] at ht h0
        obtain ⟨v', hv', hrun⟩ := fieldAddr_run (P := P) ht hf h0 hv w
        refine Did.one hR hv' ?_
        simp only [execOp, Sem.run_bind, hrun, Result.andThen_ok, Sem.run_pure]
      · simp at ha
    · simp at ha
  | field t x f =>
    simp only [aop] at ha
    split at ha
    · rename_i fs l ht hx
      simp only [Option.bind_eq_some_iff, Prod.exists] at ha
      obtain ⟨off, ft, hf, ha⟩ := ha
      split at ha
      · rename_i h0
        simp only [Option.map_eq_some_iff, Prod.mk.injEq] at ha
        obtain ⟨y, hy, rfl, rfl⟩ := ha
        have hv := he x
        rw [hx] at hv
        obtain ⟨cs, hb, hc⟩ := hv
        rw [hT] at ht h0 hy
        obtain ⟨fields, hu, hfs⟩ := under_struct ht
        obtain ⟨fd, hfd, ho, hft⟩ := field_get hfs hf
        obtain ⟨v', hv', hrun⟩ := part_run (P := P) (isNone_ne h0.2) hc h0.1 hy w
        refine Did.pure hR hv' ?_
        simp only [execOp, hb, Instr.field, Sem.run_bind, run_underlying' hu, Result.andThen_ok, hfd, asAgg, Sem.run_pure, ho, hft, hrun]
      · simp at ha
    · simp at ha
  | indexAddr t x i =>
    simp only [aop, Option.map_eq_some_iff, Prod.mk.injEq] at ha
    obtain ⟨s, hs, rfl, rfl⟩ := ha
    obtain ⟨v', hv', hrun⟩ := aindex_run (P := P) hT hs (he x) (he i) w
    refine Did.one hR hv' ?_
    simp only [execOp, Sem.run_bind, hrun, Result.andThen_ok, Sem.run_pure]
  | index t x i =>
    simp only [aop] at ha
    split at ha
    · rename_i s k n ht hx hi
      split at ha
      · rename_i h0
        simp only [Option.map_eq_some_iff, Prod.mk.injEq] at ha
        obtain ⟨b, hb, rfl, rfl⟩ := ha
        have h1 := he x
        have h2 := he i
        rw [hx] at h1
        rw [hi] at h2
        have h1 : a.eval x = .string s := h1
        have h2 : a.eval i = .int k n := h2
        rw [hT] at ht
        refine Did.one (v' := .int .u8 b.toNat) hR (by exact rfl) ?_
        have hb' : s[n.toNat]? = some b := by
          have hlt := (Array.getElem?_eq_some_iff.1 hb).1
          have he2 := (Array.getElem?_eq_some_iff.1 hb).2
          rw [getElem?_pos s n.toNat hlt]
          exact congrArg some he2
        simp only [execOp, h1, h2, Instr.index, asIntOf, Sem.run_bind, Sem.run_pure, Result.andThen_ok, run_underlying' (under_str ht), if_pos h0, hb']
      · simp at ha
    · simp at ha
  | extract x i =>
    simp only [aop] at ha
    split at ha
    · rename_i l hx
      simp only [Option.bind_eq_some_iff, Option.map_eq_some_iff, Prod.mk.injEq] at ha
      obtain ⟨e, hl, y, hy, rfl, rfl⟩ := ha
      have hv := he x
      rw [hx] at hv
      obtain ⟨vs, hb, hc⟩ := hv
      obtain ⟨v', hv', hr⟩ := hc.get hl
      refine Did.pure (v' := v') hR (elAV_rel hy hr) ?_
      have hv'' : vs[i]? = some v' := by simpa using hv'
      simp only [execOp, hb, Instr.extract, hv'', Sem.run_bind, Sem.run_pure, Result.andThen_ok]
    · simp at ha
  | build t parts =>
    simp only [aop] at ha
    split at ha
    · rename_i fs ht
      split at ha
      · rename_i hall
        simp only [Option.map_eq_some_iff, Prod.mk.injEq] at ha
        obtain ⟨l, hl, rfl, rfl⟩ := ha
        rw [hT] at ht hl hall
        obtain ⟨fields, hu, hfs⟩ := under_struct ht
        obtain ⟨z, hzv, hzr⟩ := zero_rel (P := P) (t := t) (.inl (by rw [ht]; simp))
        obtain ⟨cells, hfill, hcl⟩ := fills_run hl (hzr ρ) (parts_rel he parts)
        have hpos : ∀ f ∈ fields.toList, 0 < (tyOf P f.type).size := fun f hf => by
          have := allB_mem hall (x := (f.offset, f.type)) (by rw [hfs]; exact List.mem_map.2 ⟨f, hf, rfl⟩)
          simpa using this
        have hpl := mapM_places (P := P) (fields := fields) (fun f hf w => run_sizeOf' (.inr (hpos f hf)) w) w
        have hfn : (fun i : Nat => (fields.map fun f => (f.offset, (tyOf P f.type).size))[i]?) = (fun i : Nat => fs[i]?.map fun p : Nat × TypeId => (p.1, (tyOf P p.2).size)) := by
          funext i
          rw [hfs]
          simp [Array.getElem?_map, List.getElem?_map, Option.map_map, Function.comp_def]
        refine Did.pure (v' := .agg cells) hR (by exact ⟨cells, rfl, hcl⟩) ?_
        have hrun : (Instr.build t (parts.map fun (i, x) => (i, a.eval x))).run P w = .ok (.agg cells) w := by
          simp only [Instr.build, Sem.run_bind, hzv, Result.andThen_ok, run_underlying' hu, Sem.run_pure, hpl]
          rw [hfn, hfill]
          rfl
        simp only [execOp, Sem.run_bind, hrun, Result.andThen_ok, Sem.run_pure]
      · simp at ha
    · simp at ha
  | buildSlice t len parts =>
    simp only [aop] at ha
    split at ha
    · rename_i e ht
      split at ha
      · rename_i hc
        simp only [Option.map_eq_some_iff, Prod.mk.injEq] at ha
        obtain ⟨l, hl, rfl, rfl⟩ := ha
        exact buildSlice_did hT hR hid ht hc hl (parts_rel he parts) (by simp only [execOp])
      · simp at ha
    · simp at ha
  | call c =>
    obtain ⟨cal, args, argTypes⟩ := c
    cases cal with
    | builtin b =>
      simp only [aop] at ha
      simp only [execOp, resolve, Sem.run_bind, Sem.run_pure, Result.andThen_ok, invoke]
      exact builtin_did hT hR hid hidro (ty := type) ha (ev_list he args) _ rfl
    | _ => simp [aop] at ha
  | _ => simp [aop] at ha

end
end Go.AM
end

section
/- Parts of memory that a step does not see stay; regions whose order is the text's. No program here. -/
set_option linter.unusedSimpArgs false
set_option linter.unusedVariables false
namespace Go.AM
open Go

section
variable {ρ : Rho}

/-- The blocks of two parts. -/
def G.or (g g' : G) : G := fun i => match g i with | some l => some l | none => g' i

theorem G.or_some {g g' : G} {i : Nat} {l : List Sc} (h : G.or g g' i = some l) : g i = some l ∨ (g i = none ∧ g' i = some l) := by
  unfold G.or at h
  split at h
  · rename_i l' e; injection h with h; subst h; exact .inl e
  · rename_i e; exact .inr ⟨e, h⟩

/-- What a step does not see stays. -/
theorem Rel.frame {ρ' : Rho} {gA gA' gB : G} {ro : Nat} {w w' : World} (h : Rel ρ (G.or gA gB) ro w) (hd : ∀ i l, gB i = some l → gA i = none) (hA : Rel ρ' gA' ro w') (hs : Stp ρ ρ' gA gA' ro w w') (hlow : ∀ i, i < ro → gA' i = gA i) :
    Rel ρ' (G.or gA' gB) ro w' ∧ Stp ρ ρ' (G.or gA gB) (G.or gA' gB) ro w w' := by
  have inB : ∀ i l, gB i = some l → G.or gA gB i = some l := fun i l e => by unfold G.or; rw [hd i l e]; exact e
  have inA : ∀ i l, gA i = some l → G.or gA gB i = some l := fun i l e => by unfold G.or; rw [e]
  -- a block of B is none that A may write
  have notWr : ∀ j l p, gB j = some l → ρ j = some p → ¬ Wr ρ gA ro p.1 := fun j l p hj hp ⟨i, l', q, hro, hi, hq, e⟩ => by
    have hne : j ≠ i := fun hh => by subst hh; rw [hd j l hj] at hi; cases hi
    exact h.apart j i l l' (inB j l hj) (inA i l' hi) hne hro p q hp hq e.symm
  have cross : ∀ i j l1 l2 p q, gA' i = some l1 → gB j = some l2 → ρ' i = some p → ρ' j = some q → (ro ≤ i ∨ ro ≤ j) → p.1 ≠ q.1 := by
    intro i j l1 l2 p q hi hj hp hq hro e
    obtain ⟨b, base, room, hq', hl⟩ := h.blk j l2 (inB j l2 hj)
    have hq2 := hs.ext _ _ hq'
    rw [hq] at hq2
    injection hq2 with hq2
    subst hq2
    have hlt := h.lt (inB j l2 hj) hq'
    by_cases hri : ro ≤ i
    · exact notWr j l2 _ hj hq' (by
        have := hs.wr p.1 (by rw [e]; exact hlt) ⟨i, l1, p, hri, hi, hp, rfl⟩
        rwa [e] at this)
    · have hi' := hi
      rw [hlow i (by omega)] at hi'
      obtain ⟨b2, base2, room2, hp', _⟩ := h.blk i l1 (inA i l1 hi')
      have hp2 := hs.ext _ _ hp'
      rw [hp] at hp2
      injection hp2 with hp2
      subst hp2
      have hne : i ≠ j := fun hh => by subst hh; rw [hd i l2 hj] at hi'; cases hi'
      exact h.apart i j l1 l2 (inA i l1 hi') (inB j l2 hj) hne (by omega) _ _ hp' hq' e
  refine ⟨⟨fun i l hi => ?_, fun i j l1 l2 hi hj hne hro p q hp hq => ?_⟩, { hs with keep := fun b hb hn => hs.keep b hb fun ⟨i, l, p, h1, h2, h3, h4⟩ => hn ⟨i, l, p, h1, inA i l h2, h3, h4⟩, wr := fun b hb hw => ?_ }⟩
  · rcases G.or_some hi with hi | ⟨_, hi⟩
    · exact hA.blk i l hi
    · obtain ⟨b, base, room, hp, hl⟩ := h.blk i l (inB i l hi)
      exact ⟨b, base, room, hs.ext _ _ hp, (hl.world (hs.keep b (h.lt (inB i l hi) hp) (notWr i l _ hi hp))).rho hs.ext⟩
  · rcases G.or_some hi with hi | ⟨hi0, hi⟩ <;> rcases G.or_some hj with hj | ⟨hj0, hj⟩
    · exact hA.apart i j l1 l2 hi hj hne hro p q hp hq
    · exact cross i j l1 l2 p q hi hj hp hq (.inr hro)
    · exact fun e => cross j i l2 l1 q p hj hi hq hp (.inl hro) e.symm
    · obtain ⟨b1, x1, y1, hp', _⟩ := h.blk i l1 (inB i l1 hi)
      obtain ⟨b2, x2, y2, hq', _⟩ := h.blk j l2 (inB j l2 hj)
      have hp2 := hs.ext _ _ hp'
      have hq2 := hs.ext _ _ hq'
      rw [hp] at hp2; rw [hq] at hq2
      injection hp2 with hp2; injection hq2 with hq2
      subst hp2 hq2
      exact h.apart i j l1 l2 (inB i l1 hi) (inB j l2 hj) hne hro _ _ hp' hq'
  · obtain ⟨i, l, p, hro, hi, hp, rfl⟩ := hw
    rcases G.or_some hi with hi | ⟨_, hi⟩
    · obtain ⟨i', l', p', h1, h2, h3, h4⟩ := hs.wr p.1 hb ⟨i, l, p, hro, hi, hp, rfl⟩
      exact ⟨i', l', p', h1, inA i' l' h2, h3, h4⟩
    · obtain ⟨b1, x1, y1, hp', _⟩ := h.blk i l (inB i l hi)
      have hp2 := hs.ext _ _ hp'
      rw [hp] at hp2
      injection hp2 with hp2
      subst hp2
      exact ⟨i, l, _, hro, inB i l hi, hp', rfl⟩

/-! ### An operation leaves alone what is only read -/
theorem H.store_low {h h' : H} {i o : Nat} {xs : List Sc} (hs : h.store i o xs = some h') : (∀ k, k < h.ro → h'.get k = h.get k) := by
  unfold H.store at hs
  split at hs
  · rename_i hro
    simp only [Option.bind_eq_some_iff] at hs
    obtain ⟨l, hl, hs⟩ := hs
    split at hs
    · simp only [Option.some.injEq] at hs
      subst hs
      intro k hk
      rw [H.get_put, if_neg (by omega)]
    · simp at hs
  · simp at hs

theorem abuiltin_low {X : Env} {h h' : H} {id : Nat} (hid : h.ro ≤ id) {b : Builtin} {ts : List TypeId} {args : List AV} {v : AV} (ha : abuiltin X h id b ts args = some (v, h')) : ∀ k, k < h.ro → h'.get k = h.get k := by
  intro k hk
  unfold abuiltin at ha
  split at ha
  · split at ha <;> simp at ha <;> rw [← ha.2]
  · split at ha
    · dsimp only at ha
      split at ha
      · simp at ha
      · simp only [Option.bind_eq_some_iff, Prod.exists] at ha
        obtain ⟨n, new, _, ha⟩ := ha
        split at ha
        · split at ha
          · simp at ha; rw [← ha.2]
          · split at ha
            · simp at ha; rw [← ha.2, H.get_put, if_neg (by omega)]
            · simp at ha
        · split at ha
          · simp at ha; rw [← ha.2]
          · split at ha
            · simp only [Option.bind_eq_some_iff] at ha
              obtain ⟨old, _, ha⟩ := ha
              split at ha
              · simp at ha; rw [← ha.2, H.get_put, if_neg (by omega)]
              · split at ha
                · simp at ha; rw [← ha.2, H.get_put, if_neg (by omega), H.get_kill, if_neg (by omega)]
                · simp at ha
            · simp at ha
        · simp at ha
    · simp at ha
  · split at ha
    · dsimp only at ha
      split at ha
      · simp only [Option.bind_eq_some_iff, Prod.exists] at ha
        obtain ⟨n, new, _, ha⟩ := ha
        split at ha
        · simp only [Option.map_eq_some_iff, Prod.mk.injEq] at ha
          obtain ⟨h1, hs, _, rfl⟩ := ha
          exact H.store_low hs k hk
        · simp at ha
      · simp at ha
    · simp at ha
  · split at ha
    · simp at ha; rw [← ha.2]
    · split at ha
      · simp at ha; rw [← ha.2]
      · split at ha
        · simp only [Option.map_eq_some_iff, Prod.mk.injEq] at ha
          obtain ⟨h1, hs, _, rfl⟩ := ha
          exact H.store_low hs k hk
        · simp at ha
    · simp at ha
  · simp at ha; rw [← ha.2]
  · simp at ha; rw [← ha.2]
  · simp at ha

theorem aop_low {X : Env} {ev : Operand → AV} {h h' : H} {id : Nat} (hid : h.ro ≤ id) {op : Op} {v : AV} (ha : aop X ev h id op = some (v, h')) : ∀ k, k < h.ro → h'.get k = h.get k := by
  intro k hk
  have hput : ∀ l, (h.put id l).get k = h.get k := fun l => by rw [H.get_put, if_neg (by omega)]
  cases op with
  | alloc t => simp only [aop] at ha; split at ha <;> simp at ha; rw [← ha.2]; exact hput _
  | box t x => simp only [aop, Option.map_eq_some_iff, Prod.mk.injEq] at ha; obtain ⟨l, _, _, rfl⟩ := ha; exact hput _
  | makeSlice t l c =>
    simp only [aop] at ha
    split at ha
    · split at ha <;> simp at ha
      rw [← ha.2]; exact hput _
    · simp at ha
  | buildSlice t n ps =>
    simp only [aop] at ha
    split at ha
    · split at ha
      · simp only [Option.map_eq_some_iff, Prod.mk.injEq] at ha
        obtain ⟨l, _, _, rfl⟩ := ha; exact hput _
      · simp at ha
    · simp at ha
  | store t x y =>
    simp only [aop] at ha
    split at ha
    · split at ha
      · simp at ha
      · simp only [Option.bind_eq_some_iff] at ha
        obtain ⟨l, _, ha⟩ := ha
        split at ha
        · simp only [Option.map_eq_some_iff, Prod.mk.injEq] at ha
          obtain ⟨h1, hs, _, rfl⟩ := ha
          exact H.store_low hs k hk
        · simp at ha
    · simp at ha
  | call c =>
    obtain ⟨cal, args, tys⟩ := c
    cases cal with
    | builtin b => simp only [aop] at ha; exact abuiltin_low hid ha k hk
    | _ => simp [aop] at ha
  | move x => simp [aop] at ha; rw [← ha.2]
  | assign x => simp [aop] at ha; rw [← ha.2]
  | pick c x y => simp only [aop] at ha; split at ha <;> simp at ha; rw [← ha.2]
  | load t x =>
    simp only [aop] at ha
    split at ha
    · split at ha
      · simp at ha
      · simp only [Option.bind_eq_some_iff, Option.map_eq_some_iff, Prod.mk.injEq] at ha
        obtain ⟨_, _, _, _, _, rfl⟩ := ha; rfl
    · simp at ha
  | nilCheck x => simp only [aop] at ha; split at ha <;> simp at ha <;> rw [← ha.2]
  | binOp op t x y ty => simp only [aop, Option.map_eq_some_iff, Prod.mk.injEq] at ha; obtain ⟨_, _, _, rfl⟩ := ha; rfl
  | unOp op t x => simp only [aop, Option.map_eq_some_iff, Prod.mk.injEq] at ha; obtain ⟨_, _, _, rfl⟩ := ha; rfl
  | convert s d x => simp only [aop] at ha; split at ha <;> simp at ha; rw [← ha.2]
  | makeFunc f first caps =>
    cases f with
    | func g =>
      simp only [aop] at ha
      split at ha
      · simp only [Option.map_eq_some_iff, Prod.mk.injEq] at ha; obtain ⟨_, _, _, rfl⟩ := ha; rfl
      · simp at ha
    | _ => simp [aop] at ha
  | slice t x lo hi mx => simp only [aop, Option.map_eq_some_iff, Prod.mk.injEq] at ha; obtain ⟨_, _, _, rfl⟩ := ha; rfl
  | fieldAddr t x f =>
    simp only [aop] at ha
    split at ha
    · simp only [Option.bind_eq_some_iff, Prod.exists] at ha
      obtain ⟨_, _, _, ha⟩ := ha
      split at ha <;> simp at ha
      rw [← ha.2]
    · simp at ha
  | field t x f =>
    simp only [aop] at ha
    split at ha
    · simp only [Option.bind_eq_some_iff, Prod.exists] at ha
      obtain ⟨_, _, _, ha⟩ := ha
      split at ha
      · simp only [Option.map_eq_some_iff, Prod.mk.injEq] at ha; obtain ⟨_, _, _, rfl⟩ := ha; rfl
      · simp at ha
    · simp at ha
  | indexAddr t x i => simp only [aop, Option.map_eq_some_iff, Prod.mk.injEq] at ha; obtain ⟨_, _, _, rfl⟩ := ha; rfl
  | index t x i =>
    simp only [aop] at ha
    split at ha
    · split at ha
      · simp only [Option.map_eq_some_iff, Prod.mk.injEq] at ha; obtain ⟨_, _, _, rfl⟩ := ha; rfl
      · simp at ha
    · simp at ha
  | extract x i =>
    simp only [aop] at ha
    split at ha
    · simp only [Option.bind_eq_some_iff, Option.map_eq_some_iff, Prod.mk.injEq] at ha
      obtain ⟨_, _, _, _, _, rfl⟩ := ha; rfl
    · simp at ha
  | build t parts =>
    simp only [aop] at ha
    split at ha
    · split at ha
      · simp only [Option.map_eq_some_iff, Prod.mk.injEq] at ha; obtain ⟨_, _, _, rfl⟩ := ha; rfl
      · simp at ha
    · simp at ha
  | _ => simp [aop] at ha

theorem H.store_born {h h' : H} {i o : Nat} {xs : List Sc} (hs : h.store i o xs = some h') : (∀ k, h'.get k ≠ none → h.get k ≠ none) := by
  unfold H.store at hs
  split at hs
  · rename_i hro
    simp only [Option.bind_eq_some_iff] at hs
    obtain ⟨l, hl, hs⟩ := hs
    split at hs
    · simp only [Option.some.injEq] at hs
      subst hs
      intro k hk
      rw [H.get_put] at hk
      split at hk
      · rename_i e; subst e; rw [hl]; simp
      · exact hk
    · simp at hs
  · simp at hs

theorem abuiltin_born {X : Env} {h h' : H} {id : Nat} {b : Builtin} {ts : List TypeId} {args : List AV} {v : AV} (ha : abuiltin X h id b ts args = some (v, h')) : ∀ k, k ≠ id → h'.get k ≠ none → h.get k ≠ none := by
  intro k hk hn
  unfold abuiltin at ha
  split at ha
  · split at ha <;> simp at ha <;> (rw [← ha.2] at hn; exact hn)
  · split at ha
    · dsimp only at ha
      split at ha
      · simp at ha
      · simp only [Option.bind_eq_some_iff, Prod.exists] at ha
        obtain ⟨n, new, _, ha⟩ := ha
        split at ha
        · split at ha
          · simp at ha; (rw [← ha.2] at hn; exact hn)
          · split at ha
            · simp at ha; (rw [← ha.2, H.get_put, if_neg hk] at hn; exact hn)
            · simp at ha
        · split at ha
          · simp at ha; (rw [← ha.2] at hn; exact hn)
          · split at ha
            · simp only [Option.bind_eq_some_iff] at ha
              obtain ⟨old, _, ha⟩ := ha
              split at ha
              · simp at ha; (rw [← ha.2, H.get_put, if_neg hk] at hn; exact hn)
              · split at ha
                · simp at ha; (rw [← ha.2, H.get_put, if_neg hk, H.get_kill] at hn; split at hn <;> first | exact absurd rfl hn | exact hn)
                · simp at ha
            · simp at ha
        · simp at ha
    · simp at ha
  · split at ha
    · dsimp only at ha
      split at ha
      · simp only [Option.bind_eq_some_iff, Prod.exists] at ha
        obtain ⟨n, new, _, ha⟩ := ha
        split at ha
        · simp only [Option.map_eq_some_iff, Prod.mk.injEq] at ha
          obtain ⟨h1, hs, _, rfl⟩ := ha
          exact H.store_born hs k hn
        · simp at ha
      · simp at ha
    · simp at ha
  · split at ha
    · simp at ha; (rw [← ha.2] at hn; exact hn)
    · split at ha
      · simp at ha; (rw [← ha.2] at hn; exact hn)
      · split at ha
        · simp only [Option.map_eq_some_iff, Prod.mk.injEq] at ha
          obtain ⟨h1, hs, _, rfl⟩ := ha
          exact H.store_born hs k hn
        · simp at ha
    · simp at ha
  · simp at ha; (rw [← ha.2] at hn; exact hn)
  · simp at ha; (rw [← ha.2] at hn; exact hn)
  · simp at ha

theorem aop_born {X : Env} {ev : Operand → AV} {h h' : H} {id : Nat} {op : Op} {v : AV} (ha : aop X ev h id op = some (v, h')) : ∀ k, k ≠ id → h'.get k ≠ none → h.get k ≠ none := by
  intro k hk hn
  have hput : ∀ l, (h.put id l).get k = h.get k := fun l => by rw [H.get_put, if_neg hk]
  cases op with
  | alloc t => simp only [aop] at ha; split at ha <;> simp at ha; (rw [← ha.2, hput] at hn; exact hn)
  | box t x => simp only [aop, Option.map_eq_some_iff, Prod.mk.injEq] at ha; obtain ⟨l, _, _, rfl⟩ := ha; rw [hput] at hn; exact hn
  | makeSlice t l c =>
    simp only [aop] at ha
    split at ha
    · split at ha <;> simp at ha
      (rw [← ha.2, hput] at hn; exact hn)
    · simp at ha
  | buildSlice t n ps =>
    simp only [aop] at ha
    split at ha
    · split at ha
      · simp only [Option.map_eq_some_iff, Prod.mk.injEq] at ha
        obtain ⟨l, _, _, rfl⟩ := ha; rw [hput] at hn; exact hn
      · simp at ha
    · simp at ha
  | store t x y =>
    simp only [aop] at ha
    split at ha
    · split at ha
      · simp at ha
      · simp only [Option.bind_eq_some_iff] at ha
        obtain ⟨l, _, ha⟩ := ha
        split at ha
        · simp only [Option.map_eq_some_iff, Prod.mk.injEq] at ha
          obtain ⟨h1, hs, _, rfl⟩ := ha
          exact H.store_born hs k hn
        · simp at ha
    · simp at ha
  | call c =>
    obtain ⟨cal, args, tys⟩ := c
    cases cal with
    | builtin b => simp only [aop] at ha; exact abuiltin_born ha k hk hn
    | _ => simp [aop] at ha
  | move x => simp [aop] at ha; (rw [← ha.2] at hn; exact hn)
  | assign x => simp [aop] at ha; (rw [← ha.2] at hn; exact hn)
  | pick c x y => simp only [aop] at ha; split at ha <;> simp at ha; (rw [← ha.2] at hn; exact hn)
  | load t x =>
    simp only [aop] at ha
    split at ha
    · split at ha
      · simp at ha
      · simp only [Option.bind_eq_some_iff, Option.map_eq_some_iff, Prod.mk.injEq] at ha
        obtain ⟨_, _, _, _, _, rfl⟩ := ha; exact hn
    · simp at ha
  | nilCheck x => simp only [aop] at ha; split at ha <;> simp at ha <;> (rw [← ha.2] at hn; exact hn)
  | binOp op t x y ty => simp only [aop, Option.map_eq_some_iff, Prod.mk.injEq] at ha; obtain ⟨_, _, _, rfl⟩ := ha; exact hn
  | unOp op t x => simp only [aop, Option.map_eq_some_iff, Prod.mk.injEq] at ha; obtain ⟨_, _, _, rfl⟩ := ha; exact hn
  | convert s d x => simp only [aop] at ha; split at ha <;> simp at ha; (rw [← ha.2] at hn; exact hn)
  | makeFunc f first caps =>
    cases f with
    | func g =>
      simp only [aop] at ha
      split at ha
      · simp only [Option.map_eq_some_iff, Prod.mk.injEq] at ha; obtain ⟨_, _, _, rfl⟩ := ha; exact hn
      · simp at ha
    | _ => simp [aop] at ha
  | slice t x lo hi mx => simp only [aop, Option.map_eq_some_iff, Prod.mk.injEq] at ha; obtain ⟨_, _, _, rfl⟩ := ha; exact hn
  | fieldAddr t x f =>
    simp only [aop] at ha
    split at ha
    · simp only [Option.bind_eq_some_iff, Prod.exists] at ha
      obtain ⟨_, _, _, ha⟩ := ha
      split at ha <;> simp at ha
      (rw [← ha.2] at hn; exact hn)
    · simp at ha
  | field t x f =>
    simp only [aop] at ha
    split at ha
    · simp only [Option.bind_eq_some_iff, Prod.exists] at ha
      obtain ⟨_, _, _, ha⟩ := ha
      split at ha
      · simp only [Option.map_eq_some_iff, Prod.mk.injEq] at ha; obtain ⟨_, _, _, rfl⟩ := ha; exact hn
      · simp at ha
    · simp at ha
  | indexAddr t x i => simp only [aop, Option.map_eq_some_iff, Prod.mk.injEq] at ha; obtain ⟨_, _, _, rfl⟩ := ha; exact hn
  | index t x i =>
    simp only [aop] at ha
    split at ha
    · split at ha
      · simp only [Option.map_eq_some_iff, Prod.mk.injEq] at ha; obtain ⟨_, _, _, rfl⟩ := ha; exact hn
      · simp at ha
    · simp at ha
  | extract x i =>
    simp only [aop] at ha
    split at ha
    · simp only [Option.bind_eq_some_iff, Option.map_eq_some_iff, Prod.mk.injEq] at ha
      obtain ⟨_, _, _, _, _, rfl⟩ := ha; exact hn
    · simp at ha
  | build t parts =>
    simp only [aop] at ha
    split at ha
    · split at ha
      · simp only [Option.map_eq_some_iff, Prod.mk.injEq] at ha; obtain ⟨_, _, _, rfl⟩ := ha; exact hn
      · simp at ha
    · simp at ha
  | _ => simp [aop] at ha

/-! ### Slots -/
structure FrR (ρ : Rho) (nt : Nat) (fr : Fr) (a : Act) : Prop where
  v : ∀ i, avR ρ (fr.get i) (a.tmps.getD i undef)
  sz : a.tmps.size = nt
  df : a.defers = []

theorem undef_rel (ρ : Rho) : avR ρ undefA undef := ⟨#[], rfl, trivial⟩

theorem FrR.ev {nt : Nat} {fr : Fr} {a : Act} (h : FrR ρ nt fr a) (x : Operand) : avR ρ (fr.ev x) (a.eval x) := by
  cases x with
  | tmp t => exact h.v t
  | const v => exact constAV_rel ρ v
  | func f => exact ⟨#[], rfl, trivial⟩
  | global g => trivial

theorem FrR.put {nt : Nat} {fr fr' : Fr} {a : Act} (h : FrR ρ nt fr a) {ρ' : Rho} (hle : ρ.le ρ') {dst : Option Tmp} {v : AV} {v' : Value} (hv : avR ρ' v v') (hp : putS nt fr dst v = some fr') : FrR ρ' nt fr' (a.put dst v') := by
  unfold putS at hp
  cases dst with
  | none => simp at hp; subst hp; exact ⟨fun i => (h.v i).mono hle, h.sz, h.df⟩
  | some d =>
    dsimp only at hp
    split at hp
    · simp at hp; subst hp
      rename_i hd
      refine ⟨fun i => ?_, by simp [Act.put, h.sz], h.df⟩
      rw [Fr.get_set]
      by_cases e : i = d
      · subst e
        have : (a.put (some i) v').tmps.getD i undef = v' := by simp [Act.put, h.sz, hd]
        rw [this, if_pos rfl]; exact hv
      · have : (a.put (some d) v').tmps.getD i undef = a.tmps.getD i undef := by
          simp [Act.put, Array.getElem?_setIfInBounds_ne (Ne.symm e)]
        rw [this, if_neg e]; exact (h.v i).mono hle
    · simp at hp

theorem wanted_rel {nt : Nat} {fr : Fr} {a : Act} (h : FrR ρ nt fr a) {ops : List Oper} {o : Oper} {b : Bool} (hw : wantedA ops fr o = some b) : Region.wanted o (yielded ops.toArray a.tmps) = b := by
  unfold wantedA at hw
  unfold Region.wanted
  split at hw
  · rename_i hg; simp at hw; subst hw; simp [hg]
  · rename_i j want hg
    simp only [hg]
    split at hw
    · rename_i d hd
      have hv := h.v d
      unfold yielded
      have hd' : ((ops.toArray[j]?).bind (·.dst)) = some d := by simpa using hd
      rw [hd']
      simp only [Option.bind_some]
      have hget : a.tmps.getD d undef = (a.tmps[d]?).getD undef := by simp
      rw [hget] at hv
      split at hw
      · rename_i b' hb
        rw [hb] at hv
        simp at hw; subst hw
        cases ht : a.tmps[d]? with
        | none =>
          rw [ht] at hv
          have : undef = Value.bool b' := hv
          cases this
        | some v =>
          rw [ht] at hv
          have : v = Value.bool b' := hv
          subst this
          simp
      · rename_i hb
        rw [hb] at hv
        simp at hw; subst hw
        cases ht : a.tmps[d]? with
        | none => simp
        | some v =>
          rw [ht] at hv
          obtain ⟨vs, e, _⟩ := hv
          have e : v = .tuple vs := e
          subst e
          simp
      · simp at hw
    · simp at hw

/-! ### A region in the text's order -/
/-- What a call of the machine's stands for. -/
def CallOK (P : Program) (cf : CallF) : Prop := ∀ f args h v h', cf f args h = some (v, h') → (∀ vs w, (callFunc f vs).run P w = .ok (.enter f vs) w) ∧ ∀ (ρ : Rho) w (vs : Array Value), Rel ρ h.get h.ro w → h.ro ≤ h.nx → (∀ i, h.nx ≤ i → ρ i = none) → LR (avR ρ) args vs.toList →
  Calls P f vs w fun e w' => ∃ v' ρ', e = .returned v' ∧ avR ρ' v v' ∧ Rel ρ' h'.get h'.ro w' ∧ Stp ρ ρ' h.get h'.get h.ro w w' ∧ h'.ro = h.ro ∧ h.nx ≤ h'.nx ∧ (∀ i, ρ i = none → (i < h.nx ∨ h'.nx ≤ i) → ρ' i = none) ∧ (∀ i, i < h.ro → h'.get i = h.get i) ∧ (∀ i, i < h.nx → h'.get i ≠ none → h.get i ≠ none)

/-- What a step of the machine's stands for; c: the first number that may have been given. -/
structure Ran (nt c : Nat) (ρ : Rho) (h : H) (w : World) (fr' : Fr) (h' : H) (a' : Act) (w' : World) (ρ' : Rho) : Prop where
  fr : FrR ρ' nt fr' a'
  rel : Rel ρ' h'.get h'.ro w'
  stp : Stp ρ ρ' h.get h'.get h.ro w w'
  ro : h'.ro = h.ro
  nx : h.nx ≤ h'.nx
  fresh : ∀ i, ρ i = none → (i < c ∨ h'.nx ≤ i) → ρ' i = none
  low : ∀ i, i < h.ro → h'.get i = h.get i
  born : ∀ i, i < c → h'.get i ≠ none → h.get i ≠ none

theorem callee_run {P : Program} {nt : Nat} {fr : Fr} {a : Act} (h : FrR ρ nt fr a) {o : Oper} (hc : isCall o.op = true) {g : FuncId} {args : List AV} (hcal : callee fr.ev o.op = some (g, args)) (w : World) :
    ∃ vs : Array Value, LR (avR ρ) args vs.toList ∧ (execOp a.eval o).run P w = (callFunc g vs).run P w := by
  obtain ⟨dst, op, type, pos, after, guard⟩ := o
  dsimp only at hc hcal
  unfold callee at hcal
  split at hcal
  · rename_i f cargs tys
    split at hcal
    · rename_i g' caps hf
      simp only [Option.some.injEq, Prod.mk.injEq] at hcal
      obtain ⟨rfl, rfl⟩ := hcal
      have hv := h.ev f
      rw [hf] at hv
      obtain ⟨cs, hfun, hcaps⟩ := hv
      refine ⟨cargs.map a.eval ++ cs, ?_, ?_⟩
      · rw [Array.toList_append]
        refine (ev_list (fun x => h.ev x) cargs).append ?_
        have : ∀ {l : List (Nat × Nat)} {vs : List Value}, LR (ptrR ρ) l vs → LR (avR ρ) (l.map fun a => AV.one (.ptr (some a))) vs := by
          intro l
          induction l with
          | nil => intro vs h; cases vs <;> exact h
          | cons x l ih => intro vs h; cases vs with
            | nil => exact h.elim
            | cons v vs => exact ⟨h.1, ih h.2⟩
        exact this hcaps
      · simp only [execOp, resolve, hfun, Deferred.ofValue, Sem.run_bind, Sem.run_pure, Result.andThen_ok, invoke]
        simp
    · simp at hcal
  · simp at hcal


theorem Oper.wp_value {P : Program} {o : Oper} {a : Act} {w w' : World} {v : Value} {K : Act → World → Prop} {Q : Exit → Act → World → Prop} (h : (execOp a.eval o).run P w = .ok (.value v) w') (hk : K (a.put o.dst v) w') : o.wp P a w K Q := by
  unfold Oper.wp; rw [h]; exact hk
theorem Oper.wp_skip {P : Program} {o : Oper} {a : Act} {w w' : World} {K : Act → World → Prop} {Q : Exit → Act → World → Prop} (h : (execOp a.eval o).run P w = .ok .skip w') (hk : K (a.put o.dst undef) w') : o.wp P a w K Q := by
  unfold Oper.wp; rw [h]; exact hk

theorem stepA_run {P : Program} {X : Env} {cf : CallF} (hcf : CallOK P cf) (hT : X.T = tyOf P) (hS : SEqOK P X) {nt c : Nat} {ops : List Oper} {i : Nat} {o : Oper} {fr fr' : Fr} {h h' : H} (hs : stepA X cf nt c ops i o fr h = some (fr', h')) (ho : ops[i]? = some o)
    {a : Act} {w : World} (hfr : FrR ρ nt fr a) (hR : Rel ρ h.get h.ro w) (hro : h.ro ≤ c) (hid : ρ (c + i) = none) (hci : c + i < h.nx) (hfresh : ∀ k, h.nx ≤ k → ρ k = none) {K : Act → World → Prop} {Q : Exit → Act → World → Prop}
    (hK : ∀ a' w' ρ', Ran nt c ρ h w fr' h' a' w' ρ' → (∀ j, ρ (c + j) = none → c + j < h.nx → j ≠ i → ρ' (c + j) = none) → K a' w') : wpOp P ops.toArray Q i K a w := by
  unfold stepA at hs
  simp only [Option.bind_eq_some_iff] at hs
  obtain ⟨b, hb, hs⟩ := hs
  have hw := wanted_rel hfr hb
  have hoi : ops.toArray[i]? = some o := by simpa using ho
  unfold wpOp
  rw [hoi]
  dsimp only
  rw [hw]
  cases b with
  | false =>
    simp only [Bool.false_eq_true, if_false, Option.map_eq_some_iff, Prod.mk.injEq] at hs ⊢
    obtain ⟨f1, hp, rfl, rfl⟩ := hs
    exact hK _ _ ρ ⟨hfr.put (Rho.le_refl ρ) (undef_rel ρ) hp, hR, Stp.refl .., rfl, Nat.le_refl _, fun _ h _ => h, fun _ _ => rfl, fun _ _ h => h⟩ (fun _ h _ _ => h)
  | true =>
    simp only [if_true] at hs ⊢
    refine .inl ?_
    split at hs
    · rename_i hc
      simp only [Option.bind_eq_some_iff, Option.map_eq_some_iff, Prod.exists, Prod.mk.injEq] at hs
      obtain ⟨g, args, hcal, v, h1, hcall, f1, hp, rfl, rfl⟩ := hs
      obtain ⟨vs, hvs, hrun⟩ := callee_run hfr hc hcal w
      obtain ⟨hent, hcalls⟩ := hcf g args h v h1 hcall
      unfold Oper.wp
      rw [hrun, hent]
      refine Calls.mono (hcalls ρ w vs hR (by omega) hfresh hvs) fun e w' ⟨v', ρ', he, hv', hR', hst, hro', hnx', hfr', hlow, hborn⟩ => ?_
      subst he
      refine hK _ _ ρ' ⟨hfr.put hst.ext hv' hp, hR', hst, hro', hnx', fun k hk hkk => ?_, hlow, fun k hk => hborn k (by omega)⟩ fun j hj hlt _ => hfr' _ hj (.inl hlt)
      exact hfr' k hk (by omega)
    · simp only [Option.bind_eq_some_iff, Option.map_eq_some_iff, Prod.exists, Prod.mk.injEq] at hs
      obtain ⟨v, h1, hop, f1, hp, rfl, rfl⟩ := hs
      obtain ⟨v', w', ρ', hr, hv', hR', hst, hro', hnx', hfr'⟩ := aop_did hT hS hR hid (by omega) (fun x => hfr.ev x) hop
      have hran : Ran nt c ρ h w f1 h1 (a.put o.dst v') w' ρ' := ⟨hfr.put hst.ext hv' hp, hR', hst, hro', by omega, fun k hk hkk => hfr' k hk (by omega), aop_low (by omega) hop, fun k hk => aop_born hop k (by omega)⟩
      have hk := hK _ _ ρ' hran fun j hj _ hne => hfr' _ hj (by omega)
      rcases hr with hr | ⟨hr, rfl⟩
      · exact Oper.wp_value hr hk
      · exact Oper.wp_skip hr hk

theorem seqA_run {P : Program} {X : Env} {cf : CallF} (hcf : CallOK P cf) (hT : X.T = tyOf P) (hS : SEqOK P X) {nt c : Nat} {ops : List Oper} {Q : Exit → Act → World → Prop} :
    ∀ (rest : List Oper) (i : Nat) (fr fr' : Fr) (h h' : H) (ρ : Rho) (a : Act) (w : World), rest = ops.drop i → seqA X cf nt c ops i rest fr h = some (fr', h') → FrR ρ nt fr a → Rel ρ h.get h.ro w → h.ro ≤ c → c + ops.length ≤ h.nx →
      (∀ j, i ≤ j → j < ops.length → ρ (c + j) = none) → (∀ k, h.nx ≤ k → ρ k = none) → (∀ a' w' ρ', Ran nt c ρ h w fr' h' a' w' ρ' → Q .normal a' w') → wpOps P ops.toArray Q (List.range' i rest.length) a w
  | [], i, fr, fr', h, h', ρ, a, w, _, hs, hfr, hR, hro, hn, hid, hfresh, hQ => by
    simp only [seqA, Option.some.injEq, Prod.mk.injEq] at hs
    obtain ⟨rfl, rfl⟩ := hs
    exact hQ a w ρ ⟨hfr, hR, Stp.refl .., rfl, Nat.le_refl _, fun _ h _ => h, fun _ _ => rfl, fun _ _ h => h⟩
  | o :: rest, i, fr, fr', h, h', ρ, a, w, hd, hs, hfr, hR, hro, hn, hid, hfresh, hQ => by
    simp only [seqA, Option.bind_eq_some_iff, Prod.exists] at hs
    obtain ⟨f1, h1, hs1, hs⟩ := hs
    have ho : ops[i]? = some o := by
      have : (ops.drop i)[0]? = some o := by rw [← hd]; rfl
      simpa using this
    have hi : i < ops.length := (List.getElem?_eq_some_iff.1 ho).1
    rw [List.length_cons, List.range'_succ, wpOps_cons]
    refine stepA_run hcf hT hS hs1 ho hfr hR hro (hid i (Nat.le_refl _) hi) (by omega) hfresh fun a' w' ρ' hran hoth => ?_
    refine seqA_run hcf hT hS rest (i + 1) f1 fr' h1 h' ρ' a' w' (by rw [← List.drop_drop, ← hd]; rfl) hs hran.fr hran.rel (by rw [hran.ro]; exact hro) (by have := hran.nx; omega)
      (fun j hj hlt => hoth j (hid j (by omega) hlt) (by omega) (by omega)) (fun k hk => hran.fresh k (hfresh k (by have := hran.nx; omega)) (.inr hk)) fun a2 w2 ρ2 hran2 => ?_
    refine hQ a2 w2 ρ2 ⟨hran2.fr, hran2.rel, ?_, hran2.ro.trans hran.ro, Nat.le_trans hran.nx hran2.nx, fun k hk hkk => ?_, fun k hk => (hran2.low k (by rw [hran.ro]; exact hk)).trans (hran.low k hk), fun k hk hn => hran.born k hk (hran2.born k hk hn)⟩
    · have h2 := hran2.stp
      rw [hran.ro] at h2
      exact hran.stp.trans h2
    · refine hran2.fresh k (hran.fresh k hk ?_) hkk
      have := hran2.nx
      omega

end
end Go.AM
end

section
/- What a region whose order is drawn needs: an operation looks at its own operands alone; the run in the text's order, step by step. No program here. -/
set_option linter.unusedSimpArgs false
set_option linter.unusedVariables false
namespace Go.AM
open Go

/-! ### An operation looks at its operands alone -/
theorem map_congr_mem {α β : Type} {f g : α → β} : ∀ {l : List α}, (∀ x ∈ l, f x = g x) → l.map f = l.map g
  | [], _ => rfl
  | a :: l, h => by simp only [List.map_cons, h a (by simp)]; rw [map_congr_mem fun x hx => h x (by simp [hx])]

theorem aop_congr {X : Env} {ev ev' : Operand → AV} {h : H} {id : Nat} {op : Op} (he : ∀ x ∈ op.operands.toList, ev x = ev' x) : aop X ev h id op = aop X ev' h id op := by
  cases op with
  | build t ps =>
    have : (ps.toList.map fun (p : Nat × Operand) => (p.1, ev p.2)) = ps.toList.map fun (p : Nat × Operand) => (p.1, ev' p.2) := map_congr_mem fun p hp => by
      rw [he p.2 (by simp only [Op.operands]; exact List.mem_map.2 ⟨p, hp, rfl⟩)]
    simp only [aop]
    rw [this]
  | buildSlice t n ps =>
    have : (ps.toList.map fun (p : Nat × Operand) => (p.1, ev p.2)) = ps.toList.map fun (p : Nat × Operand) => (p.1, ev' p.2) := map_congr_mem fun p hp => by
      rw [he p.2 (by simp only [Op.operands]; exact List.mem_map.2 ⟨p, hp, rfl⟩)]
    simp only [aop]
    rw [this]
  | makeFunc fn first caps =>
    cases fn with
    | func g =>
      have : caps.toList.map ev = caps.toList.map ev' := map_congr_mem fun x hx => he x (by simp only [Op.operands, Array.toList_append, List.mem_append]; exact .inr hx)
      simp only [aop, this]
    | _ => simp [aop]
  | call c =>
    obtain ⟨cal, args, tys⟩ := c
    cases cal with
    | builtin b =>
      have : args.toList.map ev = args.toList.map ev' := map_congr_mem fun x hx => he x (by simp only [Op.operands, Call.operands, Array.toList_append, List.mem_append]; exact .inr hx)
      simp only [aop, this]
    | _ => simp [aop]
  | slice t x lo hi mx =>
    have h1 : ev x = ev' x := he x (by simp [Op.operands])
    have h2 : lo.map ev = lo.map ev' := by cases lo with | none => rfl | some y => simp only [Option.map_some]; rw [he y (by simp [Op.operands])]
    have h3 : hi.map ev = hi.map ev' := by cases hi with | none => rfl | some y => simp only [Option.map_some]; rw [he y (by simp [Op.operands])]
    have h4 : mx.map ev = mx.map ev' := by cases mx with | none => rfl | some y => simp only [Option.map_some]; rw [he y (by simp [Op.operands])]
    simp only [aop, h1, h2, h3, h4]
  | pick c x y =>
    have h1 : ev c = ev' c := he c (by simp [Op.operands])
    have h2 : ev x = ev' x := he x (by simp [Op.operands])
    have h3 : ev y = ev' y := he y (by simp [Op.operands])
    simp only [aop, h1, h2, h3]
  | alloc t => simp [aop]
  | move x | assign x | box _ x | load _ x | nilCheck x | unOp _ _ x | convert _ _ x | fieldAddr _ x _ | field _ x _ | extract x _ =>
    have h1 : ev x = ev' x := he x (by simp [Op.operands])
    simp only [aop, h1]
  | store _ x y | binOp _ _ x y _ | makeSlice _ x y | indexAddr _ x y | index _ x y =>
    have h1 : ev x = ev' x := he x (by simp [Op.operands])
    have h2 : ev y = ev' y := he y (by simp [Op.operands])
    simp only [aop, h1, h2]
  | _ => simp [aop]

theorem callee_congr {ev ev' : Operand → AV} {op : Op} (he : ∀ x ∈ op.operands.toList, ev x = ev' x) : callee ev op = callee ev' op := by
  cases op with
  | call c =>
    obtain ⟨cal, args, tys⟩ := c
    cases cal with
    | value f =>
      have h1 : ev f = ev' f := he f (by simp [Op.operands, Call.operands])
      have h2 : args.toList.map ev = args.toList.map ev' := map_congr_mem fun x hx => he x (by simp only [Op.operands, Call.operands, Array.toList_append, List.mem_append]; exact .inr hx)
      simp only [callee, h1, h2]
    | _ => rfl
  | _ => rfl

section
variable {ρ : Rho}

theorem callee_run2 {P : Program} {ev : Operand → AV} {a : Act} (h : ∀ x, avR ρ (ev x) (a.eval x)) {o : Oper} {g : FuncId} {args : List AV} (hcal : callee ev o.op = some (g, args)) (w : World) :
    ∃ vs : Array Value, LR (avR ρ) args vs.toList ∧ (execOp a.eval o).run P w = (callFunc g vs).run P w := by
  obtain ⟨dst, op, type, pos, after, guard⟩ := o
  dsimp only at hcal
  unfold callee at hcal
  split at hcal
  · rename_i f cargs tys
    split at hcal
    · rename_i g' caps hf
      simp only [Option.some.injEq, Prod.mk.injEq] at hcal
      obtain ⟨rfl, rfl⟩ := hcal
      have hv := h f
      rw [hf] at hv
      obtain ⟨cs, hfun, hcaps⟩ := hv
      refine ⟨cargs.map a.eval ++ cs, ?_, ?_⟩
      · rw [Array.toList_append]
        refine (ev_list h cargs).append ?_
        have : ∀ {l : List (Nat × Nat)} {vs : List Value}, LR (ptrR ρ) l vs → LR (avR ρ) (l.map fun a => AV.one (.ptr (some a))) vs := by
          intro l
          induction l with
          | nil => intro vs h; cases vs <;> exact h
          | cons x l ih => intro vs h; cases vs with
            | nil => exact h.elim
            | cons v vs => exact ⟨h.1, ih h.2⟩
        exact this hcaps
      · simp only [execOp, resolve, hfun, Deferred.ofValue, Sem.run_bind, Sem.run_pure, Result.andThen_ok, invoke]
        simp
    · simp at hcal
  · simp at hcal

/-- A flat value means the same wherever blocks lie. -/
theorem flatSc_rel {ρ ρ' : Rho} {s : Sc} (hf : flatSc s = true) {v : Value} (h : scR ρ s v) : scR ρ' s v := by
  cases s with
  | ptr a => cases a with
    | none => exact h
    | some a => simp [flatSc] at hf
  | sl a n f z => cases a with
    | none => exact h
    | some a => simp [flatSc] at hf
  | fn f c => simp [flatSc] at hf
  | _ => exact h
theorem flatL_rel {ρ ρ' : Rho} : ∀ {l : List Sc} {vs : List Value}, allB flatSc l = true → LR (scR ρ) l vs → LR (scR ρ') l vs
  | [], [], _, _ => trivial
  | s :: l, v :: vs, hf, h => by
    simp only [allB, Bool.and_eq_true] at hf
    exact ⟨flatSc_rel hf.1 h.1, flatL_rel hf.2 h.2⟩
  | [], _ :: _, _, h => h.elim
  | _ :: _, [], _, h => h.elim
theorem flatEl_rel {ρ ρ' : Rho} {e : Bool × List Sc} {v : Value} (hf : allB flatSc e.2 = true) (h : elR ρ e v) : elR ρ' e v := by
  match e, hf, h with
  | (true, l), hf, ⟨cs, e, h⟩ => exact ⟨cs, e, flatL_rel hf h⟩
  | (false, [s]), hf, h =>
    simp only [allB, Bool.and_eq_true] at hf
    exact flatSc_rel (s := s) hf.1 h
theorem flat_rel {ρ ρ' : Rho} {x : AV} (hf : x.flat = true) {v : Value} (h : avR ρ x v) : avR ρ' x v := by
  cases x with
  | one s => exact flatSc_rel (s := s) hf h
  | agg l => obtain ⟨cs, e, h⟩ := h; exact ⟨cs, e, flatL_rel hf h⟩
  | tup l =>
    obtain ⟨vs, e, h⟩ := h
    refine ⟨vs, e, ?_⟩
    have key : ∀ {l : List (Bool × List Sc)} {vs : List Value}, allB (fun e : Bool × List Sc => allB flatSc e.2) l = true → LR (elR ρ) l vs → LR (elR ρ') l vs := by
      intro l
      induction l with
      | nil => intro vs _ h; cases vs <;> exact h
      | cons e l ih =>
        intro vs hf h
        cases vs with
        | nil => exact h.elim
        | cons v vs =>
          simp only [allB, Bool.and_eq_true] at hf
          exact ⟨flatEl_rel hf.1 h.1, ih hf.2 h.2⟩
    exact key hf h
  | top => simp [AV.flat] at hf

end

/-! ### Masks -/
theorem maskH_get (c : Nat) : ∀ (l : List Nat) (h : H) (x : Nat), (maskH h c l).get x = if ∃ j ∈ l, x = c + j then none else h.get x
  | [], h, x => by simp [maskH]
  | j :: l, h, x => by
    rw [maskH, maskH_get c l, H.get_kill]
    by_cases h1 : ∃ k ∈ l, x = c + k
    · obtain ⟨k, hk, e⟩ := h1
      rw [if_pos ⟨k, hk, e⟩, if_pos ⟨k, by simp [hk], e⟩]
    · rw [if_neg h1]
      by_cases h2 : x = c + j
      · rw [if_pos h2, if_pos ⟨j, by simp, h2⟩]
      · rw [if_neg h2, if_neg]
        rintro ⟨k, hk, e⟩
        rcases List.mem_cons.1 hk with rfl | hk
        · exact h2 e
        · exact h1 ⟨k, hk, e⟩
theorem maskH_nx (c : Nat) : ∀ (l : List Nat) (h : H), (maskH h c l).nx = h.nx ∧ (maskH h c l).ro = h.ro
  | [], h => ⟨rfl, rfl⟩
  | j :: l, h => by rw [maskH]; exact maskH_nx c l _
theorem unmaskH_get (h : H) (c : Nat) : ∀ (l : List Nat) (h' : H) (x : Nat), (unmaskH h c l h').get x = if ∃ j ∈ l, x = c + j then h.get x else h'.get x
  | [], h', x => by simp [unmaskH]
  | j :: l, h', x => by
    rw [unmaskH, unmaskH_get h c l]
    by_cases h1 : ∃ k ∈ l, x = c + k
    · obtain ⟨k, hk, e⟩ := h1
      rw [if_pos ⟨k, hk, e⟩, if_pos ⟨k, by simp [hk], e⟩]
    · rw [if_neg h1]
      by_cases h2 : x = c + j
      · rw [if_pos ⟨j, by simp, h2⟩]
        subst h2
        cases hg : h.get (c + j) with
        | none => simp [H.get_kill]
        | some y => simp [H.get_put]
      · have : ¬ ∃ k ∈ j :: l, x = c + k := by
          rintro ⟨k, hk, e⟩
          rcases List.mem_cons.1 hk with rfl | hk
          · exact h2 e
          · exact h1 ⟨k, hk, e⟩
        rw [if_neg this]
        cases hg : h.get (c + j) with
        | none => simp [H.get_kill, h2]
        | some y => simp [H.get_put, h2]
theorem unmaskH_nx (h : H) (c : Nat) : ∀ (l : List Nat) (h' : H), (unmaskH h c l h').nx = h'.nx ∧ (unmaskH h c l h').ro = h'.ro
  | [], h' => ⟨rfl, rfl⟩
  | j :: l, h' => by
    rw [unmaskH]
    refine ⟨(unmaskH_nx h c l _).1.trans ?_, (unmaskH_nx h c l _).2.trans ?_⟩ <;> cases h.get (c + j) <;> rfl

/-! ### The run in the text's order -/
structure DS where
  fr : Fr
  h : H
  sp : List Lo
  ss : List Sn

section
variable {X : Env} {cf : CallF} {nt c : Nat} {ops : List Oper}

def DStep (X : Env) (cf : CallF) (nt c : Nat) (ops : List Oper) (j : Nat) (o : Oper) (S S' : DS) : Prop := drawStep X cf nt c ops (befs ops) j o S.fr S.h S.sp S.ss = some (S'.fr, S'.h, S'.sp, S'.ss)

theorem draw_text : ∀ (rest : List Oper) (i : Nat) (fr : Fr) (h : H) (sp : List Lo) (ss : List Sn) (fr' : Fr) (h' : H), rest = ops.drop i → i ≤ ops.length → drawA X cf nt c ops (befs ops) i rest fr h sp ss = some (fr', h') →
    ∃ S : Nat → DS, S i = ⟨fr, h, sp, ss⟩ ∧ (∀ j o, i ≤ j → ops[j]? = some o → DStep X cf nt c ops j o (S j) (S (j + 1))) ∧ (S ops.length).fr = fr' ∧ (S ops.length).h = h'
  | [], i, fr, h, sp, ss, fr', h', hd, hi, hs => by
    simp only [drawA, Option.some.injEq, Prod.mk.injEq] at hs
    obtain ⟨rfl, rfl⟩ := hs
    have hlen : ops.length ≤ i := by
      have := congrArg List.length hd
      simp at this; omega
    refine ⟨fun _ => ⟨fr, h, sp, ss⟩, rfl, fun j o hj ho => ?_, rfl, rfl⟩
    have := (List.getElem?_eq_some_iff.1 ho).1
    omega
  | o :: rest, i, fr, h, sp, ss, fr', h', hd, hi, hs => by
    simp only [drawA, Option.bind_eq_some_iff, Prod.exists] at hs
    obtain ⟨f1, h1, sp1, ss1, hs1, hs⟩ := hs
    have ho : ops[i]? = some o := by
      have : (ops.drop i)[0]? = some o := by rw [← hd]; rfl
      simpa using this
    have hlt : i < ops.length := (List.getElem?_eq_some_iff.1 ho).1
    obtain ⟨S, hS0, hSs, hf, hh⟩ := draw_text rest (i + 1) f1 h1 sp1 ss1 fr' h' (by rw [← List.drop_drop, ← hd]; rfl) hlt hs
    refine ⟨fun k => if k = i then ⟨fr, h, sp, ss⟩ else S k, by simp, fun j o' hj ho' => ?_, ?_, ?_⟩
    · dsimp only
      rw [if_neg (show ¬ j + 1 = i by omega)]
      by_cases e : j = i
      · subst e
        rw [ho] at ho'
        injection ho' with e
        subst e
        rw [if_pos rfl, hS0]
        exact hs1
      · rw [if_neg e]
        exact hSs j o' (by omega) ho'
    · dsimp only
      rw [if_neg (by omega)]; exact hf
    · dsimp only
      rw [if_neg (by omega)]; exact hh

/-- What a step does to the slots. -/
theorem DStep.slots {j : Nat} {o : Oper} {S S' : DS} (h : DStep X cf nt c ops j o S S') : ∃ v, putS nt S.fr o.dst v = some S'.fr := by
  unfold DStep drawStep at h
  simp only [Option.bind_eq_some_iff] at h
  obtain ⟨b, _, h⟩ := h
  cases b with
  | false =>
    simp only [Bool.false_eq_true, if_false, Option.map_eq_some_iff, Prod.mk.injEq] at h
    obtain ⟨f, hp, rfl, _⟩ := h
    exact ⟨_, hp⟩
  | true =>
    simp only [if_true] at h
    split at h
    · simp only [Option.bind_eq_some_iff, Prod.exists] at h
      obtain ⟨v, h1, _, h⟩ := h
      split at h
      · simp only [Option.map_eq_some_iff, Prod.mk.injEq] at h
        obtain ⟨f, hp, rfl, _⟩ := h
        exact ⟨_, hp⟩
      · simp at h
    · split at h
      · simp only [Option.bind_eq_some_iff, Prod.exists] at h
        obtain ⟨g, args, _, v, h1, _, h⟩ := h
        split at h
        · simp only [Option.map_eq_some_iff, Prod.mk.injEq] at h
          obtain ⟨f, hp, rfl, _⟩ := h
          exact ⟨_, hp⟩
        · simp at h
      · split at h
        · simp only [Option.bind_eq_some_iff, Option.map_eq_some_iff, Prod.exists, Prod.mk.injEq] at h
          obtain ⟨v, he, _, l, _, f, hp, rfl, _⟩ := h
          exact ⟨_, hp⟩
        · split at h
          · split at h
            · split at h
              · simp at h
              · split at h
                · simp only [Option.bind_eq_some_iff] at h
                  obtain ⟨l, _, h⟩ := h
                  split at h
                  · simp only [Option.bind_eq_some_iff, Option.map_eq_some_iff, Prod.mk.injEq] at h
                    obtain ⟨v, _, f, hp, rfl, _⟩ := h
                    exact ⟨_, hp⟩
                  · simp at h
                · simp at h
            · simp at h
          · simp only [Option.bind_eq_some_iff, Option.map_eq_some_iff, Prod.exists, Prod.mk.injEq] at h
            obtain ⟨v, he, _, f, hp, rfl, _⟩ := h
            exact ⟨_, hp⟩

theorem putS_get {nt : Nat} {fr fr' : Fr} {dst : Option Tmp} {v : AV} (hp : putS nt fr dst v = some fr') (t : Tmp) : fr'.get t = if dst = some t then v else fr.get t := by
  unfold putS at hp
  cases dst with
  | none => simp at hp; subst hp; simp
  | some d =>
    dsimp only at hp
    split at hp
    · simp at hp; subst hp
      rw [Fr.get_set]
      by_cases e : t = d
      · subst e; simp
      · have : ¬ (some d = some t) := by simp; exact fun h => e h.symm
        rw [if_neg e, if_neg this]
    · simp at hp


/-- Is operation j one that writes, and is it wanted? -/
def WW (X : Env) (ops : List Oper) (S : Nat → DS) (j : Nat) : Prop := ∃ o, ops[j]? = some o ∧ isW X o.op = true ∧ wantedA ops (S j).fr o = some true

/-- A number of a block that an operation that only makes it has been given. -/
def NId (c : Nat) (ops : List Oper) (x j : Nat) : Prop := x = c + j ∧ ∃ o, ops[j]? = some o ∧ isN o.op = true

theorem mem_maskOf {bi j : Nat} : j ∈ maskOf ops bi ↔ j < ops.length ∧ isN (ops.getD j default).op = true ∧ bi.testBit j = false := by
  unfold maskOf
  rw [List.mem_filter, List.mem_range, Bool.and_eq_true, Bool.not_eq_true']

/-- What a step that does not write leaves of the blocks. -/
theorem DStep.heap {j : Nat} {o : Oper} {S S' : DS} (h : DStep X cf nt c ops j o S S') (hn : ¬ (isW X o.op = true ∧ wantedA ops S.fr o = some true)) :
    S'.h.nx = S.h.nx ∧ S'.h.ro = S.h.ro ∧ (∀ x, (isN o.op = true → x ≠ c + j) → S'.h.get x = S.h.get x) := by
  unfold DStep drawStep at h
  simp only [Option.bind_eq_some_iff] at h
  obtain ⟨b, hb, h⟩ := h
  cases b with
  | false =>
    simp only [Bool.false_eq_true, if_false, Option.map_eq_some_iff, Prod.mk.injEq] at h
    obtain ⟨f, hp, _, hh, _⟩ := h
    rw [← hh]
    exact ⟨rfl, rfl, fun _ _ => rfl⟩
  | true =>
    simp only [if_true] at h
    split at h
    · rename_i hw; exact absurd ⟨hw, hb⟩ hn
    · split at h
      · simp only [Option.bind_eq_some_iff, Prod.exists] at h
        obtain ⟨g, args, _, v, h1, _, h⟩ := h
        split at h
        · simp only [Option.map_eq_some_iff, Prod.mk.injEq] at h
          obtain ⟨f, hp, _, hh, _⟩ := h
          rw [← hh]
          exact ⟨rfl, rfl, fun _ _ => rfl⟩
        · simp at h
      · split at h
        · rename_i hN
          simp only [Option.bind_eq_some_iff, Option.map_eq_some_iff, Prod.exists, Prod.mk.injEq] at h
          obtain ⟨v, he, _, l, _, f, hp, _, hh, _⟩ := h
          rw [← hh]
          refine ⟨rfl, rfl, fun x hx => ?_⟩
          rw [H.get_put, if_neg (hx hN)]
        · split at h
          · split at h
            · split at h
              · simp at h
              · split at h
                · simp only [Option.bind_eq_some_iff] at h
                  obtain ⟨l, _, h⟩ := h
                  split at h
                  · simp only [Option.bind_eq_some_iff, Option.map_eq_some_iff, Prod.mk.injEq] at h
                    obtain ⟨v, _, f, hp, _, hh, _⟩ := h
                    rw [← hh]
                    exact ⟨rfl, rfl, fun _ _ => rfl⟩
                  · simp at h
                · simp at h
            · simp at h
          · simp only [Option.bind_eq_some_iff, Option.map_eq_some_iff, Prod.exists, Prod.mk.injEq] at h
            obtain ⟨v, he, _, f, hp, _, hh, _⟩ := h
            rw [← hh]
            exact ⟨rfl, rfl, fun _ _ => rfl⟩

/-- What a step that writes is. -/
theorem DStep.write {j : Nat} {o : Oper} {S S' : DS} (h : DStep X cf nt c ops j o S S') (hw : isW X o.op = true) (hb : wantedA ops S.fr o = some true) :
    ∃ v h', (if isCall o.op = true then (callee S.fr.ev o.op).bind fun (g, args) => cf g args (maskH S.h c (maskOf ops ((befs ops).getD j 0))) else aop X S.fr.ev (maskH S.h c (maskOf ops ((befs ops).getD j 0))) (c + j) o.op) = some (v, h') ∧
      S'.h = unmaskH S.h c (maskOf ops ((befs ops).getD j 0)) h' ∧ sameLoads ((befs ops).getD j 0) S'.h S.sp = true ∧ putS nt S.fr o.dst v = some S'.fr ∧ S'.sp = S.sp ∧ S'.ss = ⟨j, S.h⟩ :: S.ss := by
  unfold DStep drawStep at h
  simp only [Option.bind_eq_some_iff] at h
  obtain ⟨b, hb', h⟩ := h
  rw [hb] at hb'
  injection hb' with hb'
  subst hb'
  simp only [if_true, hw, Option.bind_eq_some_iff, Prod.exists] at h
  obtain ⟨v, h1, hop, h⟩ := h
  split at h
  · rename_i hsl
    simp only [Option.map_eq_some_iff, Prod.mk.injEq] at h
    obtain ⟨f, hp, rfl, hh, hsp, hss⟩ := h
    exact ⟨v, h1, hop, hh.symm, by rw [← hh]; exact hsl, hp, hsp.symm, hss.symm⟩
  · simp at h

/-- What has been noted stays noted. -/
theorem DStep.notes {j : Nat} {o : Oper} {S S' : DS} (h : DStep X cf nt c ops j o S S') : (∀ s ∈ S.sp, s ∈ S'.sp) ∧ (∀ s ∈ S.ss, s ∈ S'.ss) := by
  unfold DStep drawStep at h
  simp only [Option.bind_eq_some_iff] at h
  obtain ⟨b, _, h⟩ := h
  cases b with
  | false =>
    simp only [Bool.false_eq_true, if_false, Option.map_eq_some_iff, Prod.mk.injEq] at h
    obtain ⟨f, hp, _, _, hsp, hss⟩ := h
    rw [← hsp, ← hss]
    exact ⟨fun _ h => h, fun _ h => h⟩
  | true =>
    simp only [if_true] at h
    split at h
    · simp only [Option.bind_eq_some_iff, Prod.exists] at h
      obtain ⟨v, h1, _, h⟩ := h
      split at h
      · simp only [Option.map_eq_some_iff, Prod.mk.injEq] at h
        obtain ⟨f, hp, _, _, hsp, hss⟩ := h
        rw [← hsp, ← hss]
        exact ⟨fun _ h => h, fun _ h => List.mem_cons_of_mem _ h⟩
      · simp at h
    · split at h
      · simp only [Option.bind_eq_some_iff, Prod.exists] at h
        obtain ⟨g, args, _, v, h1, _, h⟩ := h
        split at h
        · simp only [Option.map_eq_some_iff, Prod.mk.injEq] at h
          obtain ⟨f, hp, _, _, hsp, hss⟩ := h
          rw [← hsp, ← hss]
          exact ⟨fun _ h => h, fun _ h => h⟩
        · simp at h
      · split at h
        · simp only [Option.bind_eq_some_iff, Option.map_eq_some_iff, Prod.exists, Prod.mk.injEq] at h
          obtain ⟨v, he, _, l, _, f, hp, _, _, hsp, hss⟩ := h
          rw [← hsp, ← hss]
          exact ⟨fun _ h => h, fun _ h => h⟩
        · split at h
          · split at h
            · split at h
              · simp at h
              · split at h
                · simp only [Option.bind_eq_some_iff] at h
                  obtain ⟨l, _, h⟩ := h
                  split at h
                  · simp only [Option.bind_eq_some_iff, Option.map_eq_some_iff, Prod.mk.injEq] at h
                    obtain ⟨v, _, f, hp, _, _, hsp, hss⟩ := h
                    rw [← hsp, ← hss]
                    exact ⟨fun _ h => List.mem_cons_of_mem _ h, fun _ h => h⟩
                  · simp at h
                · simp at h
            · simp at h
          · simp only [Option.bind_eq_some_iff, Option.map_eq_some_iff, Prod.exists, Prod.mk.injEq] at h
            obtain ⟨v, he, _, f, hp, _, _, hsp, hss⟩ := h
            rw [← hsp, ← hss]
            exact ⟨fun _ h => h, fun _ h => h⟩

end
end Go.AM
end
