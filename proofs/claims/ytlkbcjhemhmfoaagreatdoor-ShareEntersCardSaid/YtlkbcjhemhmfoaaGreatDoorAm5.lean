/- append, copy, clear; and every operation together: the machine and the model. No program here. -/
import Derived.Test.YtlkbcjhemhmfoaaGreatDoorAm4
set_option linter.unusedSimpArgs false
set_option linter.unusedVariables false
namespace Go.AM
open Go

section
variable {ρ : Rho}

/-- What a slice that is read reads as. -/
theorem lenCells_rel {h : H} {w : World} (hR : Rel ρ h.get h.ro w) {size n : Nat} {x : AV} {l : List Sc} (hl : lenCells h size x = some (n, l)) {v : Value} (hv : avR ρ x v) :
    ∃ a c vs, v = .slice a n c ∧ n ≤ c ∧ LR (scR ρ) l vs ∧ vs.length = n * size ∧ (n ≠ 0 → ∃ ad, a = some ad ∧ ∀ j u, vs[j]? = some u → w.cell? (ad.add j) = some u) := by
  unfold lenCells at hl
  split at hl
  · simp only [Option.some.injEq, Prod.mk.injEq] at hl
    obtain ⟨rfl, rfl⟩ := hl
    obtain ⟨rfl, rfl⟩ := hv
    exact ⟨none, 0, [], rfl, Nat.le_refl _, trivial, by simp, fun h => absurd rfl h⟩
  · rename_i i o m full sz
    split at hl
    · rename_i hsz
      subst hsz
      simp only [Option.map_eq_some_iff, Prod.mk.injEq] at hl
      obtain ⟨l', hload, rfl, rfl⟩ := hl
      obtain ⟨b, base, room, c, ad, hr, rfl, had, hnc, hf, hroom⟩ := hv
      obtain ⟨bl, hb, hle, rfl⟩ := H.load_get hload
      obtain ⟨vs, hvs, hlen, hcells⟩ := hR.reads hb hle hr
      refine ⟨_, c, vs, rfl, hnc, hvs, hlen, fun hn => ⟨ad, rfl, ?_⟩⟩
      rcases had with had | had
      · subst had; exact hcells
      · omega
    · simp at hl
  · simp at hl

theorem LR.one {l : List Sc} {vs : List Value} (h : LR (scR ρ) l vs) : ∀ v ∈ vs, v.oneCell' = true := fun v hm => by
  obtain ⟨j, hj, e⟩ := List.getElem_of_mem hm
  have hl := h.length
  obtain ⟨v', hv', hr'⟩ := h.get (x := l[j]'(by omega)) (j := j) (by simp [show j < l.length by omega])
  have : v' = v := by rw [List.getElem?_eq_getElem hj, e] at hv'; injection hv' with h; exact h.symm
  subst this
  exact hr'.one

theorem append_zero {P : Program} {t e ty : TypeId} (ht : P.underlying t = some (.slice e)) {i : TypeInfo} (hi : P.info? e = some i) (a : Option Addr) (n c : Nat) (hnc : n ≤ c) (b : Option Addr) (c' : Nat) (w : World) :
    (Builtin.append_ #[t, t] ty #[.slice a n c, .slice b 0 c']).run P w = .ok (.slice a n c) w := by
  cases a <;> cases b <;> simp [Builtin.append_, run_underlying' ht, sizeOf, typeInfo, hi, Builtin.lenOf, hnc, Builtin.firstCells, loadCells, loadCellsFrom, storeCells]

/-- The row goes on in new memory. -/
theorem append_new_did {h : H} {id : Nat} {w : World} (hR : Rel ρ h.get h.ro w) (hid : ρ id = none) {e : TypeId} {sz : Nat} {olds news : List Sc} {vo vn : List Value} (ho : LR (scR ρ) olds vo) (hn : LR (scR ρ) news vn)
    {N C : Nat} (hN : (olds ++ news).length = N * sz) (hC : N ≤ C) {z : Array Value} (hz : z.size = sz) {h' : H} (hh : ∀ i l, h'.get i = some l → (h.put id (olds ++ news)).get i = some l) (hro : h'.ro = h.ro) (hnx : h'.nx = h.nx) (hget : h'.get id = some (olds ++ news))
    {r : Result Next} (hr : r = .ok (.value (.slice (some ⟨w.heap.size, 0, none⟩) N C)) (w.drew.alloc (.cells (vo.toArray ++ vn.toArray ++ Builtin.zeroCells z (C - N)) e))) :
    Did ρ h id w (.one (.sl (some (id, 0)) N false sz)) h' r := by
  have hl := (ho.append hn)
  have hlen := hl.length
  have hcs : (vo.toArray ++ vn.toArray ++ Builtin.zeroCells z (C - N)).size = C * sz := by
    simp only [Array.size_append, List.size_toArray, size_zeroCells, hz]
    have e1 : vo.length + vn.length = N * sz := by rw [← List.length_append, ← hlen]; exact hN
    rw [e1, ← Nat.add_mul]
    congr 1; omega
  obtain ⟨h1, h2, h3⟩ := hR.drew.new hid (t := e) (l := olds ++ news) (cs := vo.toArray ++ vn.toArray ++ Builtin.zeroCells z (C - N)) (by
    have : (vo.toArray ++ vn.toArray ++ Builtin.zeroCells z (C - N)).toList.take (olds ++ news).length = vo ++ vn := by
      simp only [Array.toList_append, hlen]
      exact List.take_left
    rw [this]; exact hl) (by rw [hcs, hN]; exact Nat.mul_le_mul_right _ hC)
  have h3' : (fun i => if i = id then some (w.drew.heap.size, 0, (vo.toArray ++ vn.toArray ++ Builtin.zeroCells z (C - N)).size) else ρ i) id = some (w.heap.size, 0, C * sz) := by rw [h3, hcs]; rfl
  have h4 : avR (fun i => if i = id then some (w.drew.heap.size, 0, (vo.toArray ++ vn.toArray ++ Builtin.zeroCells z (C - N)).size) else ρ i) (.one (.sl (some (id, 0)) N false sz)) (.slice (some ⟨w.heap.size, 0, none⟩) N C) :=
    ⟨w.heap.size, 0, C * sz, C, ⟨w.heap.size, 0, none⟩, h3', rfl, .inl rfl, hC, fun hh => by simp at hh, by omega⟩
  refine ⟨_, _, _, .inl hr, h4, ?_, ?_, hro, hnx, fun i hi hne => by simp [hne, hi]⟩
  · rw [hro]
    exact (h1.congr fun i => H.get_put ..).sub hh fun _ _ _ h => h
  · exact (((Stp.drew ρ h.get h.ro w).trans h2).congr fun i => H.get_put ..).sub hh

theorem append_did {P : Program} {X : Env} (hT : X.T = tyOf P) {h : H} {id : Nat} {w : World} (hR : Rel ρ h.get h.ro w) (hid : ρ id = none) (hidro : h.ro ≤ id) {t u ty : TypeId} {s x v : AV} {h' : H} (ha : abuiltin X h id .append [t, u] [s, x] = some (v, h')) {vs vx : Value} (hs : avR ρ s vs) (hx : avR ρ x vx)
    {r : Result Next} (hr : r = (do pure (.value (← Builtin.append_ #[t, u] ty #[vs, vx])) : Sem Next).run P w) : Did ρ h id w v h' r := by
  have hgid : h.get id = none := by
    cases hg : h.get id with
    | none => rfl
    | some l => obtain ⟨b, base, room, e, _⟩ := hR.blk id l hg; rw [hid] at e; cases e
  obtain ⟨XT, XF, XE, Xs, Xw⟩ := X
  dsimp only at hT
  subst hT
  simp only [abuiltin] at ha
  split at ha
  · rename_i e ht
    split at ha
    · simp at ha
    · rename_i hcond
      have htu : t = u := by
        rcases Nat.decEq t u with h | h
        · exact absurd (Or.inl h) hcond
        · exact h
      have hs0 : (tyOf P e).size ≠ 0 := fun h => hcond (Or.inr (Or.inl h))
      subst htu
      simp only [Option.bind_eq_some_iff, Prod.exists] at ha
      obtain ⟨n, new, hlc, ha⟩ := ha
      obtain ⟨a', c', vn, rfl, hnc', hvn, hvl, hcells⟩ := lenCells_rel hR hlc hx
      obtain ⟨i, z, d, hi, _, hz, hcc, hsize, hbytes, _⟩ := tyOf_some (P := P) (t := e) (.inr (by omega))
      have hu := under_slice ht
      obtain ⟨zv, hzv, hzr⟩ := zero_rel (P := P) (t := e) (.inr (by omega))
      have hzl : z.cells.size = (tyOf P e).zero.length := by
        have := (constCells_rel ρ hcc).length
        simpa using this.symm
      have hzs : z.cells.size = (tyOf P e).size := by
        rw [hzl]
        rcases Nat.decEq (tyOf P e).zero.length (tyOf P e).size with hne | he
        · exact absurd (Or.inr (Or.inr hne)) hcond
        · exact he
      have hfit : ∀ N old : Nat, old < N → N * i.bytes ≤ 140737488355328 → Builtin.nextslicecap N old * i.bytes ≤ 281474976710656 := fun N old h1 h2 => growslice_fits h1 h2
      have bpos : (tyOf P e).bytes = i.bytes := hbytes
      split at ha
      · -- a nil slice
        obtain ⟨rfl, rfl⟩ := hs
        split at ha
        · rename_i hn0
          subst hn0
          simp only [Option.some.injEq, Prod.mk.injEq] at ha
          obtain ⟨rfl, rfl⟩ := ha
          refine Did.pure (v := .one (.sl none 0 true 0)) hR (v' := .slice none 0 0) (⟨rfl, rfl⟩ : scR ρ (.sl none 0 true 0) (.slice none 0 0)) ?_
          rw [hr]
          simp only [Sem.run_bind, append_zero hu hi none 0 0 (Nat.le_refl _), Result.andThen_ok, Sem.run_pure]
        · rename_i hn0
          split at ha
          · rename_i hb
            simp only [Option.some.injEq, Prod.mk.injEq] at ha
            obtain ⟨rfl, rfl⟩ := ha
            obtain ⟨ad, rfl, hcl⟩ := hcells hn0
            have hrun := run_append_nil (P := P) w t ty e i z hu hi hz ad n c' vn (by rw [hvl, hsize]) hcl (by omega) (by omega) (by rw [← bpos]; omega)
            refine append_new_did hR hid (e := e) (olds := []) (news := new) (vo := []) (vn := vn) trivial hvn (N := n) (C := grownCap w n 0 e) (z := z.cells) ?_ (grownCap_ge w n 0 e) hzs (fun i l h => h) rfl rfl (by rw [H.get_put]; simp) ?_
            · rw [List.nil_append, ← hvl]; exact hvn.length
            · rw [hr]
              simp only [Sem.run_bind, hrun, Result.andThen_ok, Sem.run_pure]
              simp
          · simp at ha
      · rename_i i0 o sn full sz
        have hs' := hs
        obtain ⟨b, base, room, c, ad, hrho, rfl, had, hnc, hf, hroom⟩ := hs
        split at ha
        · rename_i hn0
          subst hn0
          simp only [Option.some.injEq, Prod.mk.injEq] at ha
          obtain ⟨rfl, rfl⟩ := ha
          refine Did.pure hR hs' ?_
          rw [hr]
          simp only [Sem.run_bind, append_zero hu hi (some ad) sn c hnc, Result.andThen_ok, Sem.run_pure]
        · rename_i hn0
          obtain ⟨ax, rfl, hcl⟩ := hcells hn0
          split at ha
          · rename_i hb
            obtain ⟨rfl, hb1, hb2⟩ := hb
            simp only [Option.bind_eq_some_iff] at ha
            obtain ⟨old, hold, ha⟩ := ha
            obtain ⟨bl, hbl, hle, rfl⟩ := H.load_get hold
            obtain ⟨vo, hvo, hvol, hvoc⟩ := hR.reads hbl hle hrho
            have hvoc' : ∀ (j : Nat) v, vo[j]? = some v → w.cell? (ad.add j) = some v := fun j v hj => by
              rcases had with had | had
              · subst had; exact hvoc j v hj
              · have : vo = [] := List.eq_nil_of_length_eq_zero (by rw [hvol, show sn = 0 by omega]; simp)
                subst this; simp at hj
            have hlen1 : ((bl.drop o).take (sn * (tyOf P e).size) ++ new).length = (sn + n) * (tyOf P e).size := by
              rw [List.length_append, hvo.length, hvn.length, hvol, hvl, Nat.add_mul]
            have grow : c < sn + n → ∀ h' : H, (∀ i l, h'.get i = some l → (h.put id ((bl.drop o).take (sn * (tyOf P e).size) ++ new)).get i = some l) → h'.ro = h.ro → h'.nx = h.nx → h'.get id = some ((bl.drop o).take (sn * (tyOf P e).size) ++ new) →
                Did ρ h id w (.one (.sl (some (id, 0)) (sn + n) false (tyOf P e).size)) h' r := by
              intro hc h' k1 k2 k3 k4
              have hrun := run_append_grow (P := P) w t ty e i z hu hi hz ad sn c vo (by rw [hvol, hsize]) hvoc' ax n c' vn (by rw [hvl, hsize]) hcl hc (by omega) (hfit _ _ hc (by rw [← bpos]; omega))
              refine append_new_did hR hid (e := e) hvo hvn (N := sn + n) (C := grownCap w (sn + n) c e) (z := z.cells) hlen1 (grownCap_ge w (sn + n) c e) hzs k1 k2 k3 k4 ?_
              rw [hr]
              simp only [Sem.run_bind, hrun, Result.andThen_ok, Sem.run_pure]
            split at ha
            · rename_i hfull
              simp only [Option.some.injEq, Prod.mk.injEq] at ha
              obtain ⟨rfl, rfl⟩ := ha
              exact grow (by have := hf hfull; omega) _ (fun _ _ h => h) rfl rfl (by rw [H.get_put]; simp)
            · rename_i hfull
              split at ha
              · rename_i hro
                simp only [Option.some.injEq, Prod.mk.injEq] at ha
                obtain ⟨rfl, rfl⟩ := ha
                by_cases hc : c < sn + n
                · refine grow hc _ (fun k l hk => ?_) rfl rfl (by rw [H.get_put]; simp)
                  rw [H.get_put, H.get_kill] at hk
                  rw [H.get_put]
                  split at hk
                  · rename_i e1; rw [if_pos e1]; exact hk
                  · rename_i e1
                    rw [if_neg e1]
                    split at hk
                    · cases hk
                    · exact hk
                · -- there is room: the row is written where it lies
                  have had' : ad = ⟨b, base + o, none⟩ := by
                    rcases had with had | had
                    · exact had
                    · omega
                  subst had'
                  obtain ⟨b', base', room', e', cs, ct, fz, hcs, hlb, hrm, hcell, hown⟩ := hR.blk i0 bl hbl
                  rw [hrho] at e'
                  simp only [Option.some.injEq, Prod.mk.injEq] at e'
                  obtain ⟨rfl, rfl, rfl⟩ := e'
                  have hfz := hown hro
                  subst hfz
                  have hmul : (sn + n) * (tyOf P e).size ≤ c * (tyOf P e).size := Nat.mul_le_mul_right _ (by omega)
                  rw [Nat.add_mul] at hmul
                  obtain ⟨cs', hst, hcs'⟩ := stores_run P (b := b) (x := base + o + sn * (tyOf P e).size) vn 0 w cs hcs (by omega) hvn.one
                  have hsz' : cs'.size = cs.size := by
                    rw [← Array.length_toList, hcs']
                    simp; omega
                  rw [Nat.add_zero] at hcs'
                  have hold2 : (bl.drop o).take (sn * (tyOf P e).size) = (bl.drop o).take (sn * (tyOf P e).size) := rfl
                  have holdl : ((bl.drop o).take (sn * (tyOf P e).size)).length = sn * (tyOf P e).size := by rw [hvo.length, hvol]
                  have hnewl : new.length = n * (tyOf P e).size := by rw [hvn.length, hvl]
                  have hne : id ≠ i0 := fun hh => by rw [hh] at hid; rw [hid] at hrho; cases hrho
                  obtain ⟨k1, k2, k3⟩ := hR.wrote hbl hro hrho hcs hsz' (l' := (bl.drop o).take (sn * (tyOf P e).size) ++ new) (o := o) (by omega) (by rw [hlen1, Nat.add_mul]; omega) (fun j x hx => by
                    by_cases h1 : j < sn * (tyOf P e).size
                    · rw [List.getElem?_append_left (by omega), List.getElem?_take_of_lt h1, List.getElem?_drop] at hx
                      obtain ⟨v, hv, hs⟩ := hcell _ x hx
                      refine ⟨v, ?_, hs⟩
                      rw [← Array.getElem?_toList, hcs', List.append_assoc, List.getElem?_append_left (by simp; omega), List.getElem?_take_of_lt (by omega)]
                      rw [← hv, Nat.add_assoc]; simp
                    · rw [List.getElem?_append_right (by omega), holdl] at hx
                      have hj : j - sn * (tyOf P e).size < new.length := (List.getElem?_eq_some_iff.1 hx).1
                      obtain ⟨v, hv, hs⟩ := hvn.get hx
                      refine ⟨v, ?_, hs⟩
                      rw [← Array.getElem?_toList, hcs', List.append_assoc, List.getElem?_append_right (by simp; omega), List.getElem?_append_left (by simp; omega)]
                      rw [← hv]; congr 1; simp; omega) (id := id) (.inr ⟨hne, hid, hidro⟩)
                  have hrun : (Builtin.append_ #[t, t] ty #[.slice (some ⟨b, base + o, none⟩) sn c, .slice (some ax) n c']).run P w = .ok (.slice (some ⟨b, base + o, none⟩) (sn + n) c) { w with heap := w.heap.setIfInBounds b (.cells cs' ct (0, 0)) } := by
                    have hfc := run_firstCells_some (P := P) w i.size n ax n c' vn (by rw [hvl, hsize]) hcl
                    have hfc' : (Builtin.firstCells i.size n (.slice (some ax) n c')).run P w = .ok vn.toArray w := by
                      have := run_firstCells_some (P := P) w i.size n ax n c' vn (by rw [hvl, hsize]) hcl
                      exact this
                    have hroom' : sn + n ≤ c := by omega
                    rw [hsize] at hst
                    simp [Builtin.append_, run_underlying' hu, sizeOf, typeInfo, hi, Builtin.lenOf, hroom', hfc', add_plain, hst]
                  have hval : avR (fun k => if k = id then some (b, base + o, room - o) else ρ k) (.one (.sl (some (id, 0)) (sn + n) false (tyOf P e).size)) (.slice (some ⟨b, base + o, none⟩) (sn + n) c) :=
                    ⟨b, base + o, room - o, c, ⟨b, base + o, none⟩, k3, rfl, .inl (by rw [Nat.add_zero]), by omega, fun hh => by simp at hh, by omega⟩
                  have hr' : r = .ok (.value (.slice (some ⟨b, base + o, none⟩) (sn + n) c)) { w with heap := w.heap.setIfInBounds b (.cells cs' ct (0, 0)) } := by
                    rw [hr]; simp only [Sem.run_bind, hrun, Result.andThen_ok, Sem.run_pure]
                  refine ⟨_, _, _, .inl hr', hval, k1.congr fun k => ?_, k2.congr fun k => ?_, rfl, rfl, fun k hk hkn => by simp [hkn, hk]⟩ <;>
                  · rw [H.get_put, H.get_kill]
              · simp at ha
          · simp at ha
      · simp at ha
  · simp at ha

end
end Go.AM
