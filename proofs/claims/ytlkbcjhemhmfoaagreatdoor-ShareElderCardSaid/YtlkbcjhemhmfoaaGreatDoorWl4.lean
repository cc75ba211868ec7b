/- The plain law of the statement ShareElder. -/
import Derived.Test.YtlkbcjhemhmfoaaGreatDoorWl0
set_option linter.unusedSimpArgs false
set_option linter.unusedVariables false
namespace Snow
theorem IsMax.winCongr {I : Inst} {w : Nat → Nat → Bool} (hw : ∀ k i, k < I.m → w k i = I.win k i) {l : Nat → Int} {v : Int} (h : IsMax { I with win := w } l v) : IsMax I l v := by
  obtain ⟨⟨f, g, hf, e⟩, X, Y, c, hc⟩ := h
  refine ⟨⟨f, ⟨g.a0, g.a1, g.c0, g.c1, g.cf, g.cn, g.d0, fun k i hk hi hn => g.dw k i hk hi ?_, g.keep⟩, hf, e⟩, X, Y, fun k i hk hi hy hn => c k i hk hi hy ?_, hc⟩
  · show w k i = false
    rw [hw k i hk]; exact hn
  · show w k i = true
    rw [hw k i hk]; exact hn
end Snow
namespace Go.AM
open Go Go.Proofs
open Snow (IsMax Promised)
section
variable {rs : List Rt} {ss : List Su} {po : List Po}
theorem vOf_get {vs : List Int} {k : Nat} {x : Int} (h : vs[k]? = some x) : vOf vs k = x := by unfold vOf; rw [List.getD_eq_getElem?_getD, h]; rfl
theorem promised_vol (B : ShB rs ss po) {p : List Int} (hp : PromRes rs ss po p) : VolOK rs p where
  len := hp.len
  v i x r hx hr := by
    have hi : i < rs.length := (List.getElem?_eq_some_iff.mp hr).1
    have h1 := hp.prom.nonneg i hi
    have h2 := hp.prom.le (fun k _ => (B.claimOf k).1) i hi
    have e : p.getD i 0 = x := vOf_get hx
    have ec : claimOf rs i = r.claim := by unfold claimOf; rw [hr]
    rw [e] at h1 h2
    rw [ec] at h2
    exact ⟨h1, h2⟩
/-- What is promised is enough. -/
theorem promised_enough (B : ShB rs ss po) {p : List Int} (hp : PromRes rs ss po p) (hex : ∃ v, IsMax (instOf rs ss po) (vOf p) v) : enB rs ss po p = true := by
  rw [enB_iff B (promised_vol B hp) hex]
  obtain ⟨v, hv⟩ := hex
  have := hp.prom.enough hv
  rw [this] at hv
  exact hv
/-- One more for a right, with what is promised to the elder ones. -/
def oneMore (p : List Int) (k : Nat) : List Int := (p.take (k + 1) ++ List.replicate (p.length - (k + 1)) 0).set k (vOf p k + 1)
theorem oneMore_len {p : List Int} {k : Nat} (hk : k < p.length) : (oneMore p k).length = p.length := by
  unfold oneMore
  rw [List.length_set, List.length_append, List.length_take, List.length_replicate]
  omega
theorem oneMore_get {p : List Int} {k : Nat} (hk : k < p.length) (j : Nat) (hj : j < p.length) : vOf (oneMore p k) j = if j = k then vOf p k + 1 else if j < k then vOf p j else 0 := by
  have hl : (p.take (k + 1) ++ List.replicate (p.length - (k + 1)) (0 : Int)).length = p.length := by rw [List.length_append, List.length_take, List.length_replicate]; omega
  unfold vOf oneMore
  rw [List.getD_eq_getElem?_getD, List.getElem?_set]
  by_cases e : k = j
  · subst e
    rw [if_pos rfl, if_pos (by omega), if_pos rfl]; rfl
  · rw [if_neg e, if_neg fun c => e c.symm]
    by_cases h1 : j < k
    · rw [if_pos h1, List.getElem?_append_left (by rw [List.length_take]; omega), List.getElem?_take_of_lt (by omega), List.getD_eq_getElem?_getD]
    · rw [if_neg h1, List.getElem?_append_right (by rw [List.length_take]; omega), List.length_take, List.getElem?_replicate, if_pos (by omega)]; rfl
theorem oneMore_vol (B : ShB rs ss po) {p : List Int} (hp : PromRes rs ss po p) {k : Nat} (hk : k < rs.length) (hlt : vOf p k < claimOf rs k) : VolOK rs (oneMore p k) where
  len := by rw [oneMore_len (by rw [hp.len]; exact hk)]; exact hp.len
  v i x r hx hr := by
    have hi : i < rs.length := (List.getElem?_eq_some_iff.mp hr).1
    have e := vOf_get hx
    rw [oneMore_get (by rw [hp.len]; exact hk) i (by rw [hp.len]; exact hi)] at e
    have ec : claimOf rs i = r.claim := by unfold claimOf; rw [hr]
    have hb := B.claimOf i
    have h1 := hp.prom.nonneg i hi
    have h2 := hp.prom.le (fun k _ => (B.claimOf k).1) i hi
    have h1 : 0 ≤ vOf p i := h1
    have h2 : vOf p i ≤ claimOf rs i := h2
    rw [← ec]
    split at e
    · rename_i ei; subst ei; omega
    · split at e <;> omega
/-- Nobody can be promised more without taking from an elder one. -/
theorem no_more (B : ShB rs ss po) {p : List Int} (hp : PromRes rs ss po p) {k : Nat} (hk : k < rs.length) (hlt : vOf p k < claimOf rs k) (hex : ∃ v, IsMax (instOf rs ss po) (vOf (oneMore p k)) v) : enB rs ss po (oneMore p k) = false := by
  cases he : enB rs ss po (oneMore p k) with
  | false => rfl
  | true =>
    rw [enB_iff B (oneMore_vol B hp hk hlt) hex] at he
    have hkp : k < p.length := by rw [hp.len]; exact hk
    refine absurd rfl (hp.prom.no_more (l := vOf (oneMore p k)) (fun k _ => (B.claimOf k).1) hk hlt (fun j hj => ?_) ?_ (fun j hj hjm => ?_) he)
    · rw [oneMore_get hkp j (by omega), if_neg (by omega), if_pos hj]; rfl
    · rw [oneMore_get hkp k hkp, if_pos rfl]; rfl
    · have hjm : j < rs.length := hjm
      rw [oneMore_get hkp j (by rw [hp.len]; exact hjm), if_neg (by omega), if_neg (by omega)]
/-- The rights up to one of them are promised as much. -/
theorem shareOK_take (h : ShareOK rs ss po) (k : Nat) : ShareOK (rs.take k) ss po where
  nr := by rw [List.length_take]; have := h.nr; omega
  ns := h.ns
  np := h.np
  s := h.s
  p := h.p
  r i r hr := by
    have key : ∀ (j : Nat) (y : Rt), (rs.take k)[j]? = some y → rs[j]? = some y := fun j y hy => by
      rw [List.getElem?_take] at hy
      split at hy
      · exact hy
      · cases hy
    obtain ⟨h1, h2⟩ := h.r i r (key i r hr)
    exact ⟨h1, fun j q hj hq => h2 j q hj (key j q hq)⟩
theorem promised_take {k : Nat} (hk : k ≤ rs.length) {p q : List Int} (hp : PromRes rs ss po p) (hq : PromRes (rs.take k) ss po q) : q = p.take k := by
  have hql : q.length = k := by rw [hq.len, List.length_take]; omega
  have hget : ∀ j, j < k → (rs.take k)[j]? = rs[j]? := fun j hj => List.getElem?_take_of_lt hj
  have hcl : ∀ j, j < k → claimOf (rs.take k) j = claimOf rs j := fun j hj => by unfold claimOf; rw [hget j hj]
  have hm : (instOf (rs.take k) ss po).m = k := by show (rs.take k).length = k; rw [List.length_take]; omega
  have hI : instOf (rs.take k) ss po = { (Snow.fewer (instOf rs ss po) k) with win := winOf (rs.take k) ss } := by
    show (⟨ss.length, (rs.take k).length, volOf ss, _, winOf (rs.take k) ss⟩ : Snow.Inst) = ⟨ss.length, k, volOf ss, _, winOf (rs.take k) ss⟩
    have : (rs.take k).length = k := by rw [List.length_take]; omega
    rw [this]
    rfl
  have hw : ∀ j i, j < (Snow.fewer (instOf rs ss po) k).m → winOf (rs.take k) ss j i = (Snow.fewer (instOf rs ss po) k).win j i := fun j i hj => by
    have hj : j < k := hj
    show winOf (rs.take k) ss j i = winOf rs ss j i
    unfold winOf
    rw [hget j hj]
  have hP : Promised (Snow.fewer (instOf rs ss po) k) (claimOf rs) (fun j => q.getD j 0) := by
    have h := hq.prom
    refine ⟨fun n hn => ?_, ?_⟩
    · have hn : n ≤ k := hn
      have h1 := h.most n (by rw [hm]; exact hn)
      rw [hI] at h1
      refine (Snow.IsMax.winCongr hw h1).congr fun j hj => ?_
      have hj : j < k := hj
      unfold Snow.upTo
      rw [hcl j hj]
    · obtain ⟨f, g, e⟩ := h.flow
      refine ⟨f, ?_, fun j hj => e j (by rw [hm]; exact hj)⟩
      rw [hI] at g
      exact ⟨g.a0, g.a1, g.c0, g.c1, g.cf, g.cn, g.d0, fun a b ha hb hn => g.dw a b ha hb (by show winOf (rs.take k) ss a b = false; rw [hw a b ha]; exact hn), g.keep⟩
  have := hp.prom.fewer hk hP
  apply List.ext_getElem?
  intro j
  by_cases hj : j < k
  · have h1 := this j hj
    rw [List.getElem?_take_of_lt hj, List.getElem?_eq_getElem (by omega), List.getElem?_eq_getElem (by rw [hp.len]; omega)]
    rw [List.getD_eq_getElem?_getD, List.getD_eq_getElem?_getD, List.getElem?_eq_getElem (by omega), List.getElem?_eq_getElem (by rw [hp.len]; omega)] at h1
    exact congrArg some h1
  · rw [List.getElem?_eq_none (by omega), List.getElem?_eq_none (by rw [List.length_take]; omega)]
end
end Go.AM
