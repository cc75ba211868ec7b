/- The plain law of the statement ShareMore. -/
import Derived.Test.YtlkbcjhemhmfoaaGreatDoorWl0
set_option linter.unusedSimpArgs false
set_option linter.unusedVariables false
namespace Go.AM
open Go Go.Proofs
open Snow (IsMax Promised)

def setVol (x : Su) (v : Int) : Su := { x with vol := v }
def setRoom (x : Po) (v : Int) : Po := { x with room := v }
section
variable {rs : List Rt} {ss : List Su} {po : List Po} {vs : List Int}
/-- A share with more. -/
structure Richer (rs : List Rt) (ss ss' : List Su) (po po' : List Po) : Prop where
  alike : Snow.Alike (instOf rs ss po) (instOf rs ss' po')
  vol : ∀ i, i < ss.length → volOf ss i ≤ volOf ss' i
  room : ∀ i, i < ss.length → (instOf rs ss po).room i ≤ (instOf rs ss' po').room i
theorem su_key {at_ : Nat} {x : Su} (hx : ss[at_]? = some x) (v : Int) (j : Nat) : (∀ y, (ss.set at_ (setVol x v))[j]? = some y → ∃ y0, ss[j]? = some y0 ∧ y.valley = y0.valley ∧ y.day = y0.day ∧ (y.vol = y0.vol ∨ (j = at_ ∧ y0 = x ∧ y.vol = v))) ∧ (ss[j]? = none → (ss.set at_ (setVol x v))[j]? = none) := by
  refine ⟨fun y hy => ?_, fun h => ?_⟩
  · rcases setGet hy with ⟨e1, e2⟩ | ⟨e1, e2⟩
    · subst e1; subst e2
      exact ⟨x, hx, rfl, rfl, .inr ⟨rfl, rfl, rfl⟩⟩
    · exact ⟨y, e2, rfl, rfl, .inl rfl⟩
  · rw [List.getElem?_eq_none_iff] at h ⊢
    rw [List.length_set]; exact h
theorem po_key {at_ : Nat} {x : Po} (hx : po[at_]? = some x) (v : Int) (j : Nat) : (∀ y, (po.set at_ (setRoom x v))[j]? = some y → ∃ y0, po[j]? = some y0 ∧ y.valley = y0.valley ∧ (y.room = y0.room ∨ (j = at_ ∧ y0 = x ∧ y.room = v))) := by
  intro y hy
  rcases setGet hy with ⟨e1, e2⟩ | ⟨e1, e2⟩
  · subst e1; subst e2
    exact ⟨x, hx, rfl, .inr ⟨rfl, rfl, rfl⟩⟩
  · exact ⟨y, e2, rfl, .inl rfl⟩
theorem isVol_of {v : Int} (h0 : 0 ≤ v) (h1 : v ≤ 1099511627776) : isVol v = true := by unfold isVol; simp; omega
theorem shareOK_vol (h : ShareOK rs ss po) {at_ : Nat} {x : Su} (hx : ss[at_]? = some x) {v : Int} (h0 : 0 ≤ v) (h1 : v ≤ 1099511627776) : ShareOK rs (ss.set at_ (setVol x v)) po where
  nr := h.nr
  ns := by rw [List.length_set]; exact h.ns
  np := h.np
  r := h.r
  p := h.p
  s i y hy := by
    obtain ⟨y0, hy0, e1, e2, e3⟩ := (su_key hx v i).1 y hy
    obtain ⟨g1, g2⟩ := h.s i y0 hy0
    refine ⟨?_, fun q hi hq => ?_⟩
    · unfold suB at g1 ⊢
      simp only [Bool.and_eq_true] at g1 ⊢
      refine ⟨⟨by rw [e1]; exact g1.1.1, by rw [e2]; exact g1.1.2⟩, ?_⟩
      rcases e3 with e3 | ⟨_, _, e3⟩
      · rw [e3]; exact g1.2
      · rw [e3]; exact isVol_of h0 h1
    · obtain ⟨q0, hq0, d1, d2, _⟩ := (su_key hx v (i - 1)).1 q hq
      rw [e1, e2, d1, d2]
      exact g2 q0 hi hq0
theorem shareOK_room (h : ShareOK rs ss po) {at_ : Nat} {x : Po} (hx : po[at_]? = some x) {v : Int} (h0 : 0 ≤ v) (h1 : v ≤ 1099511627776) : ShareOK rs ss (po.set at_ (setRoom x v)) where
  nr := h.nr
  ns := h.ns
  np := by rw [List.length_set]; exact h.np
  r := h.r
  s := h.s
  p i y hy := by
    obtain ⟨y0, hy0, e1, e3⟩ := po_key hx v i y hy
    obtain ⟨g1, g2⟩ := h.p i y0 hy0
    refine ⟨?_, fun q hi hq => ?_⟩
    · unfold poB at g1 ⊢
      simp only [Bool.and_eq_true] at g1 ⊢
      refine ⟨by rw [e1]; exact g1.1, ?_⟩
      rcases e3 with e3 | ⟨_, _, e3⟩
      · rw [e3]; exact g1.2
      · rw [e3]; exact isVol_of h0 h1
    · obtain ⟨q0, hq0, d1, _⟩ := po_key hx v (i - 1) q hq
      rw [e1, d1]
      exact g2 q0 hi hq0
theorem vol_set {at_ : Nat} {x : Su} (hx : ss[at_]? = some x) (v : Int) (i : Nat) : volOf (ss.set at_ (setVol x v)) i = if i = at_ then v else volOf ss i := by
  have hl : at_ < ss.length := (List.getElem?_eq_some_iff.mp hx).1
  unfold volOf
  rw [List.getElem?_set]
  by_cases e : at_ = i
  · subst e; rw [if_pos rfl, if_pos hl, if_pos rfl]; rfl
  · rw [if_neg e, if_neg fun c => e c.symm]
theorem fol_set {at_ : Nat} {x : Su} (hx : ss[at_]? = some x) (v : Int) (i : Nat) : fol (ss.set at_ (setVol x v)) i = fol ss i ∧ valOf (ss.set at_ (setVol x v)) i = valOf ss i ∧ ∀ k, winOf rs (ss.set at_ (setVol x v)) k i = winOf rs ss k i := by
  have key : ∀ j : Nat, ((ss.set at_ (setVol x v))[j]?).map (fun y => (y.valley, y.day)) = (ss[j]?).map fun y => (y.valley, y.day) := fun j => by
    cases h : (ss.set at_ (setVol x v))[j]? with
    | none =>
      have : ss[j]? = none := by rw [List.getElem?_eq_none_iff] at h ⊢; simpa using h
      rw [this]
    | some y =>
      obtain ⟨y0, hy0, e1, e2, _⟩ := (su_key hx v j).1 y h
      rw [hy0]; simp [e1, e2]
  have k1 := key i
  have k2 := key (i - 1)
  refine ⟨?_, ?_, fun k => ?_⟩
  · unfold fol
    congr 1
    revert k1 k2
    cases (ss.set at_ (setVol x v))[i]? <;> cases ss[i]? <;> cases (ss.set at_ (setVol x v))[i - 1]? <;> cases ss[i - 1]? <;> simp
    intro a b c d; rw [a, c]
  · unfold valOf
    revert k1
    cases (ss.set at_ (setVol x v))[i]? <;> cases ss[i]? <;> simp
    intro a b; exact a
  · unfold winOf
    revert k1
    cases rs[k]? <;> cases (ss.set at_ (setVol x v))[i]? <;> cases ss[i]? <;> simp
    intro a b; unfold win; rw [a, b]
theorem roomOf_set {at_ : Nat} {x : Po} : ∀ {po : List Po} {at_ : Nat}, po[at_]? = some x → ∀ {v : Int}, x.room ≤ v → ∀ w, roomOf po w ≤ roomOf (po.set at_ (setRoom x v)) w
  | [], _, h, _, _, _ => by simp at h
  | p :: po, 0, h, v, hv, w => by
    simp at h; subst h
    rw [List.set_cons_zero, roomOf, roomOf]
    show (if p.valley = w then p.room else _) ≤ (if p.valley = w then v else _)
    split
    · exact hv
    · exact Int.le_refl _
  | p :: po, n + 1, h, v, hv, w => by
    have h : po[n]? = some x := by simpa using h
    rw [List.set_cons_succ, roomOf, roomOf]
    split
    · exact Int.le_refl _
    · exact roomOf_set (at_ := at_) h hv w
theorem richer_vol {at_ : Nat} {x : Su} (hx : ss[at_]? = some x) {v : Int} (hv : x.vol ≤ v) : Richer rs ss (ss.set at_ (setVol x v)) po po ∧ ∀ i, i < ss.length → (instOf rs (ss.set at_ (setVol x v)) po).room i = (instOf rs ss po).room i := by
  have hroom : ∀ i, (instOf rs (ss.set at_ (setVol x v)) po).room i = (instOf rs ss po).room i := fun i => by
    obtain ⟨h1, h2, _⟩ := fol_set (rs := rs) hx v i
    show (if fol _ i then roomOf po (valOf _ i) else 0) = (if fol ss i then roomOf po (valOf ss i) else 0)
    rw [h1, h2]
  refine ⟨⟨⟨by show _ = _; simp [instOf], rfl, ?_⟩, fun i _ => ?_, fun i _ => by rw [hroom]; exact Int.le_refl _⟩, fun i _ => hroom i⟩
  · funext k i
    exact (fol_set (rs := rs) hx v i).2.2 k
  · rw [vol_set hx]
    split
    · rename_i e; subst e; unfold volOf; rw [hx]; exact hv
    · exact Int.le_refl _
theorem richer_room {at_ : Nat} {x : Po} (hx : po[at_]? = some x) {v : Int} (hv : x.room ≤ v) : Richer rs ss ss po (po.set at_ (setRoom x v)) := by
  refine ⟨⟨rfl, rfl, rfl⟩, fun i _ => Int.le_refl _, fun i _ => ?_⟩
  show (if fol ss i then roomOf po (valOf ss i) else 0) ≤ (if fol ss i then roomOf (po.set at_ (setRoom x v)) (valOf ss i) else 0)
  split
  · exact roomOf_set (at_ := at_) hx hv _
  · exact Int.le_refl _
/-- With more water no right is promised less. -/
theorem promised_more {ss' : List Su} {po' : List Po} (B : ShB rs ss po) (R : Richer rs ss ss' po po') (hroom : ∀ i, i < ss.length → (instOf rs ss' po').room i = (instOf rs ss po).room i) {p q : List Int} (hp : PromRes rs ss po p) (hq : PromRes rs ss' po' q) : ∀ k, k < rs.length → p.getD k 0 ≤ q.getD k 0 :=
  Snow.Promised.more (fun k _ => (B.claimOf k).1) R.alike R.vol hroom (fun i _ => (B.roomI i).1) hp.prom hq.prom
theorem promised_upto {ss' : List Su} {po' : List Po} (R : Richer rs ss ss' po po') {p q : List Int} (hp : PromRes rs ss po p) (hq : PromRes rs ss' po' q) : ∀ n, n ≤ rs.length → Snow.S n (fun j => p.getD j 0) ≤ Snow.S n (fun j => q.getD j 0) := fun n hn =>
  Snow.IsMax.mono R.alike R.vol R.room (fun _ _ => Int.le_refl _) (hp.prom.most n hn) (hq.prom.most n hn)
theorem promised_first {ss' : List Su} {po' : List Po} (R : Richer rs ss ss' po po') {p q : List Int} (hp : PromRes rs ss po p) (hq : PromRes rs ss' po' q) (h : 0 < rs.length) : p.getD 0 0 ≤ q.getD 0 0 := by
  have := promised_upto R hp hq 1 h
  simpa [Snow.S] using this
theorem promised_bound (B : ShB rs ss po) {p : List Int} (hp : PromRes rs ss po p) : ∀ k, k < p.length → 0 ≤ vOf p k ∧ vOf p k ≤ 1099511627776 := fun k hk => by
  have hl := hp.len
  have h1 := hp.prom.nonneg k (by show k < rs.length; omega)
  have h2 := hp.prom.le (fun k _ => (B.claimOf k).1) k (by show k < rs.length; omega)
  have h3 := B.claimOf k
  exact ⟨h1, Int.le_trans h2 h3.2⟩
theorem promised_total {ss' : List Su} {po' : List Po} (B : ShB rs ss po) (B' : ShB rs ss' po') (R : Richer rs ss ss' po po') {p q : List Int} (hp : PromRes rs ss po p) (hq : PromRes rs ss' po' q) : sumW p ≤ sumW q := by
  have nr := B.nr
  have lp := hp.len
  have lq := hq.len
  rw [sumW_all (by omega) (promised_bound B hp), sumW_all (by omega) (promised_bound B' hq), lp, lq]
  exact promised_upto R hp hq rs.length (Nat.le_refl _)
/-- What was enough is enough with more. -/
theorem enough_more {ss' : List Su} {po' : List Po} (B : ShB rs ss po) (B' : ShB rs ss' po') (R : Richer rs ss ss' po po') (V : VolOK rs vs) (hex : ∃ v, IsMax (instOf rs ss po) (vOf vs) v) (hex' : ∃ v, IsMax (instOf rs ss' po') (vOf vs) v) (h : enB rs ss po vs = true) : enB rs ss' po' vs = true := by
  rw [enB_iff B V hex] at h
  rw [enB_iff B' V hex']
  obtain ⟨v', hv'⟩ := hex'
  have h1 := Snow.IsMax.mono R.alike R.vol R.room (fun _ _ => Int.le_refl _) h hv'
  have h2 := hv'.le_sum
  have : v' = Snow.S rs.length (vOf vs) := by
    have h2 : v' ≤ Snow.S rs.length (vOf vs) := h2
    omega
  rw [this] at hv'
  exact hv'
end
end Go.AM
