/- The plain law of the statements ShareLess, ShareMore and ShareElder. -/
import Derived.Test.YtlkbcjhemhmfoaaGreatDoorWs5
set_option linter.unusedSimpArgs false
set_option linter.unusedVariables false
namespace Go.AM
open Go Go.Proofs
open Snow (IsMax Promised)

/-! ### Sums -/
theorem sumW_S {xs : List Int} (hl : xs.length ≤ 1000) (hb : ∀ k, k < xs.length → 0 ≤ vOf xs k ∧ vOf xs k ≤ 1099511627776) : ∀ n, n ≤ xs.length → sumW (xs.take n) = Snow.S n (vOf xs) := by
  intro n
  induction n with
  | zero => intro _; rfl
  | succ n ih =>
    intro hn
    have hx : xs[n]? = some (vOf xs n) := by unfold vOf; rw [List.getD_eq_getElem?_getD, List.getElem?_eq_getElem (by omega)]; rfl
    rw [sumW_succ hx, ih (by omega)]
    have h0 : ∀ k, k ≤ n → 0 ≤ vOf xs k ∧ vOf xs k ≤ 1099511627776 := fun k hk => hb k (by omega)
    have h1 : 0 ≤ Snow.S n (vOf xs) := Snow.S_nonneg fun i hi => (h0 i (by omega)).1
    have h2 := S_le_mul (n := n) (f := vOf xs) (b := 1099511627776) fun i hi => (h0 i (by omega)).2
    have h3 := h0 n (Nat.le_refl _)
    rw [w64_id (by omega) (by omega)]
    rfl
theorem sumW_all {xs : List Int} (hl : xs.length ≤ 1000) (hb : ∀ k, k < xs.length → 0 ≤ vOf xs k ∧ vOf xs k ≤ 1099511627776) : sumW xs = Snow.S xs.length (vOf xs) := by
  have := sumW_S hl hb xs.length (Nat.le_refl _)
  rwa [List.take_length] at this
section
variable {rs : List Rt} {ss : List Su} {po : List Po} {vs : List Int}
theorem enB_iff (B : ShB rs ss po) (V : VolOK rs vs) (hex : ∃ v, IsMax (instOf rs ss po) (vOf vs) v) : enB rs ss po vs = true ↔ IsMax (instOf rs ss po) (vOf vs) (Snow.S rs.length (vOf vs)) := by
  obtain ⟨v, hv⟩ := hex
  have hb := V.bound B
  have hl := V.len
  have nr := B.nr
  have hs : sumW vs = Snow.S rs.length (vOf vs) := by rw [sumW_all (by omega) (by rw [hl]; exact hb), hl]
  unfold enB
  rw [maxOf_eq hv, hs]
  constructor
  · intro h
    have h : v = Snow.S rs.length (vOf vs) := by simpa using h
    rw [← h]; exact hv
  · intro h
    simpa using hv.unique h
/-- Less can be taken as well. -/
theorem enough_less {ws : List Int} (B : ShB rs ss po) (V : VolOK rs vs) (V' : VolOK rs ws) (hex : ∃ v, IsMax (instOf rs ss po) (vOf vs) v) (hex' : ∃ v, IsMax (instOf rs ss po) (vOf ws) v) (hle : ∀ k, k < rs.length → vOf ws k ≤ vOf vs k) (h : enB rs ss po vs = true) : enB rs ss po ws = true := by
  rw [enB_iff B V hex] at h
  rw [enB_iff B V' hex']
  obtain ⟨v', hv'⟩ := hex'
  have := Snow.IsMax.enough_less h hle hv'
  rw [this] at hv'
  exact hv'
/-! ### A lesser claim -/
def setClaim (r : Rt) (c : Int) : Rt := { r with claim := c }
theorem instOf_set {at_ : Nat} {r : Rt} (hr : rs[at_]? = some r) (c : Int) : instOf (rs.set at_ (setClaim r c)) ss po = instOf rs ss po := by
  have hl : at_ < rs.length := (List.getElem?_eq_some_iff.mp hr).1
  unfold instOf
  rw [List.length_set]
  congr 1
  funext k i
  unfold winOf
  rw [List.getElem?_set]
  by_cases e : at_ = k
  · subst e
    rw [if_pos rfl, if_pos hl, hr]
    cases ss[i]? <;> rfl
  · rw [if_neg e]
theorem claimOf_set {at_ : Nat} {r : Rt} (hr : rs[at_]? = some r) (c : Int) (k : Nat) : claimOf (rs.set at_ (setClaim r c)) k = if k = at_ then c else claimOf rs k := by
  have hl : at_ < rs.length := (List.getElem?_eq_some_iff.mp hr).1
  unfold claimOf
  rw [List.getElem?_set]
  by_cases e : at_ = k
  · subst e
    rw [if_pos rfl, if_pos hl, if_pos rfl]; rfl
  · rw [if_neg e, if_neg fun c => e c.symm]
theorem rightB_setClaim {r : Rt} {c : Int} (h : rightB r = true) (h0 : 0 ≤ c) (h1 : c ≤ r.claim) : rightB (setClaim r c) = true := by
  have hb := (rightB_b h).2.2.1
  unfold rightB at *
  simp only [Bool.and_eq_true, decide_eq_true_eq] at *
  refine ⟨⟨⟨⟨⟨⟨⟨h.1.1.1.1.1.1.1, h.1.1.1.1.1.1.2⟩, h.1.1.1.1.1.2⟩, h.1.1.1.1.2⟩, h.1.1.1.2⟩, h.1.1.2⟩, ?_⟩, h.2⟩
  unfold isVol setClaim
  simp
  omega
theorem olderB_setClaim (a b : Rt) (c : Int) : olderB (setClaim a c) b = olderB a b ∧ olderB a (setClaim b c) = olderB a b := ⟨rfl, rfl⟩
theorem shareOK_set (h : ShareOK rs ss po) {at_ : Nat} {r : Rt} (hr : rs[at_]? = some r) {c : Int} (h0 : 0 ≤ c) (h1 : c ≤ r.claim) : ShareOK (rs.set at_ (setClaim r c)) ss po where
  nr := by rw [List.length_set]; exact h.nr
  ns := h.ns
  np := h.np
  s := h.s
  p := h.p
  r i x hx := by
    have key : ∀ (j : Nat) (y : Rt), (rs.set at_ (setClaim r c))[j]? = some y → ∃ y0, rs[j]? = some y0 ∧ y.no = y0.no ∧ (∀ q, olderB q y = olderB q y0) ∧ (∀ q, olderB y q = olderB y0 q) ∧ (rightB y0 = true → rightB y = true) := fun j y hy => by
      rcases setGet hy with ⟨e1, e2⟩ | ⟨e1, e2⟩
      · subst e1; subst e2
        exact ⟨r, hr, rfl, fun _ => rfl, fun _ => rfl, fun h => rightB_setClaim h h0 h1⟩
      · exact ⟨y, e2, rfl, fun _ => rfl, fun _ => rfl, fun h => h⟩
    obtain ⟨x0, hx0, e1, e2, e3, e4⟩ := key i x hx
    obtain ⟨g1, g2⟩ := h.r i x0 hx0
    refine ⟨e4 g1, fun j q hj hq => ?_⟩
    obtain ⟨q0, hq0, d1, d2, d3, d4⟩ := key j q hq
    obtain ⟨k1, k2⟩ := g2 j q0 hj hq0
    rw [e2, d3, d1, e1]
    exact ⟨k1, k2⟩
/-- A lesser claim takes from nobody. -/
theorem promised_less (B : ShB rs ss po) {at_ : Nat} {r : Rt} (hr : rs[at_]? = some r) {c : Int} (h0 : 0 ≤ c) (h1 : c ≤ r.claim) {p q : List Int} (hp : PromRes rs ss po p) (hq : PromRes (rs.set at_ (setClaim r c)) ss po q) :
    (∀ k, k < rs.length → k ≠ at_ → p.getD k 0 ≤ q.getD k 0) ∧ q.getD at_ 0 ≤ c := by
  have hl : at_ < rs.length := (List.getElem?_eq_some_iff.mp hr).1
  have hq' := hq.prom
  rw [instOf_set hr] at hq'
  have hcl := claimOf_set hr c
  have hcr : claimOf rs at_ = r.claim := by unfold claimOf; rw [hr]
  have hc0 : ∀ k, k < (instOf rs ss po).m → 0 ≤ claimOf (rs.set at_ (setClaim r c)) k := fun k _ => by
    rw [hcl]
    split
    · exact h0
    · exact (B.claimOf k).1
  refine ⟨fun k hk hne => ?_, ?_⟩
  · refine Snow.Promised.less hc0 (fun k _ => ?_) (fun k _ hne => by rw [hcl, if_neg hne]) (fun i _ => (B.roomI i).1) hp.prom hq' k hk hne
    rw [hcl]
    split
    · rename_i e; subst e; rw [hcr]; exact h1
    · exact Int.le_refl _
  · have := hq'.le hc0 at_ hl
    rw [hcl, if_pos rfl] at this
    exact this
end
end Go.AM
