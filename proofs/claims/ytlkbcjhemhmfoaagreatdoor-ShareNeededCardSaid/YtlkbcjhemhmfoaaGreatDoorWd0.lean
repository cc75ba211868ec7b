/- Which shares are valid: the plain law. -/
import Derived.Test.YtlkbcjhemhmfoaaGreatDoorWp0
set_option linter.unusedSimpArgs false
set_option linter.unusedVariables false
namespace Go.AM
open Go Go.Proofs

def suB (x : Su) : Bool := isNum x.valley && isDay x.day && isVol x.vol
def poB (p : Po) : Bool := isNum p.valley && isVol p.room
structure ShareOK (rs : List Rt) (ss : List Su) (po : List Po) : Prop where
  nr : rs.length ≤ 32
  ns : ss.length ≤ 64
  np : po.length ≤ 64
  r : ∀ (i : Nat) (r : Rt), rs[i]? = some r → rightB r = true ∧ ∀ (j : Nat) (q : Rt), j < i → rs[j]? = some q → olderB q r = true ∧ q.no ≠ r.no
  s : ∀ (i : Nat) (x : Su), ss[i]? = some x → suB x = true ∧ ∀ q : Su, 0 < i → ss[i - 1]? = some q → q.valley < x.valley ∨ (q.valley = x.valley ∧ q.day < x.day)
  p : ∀ (i : Nat) (x : Po), po[i]? = some x → poB x = true ∧ ∀ q : Po, 0 < i → po[i - 1]? = some q → q.valley < x.valley
open Classical in
noncomputable def shErr (rs : List Rt) (ss : List Su) (po : List Po) : Int := if ShareOK rs ss po then 0 else 82
theorem shErr_ok {rs : List Rt} {ss : List Su} {po : List Po} (h : ShareOK rs ss po) : shErr rs ss po = 0 := if_pos h
theorem shErr_bad {rs : List Rt} {ss : List Su} {po : List Po} (h : ¬ ShareOK rs ss po) : shErr rs ss po = 82 := if_neg h
theorem shErr_zero {rs : List Rt} {ss : List Su} {po : List Po} (h : shErr rs ss po = 0) : ShareOK rs ss po := Classical.byContradiction fun c => by rw [shErr_bad c] at h; cases h
theorem shErr_cases (rs : List Rt) (ss : List Su) (po : List Po) : shErr rs ss po = 0 ∨ shErr rs ss po = 82 := by
  by_cases h : ShareOK rs ss po
  · exact .inl (shErr_ok h)
  · exact .inr (shErr_bad h)

theorem isNum_b {n : Int} (h : isNum n = true) : 0 ≤ n ∧ n ≤ 4095 := by unfold isNum at h; simp at h; exact h
theorem isDay_b {n : Int} (h : isDay n = true) : 0 ≤ n ∧ n ≤ 1048576 := by unfold isDay at h; simp at h; exact h
theorem isVol_b {n : Int} (h : isVol n = true) : 0 ≤ n ∧ n ≤ 1099511627776 := by unfold isVol at h; simp at h; exact h
theorem rightB_b {r : Rt} (h : rightB r = true) : (0 ≤ r.no ∧ r.no ≤ 4095) ∧ (0 ≤ r.age ∧ r.age ≤ 1048576) ∧ (0 ≤ r.claim ∧ r.claim ≤ 1099511627776) ∧ r.fr ≤ r.to := by
  unfold rightB at h
  simp only [Bool.and_eq_true, decide_eq_true_eq] at h
  obtain ⟨⟨⟨⟨⟨⟨⟨h1, h2⟩, h3⟩, h4⟩, h5⟩, h6⟩, h7⟩, h8⟩ := h
  exact ⟨isNum_b h1, isDay_b h4, isVol_b h7, h8⟩
theorem elder_older {a b : Rt} (ha : rightB a = true) (hb : rightB b = true) : elderI a b < 0 ↔ olderB a b = true := by
  obtain ⟨a1, a2, _⟩ := rightB_b ha
  obtain ⟨b1, b2, _⟩ := rightB_b hb
  unfold elderI olderB
  have h1 : w64 (a.age - b.age) = a.age - b.age := w64_id (by omega) (by omega)
  have h2 : w64 (a.no - b.no) = a.no - b.no := w64_id (by omega) (by omega)
  rw [h1, h2]
  by_cases e : a.age = b.age
  · rw [if_neg (by simp [e])]
    simp [e]; omega
  · rw [if_pos e]
    simp [e]; omega
theorem older_trans {a b c : Rt} (h1 : olderB a b = true) (h2 : olderB b c = true) : olderB a c = true := by
  unfold olderB at *
  simp only [Bool.or_eq_true, Bool.and_eq_true, decide_eq_true_eq, beq_iff_eq] at *
  omega
/-- What the program asks of a right. -/
def PR (rs : List Rt) (i : Nat) : Prop := ∀ r : Rt, rs[i]? = some r → rightB r = true ∧ (∀ q : Rt, 0 < i → rs[i - 1]? = some q → elderI q r < 0) ∧ ∀ (j : Nat) (q : Rt), j < i → rs[j]? = some q → q.no ≠ r.no
theorem ShareOK.pr {rs : List Rt} {ss : List Su} {po : List Po} (h : ShareOK rs ss po) (i : Nat) : PR rs i := fun r hr => by
  obtain ⟨h1, h2⟩ := h.r i r hr
  exact ⟨h1, fun q h0 hq => (elder_older (h.r _ q hq).1 h1).2 (h2 (i - 1) q (by omega) hq).1, fun j q hj hq => (h2 j q hj hq).2⟩
theorem pr_all {rs : List Rt} (h : ∀ i, i < rs.length → PR rs i) : ∀ (i : Nat) (r : Rt), rs[i]? = some r → rightB r = true ∧ ∀ (j : Nat) (q : Rt), j < i → rs[j]? = some q → olderB q r = true ∧ q.no ≠ r.no := by
  have hl : ∀ (i : Nat) (r : Rt), rs[i]? = some r → i < rs.length := fun i r hr => (List.getElem?_eq_some_iff.mp hr).1
  have hold : ∀ (d i j : Nat) (r q : Rt), i = j + d + 1 → rs[i]? = some r → rs[j]? = some q → olderB q r = true := by
    intro d
    induction d with
    | zero =>
      intro i j r q e hr hq
      obtain ⟨h1, h2, _⟩ := h i (hl i r hr) r hr
      have hq' : rs[i - 1]? = some q := by rw [show i - 1 = j by omega]; exact hq
      exact (elder_older (h j (hl j q hq) q hq).1 h1).1 (h2 q (by omega) hq')
    | succ d ih =>
      intro i j r q e hr hq
      have hi := hl i r hr
      obtain ⟨x, hx⟩ : ∃ x, rs[i - 1]? = some x := ⟨rs[i - 1]'(by omega), List.getElem?_eq_getElem _⟩
      obtain ⟨h1, h2, _⟩ := h i hi r hr
      have a := ih (i - 1) j x q (by omega) hx hq
      have b := (elder_older (h (i - 1) (by omega) x hx).1 h1).1 (h2 x (by omega) hx)
      exact older_trans a b
  intro i r hr
  obtain ⟨h1, _, h3⟩ := h i (hl i r hr) r hr
  exact ⟨h1, fun j q hj hq => ⟨hold (i - j - 1) i j r q (by omega) hr hq, h3 j q hj hq⟩⟩
/-- A valid share's numbers. -/
theorem ShareOK.b {rs : List Rt} {ss : List Su} {po : List Po} (h : ShareOK rs ss po) : ShB rs ss po where
  nr := h.nr
  ns := h.ns
  np := h.np
  vol x hx := by
    obtain ⟨i, hi⟩ := List.getElem?_of_mem hx
    have := (h.s i x hi).1
    unfold suB at this
    simp only [Bool.and_eq_true] at this
    have := isVol_b this.2
    omega
  room x hx := by
    obtain ⟨i, hi⟩ := List.getElem?_of_mem hx
    have := (h.p i x hi).1
    unfold poB at this
    simp only [Bool.and_eq_true] at this
    exact isVol_b this.2
  claim x hx := by
    obtain ⟨i, hi⟩ := List.getElem?_of_mem hx
    exact (rightB_b (h.r i x hi).1).2.2.1
end Go.AM
