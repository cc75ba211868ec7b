/- The plain law of the statement ShareNeeded: with more water for it a right is promised no less, and halving finds the least amount. -/
import Derived.Test.YtlkbcjhemhmfoaaGreatDoorWy2
set_option linter.unusedSimpArgs false
set_option linter.unusedVariables false
namespace Go.AM
open Go Go.Proofs
open Snow (IsMax Promised)

/-- What halving finds is fine. -/
theorem leastI_fine {P : Int → Bool} : ∀ (n : Nat) (lo hi : Int), (hi - lo).toNat ≤ n → lo ≤ hi → P hi = true → P (leastI P lo hi) = true
  | 0, lo, hi, hn, hl, hp => by rw [leastI_z (by omega)]; rw [show lo = hi by omega]; exact hp
  | n + 1, lo, hi, hn, hl, hp => by
    by_cases h : lo < hi
    · cases hm : P (lo + (hi - lo) / 2) with
      | true => rw [leastI_t h hm]; exact leastI_fine n _ _ (by omega) (by omega) hm
      | false => rw [leastI_f h hm]; exact leastI_fine n _ _ (by omega) (by omega) hp
    · rw [leastI_z (by omega), show lo = hi by omega]; exact hp
theorem leastI_bound {P : Int → Bool} : ∀ (n : Nat) (lo hi : Int), (hi - lo).toNat ≤ n → lo ≤ hi → lo ≤ leastI P lo hi ∧ leastI P lo hi ≤ hi
  | 0, lo, hi, hn, hl => by rw [leastI_z (by omega)]; omega
  | n + 1, lo, hi, hn, hl => by
    by_cases h : lo < hi
    · cases hm : P (lo + (hi - lo) / 2) with
      | true => rw [leastI_t h hm]; have := leastI_bound (P := P) n lo (lo + (hi - lo) / 2) (by omega) (by omega); omega
      | false => rw [leastI_f h hm]; have := leastI_bound (P := P) n (lo + (hi - lo) / 2 + 1) hi (by omega) (by omega); omega
    · rw [leastI_z (by omega)]; omega
/-- Nothing less is fine, if what is fine stays fine. -/
theorem leastI_least {P : Int → Bool} {b : Int} (mono : ∀ x y, 0 ≤ x → x ≤ y → y ≤ b → P x = true → P y = true) : ∀ (n : Nat) (lo hi : Int), (hi - lo).toNat ≤ n → 0 ≤ lo → lo ≤ hi → hi ≤ b → ∀ z, lo ≤ z → z < leastI P lo hi → P z = false
  | 0, lo, hi, hn, h0, hl, hb, z, hz, hlt => by rw [leastI_z (by omega)] at hlt; omega
  | n + 1, lo, hi, hn, h0, hl, hb, z, hz, hlt => by
    by_cases h : lo < hi
    · cases hm : P (lo + (hi - lo) / 2) with
      | true => rw [leastI_t h hm] at hlt; exact leastI_least mono n _ _ (by omega) h0 (by omega) (by omega) z hz hlt
      | false =>
        rw [leastI_f h hm] at hlt
        by_cases hzm : lo + (hi - lo) / 2 + 1 ≤ z
        · exact leastI_least mono n _ _ (by omega) (by omega) (by omega) hb z hzm hlt
        · cases hpz : P z with
          | false => rfl
          | true => rw [mono z (lo + (hi - lo) / 2) (by omega) (by omega) (by omega) hpz] at hm; cases hm
    · rw [leastI_z (by omega)] at hlt; omega
section
variable {rs : List Rt} {ss : List Su} {po : List Po}
theorem moreS_more {at_ : Nat} {s : Su} (hs : ss[at_]? = some s) (x y : Int) : (moreS ss at_ x)[at_]? = some (setVol s (s.vol + x)) ∧ moreS ss at_ y = (moreS ss at_ x).set at_ (setVol (setVol s (s.vol + x)) (s.vol + y)) := by
  have hl : at_ < ss.length := (List.getElem?_eq_some_iff.mp hs).1
  rw [moreS_eq hs, moreS_eq hs, List.set_set]
  refine ⟨?_, rfl⟩
  rw [List.getElem?_set, if_pos rfl, if_pos hl]
theorem fine_iff (hok : ShareOK rs ss po) {right at_ : Nat} {x : Int} {p : List Int} (hp : PromRes rs (moreS ss at_ x) po p) : fineB rs ss po right at_ x = true ↔ p.getD right 0 = claimOf rs right := by
  unfold fineB
  rw [promX_eq hp]
  simp
/-- What is fine stays fine. -/
theorem fine_mono (hok : ShareOK rs ss po) {right at_ : Nat} (hr : right < rs.length) (ha : at_ < ss.length) {x y : Int} (h0 : 0 ≤ x) (hxy : x ≤ y) (hy : y ≤ 35184372088832) (h : fineB rs ss po right at_ x = true) : fineB rs ss po right at_ y = true := by
  obtain ⟨s, hs⟩ : ∃ s, ss[at_]? = some s := ⟨ss[at_], List.getElem?_eq_getElem ha⟩
  have Bx := moreB hok at_ h0 (by omega : x ≤ 35184372088832)
  have By := moreB hok at_ (by omega : 0 ≤ y) hy
  obtain ⟨p, hp⟩ := prom_exists Bx
  obtain ⟨q, hq⟩ := prom_exists By
  rw [fine_iff hok hp] at h
  rw [fine_iff hok hq]
  obtain ⟨g1, g2⟩ := moreS_more hs x y
  obtain ⟨R, hroom⟩ := richer_vol (rs := rs) (po := po) g1 (v := s.vol + y) (by show s.vol + x ≤ _; omega)
  rw [← g2] at R hroom
  have h1 := promised_more Bx R hroom hp hq right hr
  have h2 := hq.prom.le (fun k _ => (By.claimOf k).1) right hr
  have h2 : q.getD right 0 ≤ claimOf rs right := h2
  omega
/-- More than all claims together does not help. -/
theorem fine_sat (hok : ShareOK rs ss po) {right at_ : Nat} (hr : right < rs.length) (ha : at_ < ss.length) {x : Int} (hx : sumW (claimsOf rs) ≤ x) (hx2 : x ≤ 35184372088832) (h : fineB rs ss po right at_ x = true) : fineB rs ss po right at_ (sumW (claimsOf rs)) = true := by
  obtain ⟨s, hs⟩ : ∃ s, ss[at_]? = some s := ⟨ss[at_], List.getElem?_eq_getElem ha⟩
  have hcs := claims_sum hok.b
  have Bx := moreB hok at_ (by omega : 0 ≤ x) hx2
  have By := moreB hok at_ hcs.1 hcs.2
  obtain ⟨p, hp⟩ := prom_exists Bx
  obtain ⟨q, hq⟩ := prom_exists By
  rw [fine_iff hok hp] at h
  rw [fine_iff hok hq]
  have hI : ∀ z : Int, instOf rs (moreS ss at_ z) po = Snow.extra (instOf rs ss po) at_ z := fun z => by
    rw [moreS_eq hs]
    unfold instOf Snow.extra
    dsimp only
    rw [List.length_set]
    congr 1
    · funext i
      rw [vol_set hs]
      unfold volOf
      by_cases e : i = at_
      · subst e; rw [if_pos rfl, if_pos rfl, hs]
      · rw [if_neg e, if_neg e]
    · funext i
      obtain ⟨a1, a2, _⟩ := fol_set (rs := rs) hs (s.vol + z) i
      rw [a1, a2]
    · funext k i
      exact (fol_set (rs := rs) hs (s.vol + z) i).2.2 k
  have key : ∀ n, n ≤ rs.length → Snow.S n (fun j => p.getD j 0) = Snow.S n (fun j => q.getD j 0) := fun n hn => by
    have m1 := hp.prom.most n hn
    have m2 := hq.prom.most n hn
    rw [hI] at m1 m2
    refine Snow.IsMax.extra (I := instOf rs ss po) ha ?_ hx (fun i _ => (hok.b.volOf i).1) (fun i _ => (hok.b.roomI i).1) (fun k _ => ?_) m2 m1
    · have hl : (claimsOf rs).length = rs.length := by simp [claimsOf]
      have hb : ∀ k, k < (claimsOf rs).length → vOf (claimsOf rs) k = claimOf rs k := fun k hk => by
        have hk2 : k < rs.length := by omega
        rw [vOf_get' (claims_get (List.getElem?_eq_getElem hk2))]
        unfold claimOf
        rw [List.getElem?_eq_getElem hk2]
      have e : sumW (claimsOf rs) = Snow.S rs.length (claimOf rs) := by
        have nr := hok.nr
        rw [sumW_all (by omega) (fun k hk => by rw [hb k hk]; exact hok.b.claimOf k), hl]
        exact Snow.S_congr fun i hi => hb i (by omega)
      rw [e]
      refine Snow.S_le fun k _ => ?_
      unfold Snow.upTo
      split
      · exact Int.le_refl _
      · exact (hok.b.claimOf k).1
    · unfold Snow.upTo
      split
      · exact (hok.b.claimOf k).1
      · exact Int.le_refl _
  have k1 := key right (by omega)
  have k2 := key (right + 1) hr
  simp only [Snow.S] at k2
  omega
end
end Go.AM
