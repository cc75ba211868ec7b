/- Walks: Need. -/
import Derived.Test.YtlkbcjhemhmfoaaGreatDoorWy1
set_option linter.unusedSimpArgs false
set_option linter.unusedVariables false
namespace Go.AM
open Go Go.Proofs
set_option maxRecDepth 10000
set_option maxHeartbeats 1000000

theorem idxI_nat {α : Type} {p : α → Bool} {xs : List α} (h : 0 ≤ idxI p xs) : ∃ n : Nat, idxI p xs = n ∧ n < xs.length := by
  unfold idxI at h ⊢
  cases hf : xs.findIdx? p with
  | none => rw [hf] at h; exact absurd h (by decide)
  | some i =>
    rw [List.findIdx?_eq_some_iff_getElem] at hf
    exact ⟨i, rfl, hf.1⟩
abbrev needA (t : Int × Bool × Int) : AV := .tup [(false, [.int .i64 t.1]), (false, [.bool t.2.1]), (false, [.int .i64 t.2.2])]
theorem c_need (rs : List Rt) (ss : List Su) (po : List Po) (f1 f2 f3 : Bool) (right v d : Int) (h1 : rs.length < 90000000000) (h2 : ss.length < 90000000000) (h3 : po.length < 90000000000) :
    Ct envB 26 [shA rs.length ss.length po.length f1 f2 f3, iA right, iA v, iA d] (shB rs ss po) 3 { t : Int × Bool × Int // NeedIs rs ss po right v d t.1 t.2.1 t.2.2 } (fun a => needA a.1) (fun _ => []) (fun _ => 3) := by
  refine Ct.of zB (fn := Tryz.f26) (by kernel_rfl) (by kernel_rfl) rfl rfl ?_
  refine Rn.call0 zB 1000 rfl (c_checkShare rs ss po f1 f2 f3 h1 h2 h3) [some 0, some 1, some 2] rfl rfl (by (repeat' first | exact trivial | exact rfl | exact Or.inl (And.intro rfl rfl) | exact wsucc _ (by omega) | exact wlin (by first | omega | (push_cast; omega)) (by omega) | exact wint (by omega) (by omega) | refine And.intro ?_ ?_ | refine Or.inr ?_)) (by (repeat' first | exact trivial | exact rfl | exact (by decide) | exact zerosI _ | exact zerosN _ | exact OfRaw.rows (by omega) | exact Or.inl (And.intro rfl rfl) | refine And.intro ?_ ?_ | refine Exists.intro _ (Exists.intro _ (And.intro rfl (And.intro (by decide) ?_))))) rfl rfl rfl rfl rfl ?_
  refine Rn.split zB 1000 rfl (fun e0 => ?_) (fun e0 => ?_)
  · have e0 : shErr rs ss po ≠ 0 := by simpa using e0
    refine Rn.fin zB 1000 rfl rfl rfl ⟨(0, false, shErr rs ss po), ⟨fun _ => ⟨rfl, rfl, rfl⟩, fun h => absurd h e0, fun h => absurd h e0, fun h => absurd h e0, fun h => absurd h e0⟩⟩ [some 0, some 1, some 2] rfl rfl ?_ ?_ rfl rfl rfl
    · (repeat' first | exact trivial | exact rfl | exact Or.inl (And.intro rfl rfl) | exact wsucc _ (by omega) | exact wlin (by first | omega | (push_cast; omega)) (by omega) | exact wint (by omega) (by omega) | refine And.intro ?_ ?_ | refine Or.inr ?_)
    · (repeat' first | exact trivial | exact rfl | exact (by decide) | exact zerosI _ | exact zerosN _ | exact OfRaw.rows (by omega) | exact Or.inl (And.intro rfl rfl) | refine And.intro ?_ ?_ | refine Exists.intro _ (Exists.intro _ (And.intro rfl (And.intro (by decide) ?_))))
  have e0 : shErr rs ss po = 0 := by simpa using e0
  have hok := shErr_zero e0
  have B := hok.b
  have nr := B.nr
  have ns := B.ns
  have hbad : ¬ needArg rs right v d → NeedIs rs ss po right v d 0 false 1 := fun hn => ⟨fun h => absurd e0 h, fun _ _ => ⟨rfl, rfl, rfl⟩, fun _ h => absurd h hn, fun _ h => absurd h hn, fun _ h => absurd h hn⟩
  refine Rn.split zB 1000 rfl (fun a0 => ?_) (fun a0 => ?_)
  · repeat (refine Rn.split zB 1000 rfl (fun _ => ?_) (fun h => by cases h))
    refine Rn.fin zB 1000 rfl rfl rfl ⟨(0, false, 1), hbad fun c => (by have := c.1; simp at a0; omega)⟩ [some 0, some 1, some 2] rfl rfl ?_ ?_ rfl rfl rfl
    · (repeat' first | exact trivial | exact rfl | exact Or.inl (And.intro rfl rfl) | exact wsucc _ (by omega) | exact wlin (by first | omega | (push_cast; omega)) (by omega) | exact wint (by omega) (by omega) | refine And.intro ?_ ?_ | refine Or.inr ?_)
    · (repeat' first | exact trivial | exact rfl | exact (by decide) | exact zerosI _ | exact zerosN _ | exact OfRaw.rows (by omega) | exact Or.inl (And.intro rfl rfl) | refine And.intro ?_ ?_ | refine Exists.intro _ (Exists.intro _ (And.intro rfl (And.intro (by decide) ?_))))
  refine Rn.split zB 1000 rfl (fun a1 => ?_) (fun a1 => ?_)
  · repeat (refine Rn.split zB 1000 rfl (fun _ => ?_) (fun h => by cases h))
    refine Rn.fin zB 1000 rfl rfl rfl ⟨(0, false, 1), hbad fun c => (by have := c.2.1; simp at a1; omega)⟩ [some 0, some 1, some 2] rfl rfl ?_ ?_ rfl rfl rfl
    · (repeat' first | exact trivial | exact rfl | exact Or.inl (And.intro rfl rfl) | exact wsucc _ (by omega) | exact wlin (by first | omega | (push_cast; omega)) (by omega) | exact wint (by omega) (by omega) | refine And.intro ?_ ?_ | refine Or.inr ?_)
    · (repeat' first | exact trivial | exact rfl | exact (by decide) | exact zerosI _ | exact zerosN _ | exact OfRaw.rows (by omega) | exact Or.inl (And.intro rfl rfl) | refine And.intro ?_ ?_ | refine Exists.intro _ (Exists.intro _ (And.intro rfl (And.intro (by decide) ?_))))
  refine Rn.split zB 1000 rfl (fun a2 => ?_) (fun a2 => ?_)
  · repeat (refine Rn.split zB 1000 rfl (fun _ => ?_) (fun h => by cases h))
    refine Rn.fin zB 1000 rfl rfl rfl ⟨(0, false, 1), hbad fun c => (by have := c.2.2.1; rw [this] at a2; cases a2)⟩ [some 0, some 1, some 2] rfl rfl ?_ ?_ rfl rfl rfl
    · (repeat' first | exact trivial | exact rfl | exact Or.inl (And.intro rfl rfl) | exact wsucc _ (by omega) | exact wlin (by first | omega | (push_cast; omega)) (by omega) | exact wint (by omega) (by omega) | refine And.intro ?_ ?_ | refine Or.inr ?_)
    · (repeat' first | exact trivial | exact rfl | exact (by decide) | exact zerosI _ | exact zerosN _ | exact OfRaw.rows (by omega) | exact Or.inl (And.intro rfl rfl) | refine And.intro ?_ ?_ | refine Exists.intro _ (Exists.intro _ (And.intro rfl (And.intro (by decide) ?_))))
  refine Rn.split zB 1000 rfl (fun a3 => ?_) (fun a3 => ?_)
  · refine Rn.fin zB 1000 rfl rfl rfl ⟨(0, false, 1), hbad fun c => (by have := c.2.2.2; rw [this] at a3; cases a3)⟩ [some 0, some 1, some 2] rfl rfl ?_ ?_ rfl rfl rfl
    · (repeat' first | exact trivial | exact rfl | exact Or.inl (And.intro rfl rfl) | exact wsucc _ (by omega) | exact wlin (by first | omega | (push_cast; omega)) (by omega) | exact wint (by omega) (by omega) | refine And.intro ?_ ?_ | refine Or.inr ?_)
    · (repeat' first | exact trivial | exact rfl | exact (by decide) | exact zerosI _ | exact zerosN _ | exact OfRaw.rows (by omega) | exact Or.inl (And.intro rfl rfl) | refine And.intro ?_ ?_ | refine Exists.intro _ (Exists.intro _ (And.intro rfl (And.intro (by decide) ?_))))
  have harg : needArg rs right v d := ⟨by simp at a0; omega, by simp at a1; omega, by simpa using a2, by simpa using a3⟩
  obtain ⟨k, rfl⟩ : ∃ k : Nat, right = k := ⟨right.toNat, by have := harg.1; omega⟩
  have hk : k < rs.length := by have := harg.2.1; omega
  refine Rn.call0 zB 1000 rfl (c_seek ss f2 (by omega) v d) [some 1, some 5, some 6] rfl rfl (by (repeat' first | exact trivial | exact rfl | exact Or.inl (And.intro rfl rfl) | exact wsucc _ (by omega) | exact wlin (by first | omega | (push_cast; omega)) (by omega) | exact wint (by omega) (by omega) | refine And.intro ?_ ?_ | refine Or.inr ?_)) (by (repeat' first | exact trivial | exact rfl | exact (by decide) | exact zerosI _ | exact zerosN _ | exact OfRaw.rows (by omega) | exact Or.inl (And.intro rfl rfl) | refine And.intro ?_ ?_ | refine Exists.intro _ (Exists.intro _ (And.intro rfl (And.intro (by decide) ?_))))) rfl rfl rfl rfl rfl ?_
  refine Rn.split zB 1000 rfl (fun b0 => ?_) (fun b0 => ?_)
  · have b0 : idxI (fitS v d) ss < 0 := by simpa using b0
    refine Rn.fin zB 1000 rfl rfl rfl ⟨(0, false, 0), ⟨fun h => absurd e0 h, fun _ h => absurd harg h, fun _ _ _ => ⟨rfl, rfl, rfl⟩, fun _ _ h => (by omega), fun _ _ h => (by omega)⟩⟩ [some 0, some 1, some 2] rfl rfl ?_ ?_ rfl rfl rfl
    · (repeat' first | exact trivial | exact rfl | exact Or.inl (And.intro rfl rfl) | exact wsucc _ (by omega) | exact wlin (by first | omega | (push_cast; omega)) (by omega) | exact wint (by omega) (by omega) | refine And.intro ?_ ?_ | refine Or.inr ?_)
    · (repeat' first | exact trivial | exact rfl | exact (by decide) | exact zerosI _ | exact zerosN _ | exact OfRaw.rows (by omega) | exact Or.inl (And.intro rfl rfl) | refine And.intro ?_ ?_ | refine Exists.intro _ (Exists.intro _ (And.intro rfl (And.intro (by decide) ?_))))
  have b0 : 0 ≤ idxI (fitS v d) ss := by simpa using b0
  obtain ⟨n, hn, hnl⟩ := idxI_nat b0
  have hcs := claims_sum B
  have hcl : (claimsOf rs).length = rs.length := by simp [claimsOf]
  rw [hn]
  refine Rn.loop zB 1000 rfl (T := Nat) (fun i => rs.length - i) (fun i => i ≤ rs.length) (fun i => [(51, iA i), (50, iA rs.length), (49, slA 0 0 rs.length f1 7), (13, iA (sumW ((claimsOf rs).take i))), (12, .one (.ptr (some (7, 0)))), (5, .one (.ptr (some (4, 0)))), (4, .one (.ptr (some (3, 0))))]) (fun i => [⟨7, false, none, .ex [.int .i64 n]⟩, ⟨4, false, none, .ex [.int .i64 k]⟩] ++ shC rs ss po f1 f2 f3) (fun _ => 8) (0) [some 0, some 1, some 2, some 3, some 4, some 5, some 6, some 7] (Nat.zero_le _) ⟨rfl, rfl, rfl, rfl, rfl, by (repeat' first | exact trivial | exact rfl | exact Or.inl (And.intro rfl rfl) | exact wsucc _ (by omega) | exact wlin (by first | omega | (push_cast; omega)) (by omega) | exact wint (by omega) (by omega) | refine And.intro ?_ ?_ | refine Or.inr ?_), by (repeat' first | exact trivial | exact rfl | exact (by decide) | exact zerosI _ | exact zerosN _ | exact OfRaw.rows (by omega) | exact Or.inl (And.intro rfl rfl) | refine And.intro ?_ ?_ | refine Exists.intro _ (Exists.intro _ (And.intro rfl (And.intro (by decide) ?_))))⟩ ?_
  rintro i hi
  refine Rn.split zB 1000 rfl (fun hlt => ?_) (fun hlt => ?_)
  · have hlt : i < rs.length := by simpa using hlt
    obtain ⟨r, hr⟩ : ∃ r, rs[i]? = some r := ⟨rs[i], List.getElem?_eq_getElem hlt⟩
    have hs := sumW_succ (claims_get hr)
    refine Rn.ask zB 1000 rfl ⟨by first | omega | (dsimp only; omega), by first | omega | (dsimp only; omega)⟩ ?_
    refine Rn.loadR zB 1000 rfl (LoadR.elt eRt hr (by simp)) ?_
    refine Rn.again zB 1000 rfl (i + 1) [some 0, some 1, some 2, some 3, some 4, some 5, some 6, some 7] (by omega) (hlt) ⟨rfl, rfl, rfl, rfl, rfl, by (try dsimp only); rw [hs]; (repeat' first | exact trivial | exact rfl | exact Or.inl (And.intro rfl rfl) | exact wsucc _ (by omega) | exact wlin (by first | omega | (push_cast; omega)) (by omega) | exact wint (by omega) (by omega) | refine And.intro ?_ ?_ | refine Or.inr ?_), by (repeat' first | exact trivial | exact rfl | exact (by decide) | exact zerosI _ | exact zerosN _ | exact OfRaw.rows (by omega) | exact Or.inl (And.intro rfl rfl) | refine And.intro ?_ ?_ | refine Exists.intro _ (Exists.intro _ (And.intro rfl (And.intro (by decide) ?_))))⟩
  have hi2 : i = rs.length := by simp at hlt; omega
  subst hi2
  have htk : (claimsOf rs).take rs.length = claimsOf rs := by rw [← hcl, List.take_length]
  rw [htk]
  refine Rn.out zB 1000 rfl rfl ?_
  have c := c_ask rs ss po f1 f2 f3 k n (.sl (some (1, 0)) ss.length f2 3) [] hok hk hnl (sumW (claimsOf rs)) hcs.1 hcs.2
  refine Rn.call zB 1000 rfl (c) [some 0, some 1, some 2, some 3, some 8, some 7, some 4, none] rfl (by (repeat' first | exact trivial | exact rfl | exact Or.inl (And.intro rfl rfl) | exact wsucc _ (by omega) | exact wlin (by first | omega | (push_cast; omega)) (by omega) | exact wint (by omega) (by omega) | refine And.intro ?_ ?_ | refine Or.inr ?_)) (by (repeat' first | exact trivial | exact rfl | exact (by decide) | exact zerosI _ | exact zerosN _ | exact OfRaw.rows (by omega) | exact Or.inl (And.intro rfl rfl) | refine And.intro ?_ ?_ | refine Exists.intro _ (Exists.intro _ (And.intro rfl (And.intro (by decide) ?_))))) rfl rfl rfl (fun _ => ⟨_, _, rfl, ?_⟩)
  have hfin : fineB rs ss po ((k : Int)).toNat ((n : Int)).toNat (sumW (claimsOf rs)) = fineB rs ss po k n (sumW (claimsOf rs)) := rfl
  refine Rn.split zB 1000 rfl (fun b1 => ?_) (fun b1 => ?_)
  · have b1 : fineB rs ss po k n (sumW (claimsOf rs)) = false := by simpa using b1
    refine Rn.fin zB 1000 rfl rfl rfl ⟨(0, false, 0), ⟨fun h => absurd e0 h, fun _ h => absurd harg h, fun _ _ h => (by omega), fun _ _ _ _ => ⟨rfl, rfl, rfl⟩, fun _ _ _ h => (by rw [hn] at h; rw [show fineB rs ss po ((k : Int)).toNat ((n : Int)).toNat (sumW (claimsOf rs)) = false from b1] at h; cases h)⟩⟩ [some 0, some 1, some 2] rfl rfl ?_ ?_ rfl rfl rfl
    · (repeat' first | exact trivial | exact rfl | exact Or.inl (And.intro rfl rfl) | exact wsucc _ (by omega) | exact wlin (by first | omega | (push_cast; omega)) (by omega) | exact wint (by omega) (by omega) | refine And.intro ?_ ?_ | refine Or.inr ?_)
    · (repeat' first | exact trivial | exact rfl | exact (by decide) | exact zerosI _ | exact zerosN _ | exact OfRaw.rows (by omega) | exact Or.inl (And.intro rfl rfl) | refine And.intro ?_ ?_ | refine Exists.intro _ (Exists.intro _ (And.intro rfl (And.intro (by decide) ?_))))
  have b1 : fineB rs ss po k n (sumW (claimsOf rs)) = true := by simpa using b1
  have c := c_least rs ss po f1 f2 f3 k n ss.length (Nat.beq ss.length 0) (arr Su.c (moreS ss n (sumW (claimsOf rs)))) hok hk hnl (sumW (claimsOf rs)) hcs.1 hcs.2
  refine Rn.call zB 1000 rfl (c) [some 0, some 1, some 2, some 3, some 8, some 7, some 4, some 9] rfl (by (repeat' first | exact trivial | exact rfl | exact Or.inl (And.intro rfl rfl) | exact wsucc _ (by omega) | exact wlin (by first | omega | (push_cast; omega)) (by omega) | exact wint (by omega) (by omega) | refine And.intro ?_ ?_ | refine Or.inr ?_)) (by (repeat' first | exact trivial | exact rfl | exact (by decide) | exact zerosI _ | exact zerosN _ | exact OfRaw.rows (by omega) | exact Or.inl (And.intro rfl rfl) | refine And.intro ?_ ?_ | refine Exists.intro _ (Exists.intro _ (And.intro rfl (And.intro (by decide) ?_))))) rfl rfl rfl (fun _ => ⟨_, _, rfl, ?_⟩)
  refine Rn.fin zB 1000 rfl rfl rfl ⟨(leastI (fineB rs ss po k n) 0 (sumW (claimsOf rs)), true, 0), ⟨fun h => absurd e0 h, fun _ h => absurd harg h, fun _ _ h => (by omega), fun _ _ _ h => (by rw [hn] at h; rw [show fineB rs ss po ((k : Int)).toNat ((n : Int)).toNat (sumW (claimsOf rs)) = true from b1] at h; cases h), fun _ _ _ _ => (by rw [hn]; exact ⟨rfl, rfl, rfl⟩)⟩⟩ [some 0, some 1, some 2] rfl rfl ?_ ?_ rfl rfl rfl
  · (repeat' first | exact trivial | exact rfl | exact Or.inl (And.intro rfl rfl) | exact wsucc _ (by omega) | exact wlin (by first | omega | (push_cast; omega)) (by omega) | exact wint (by omega) (by omega) | refine And.intro ?_ ?_ | refine Or.inr ?_)
  · (repeat' first | exact trivial | exact rfl | exact (by decide) | exact zerosI _ | exact zerosN _ | exact OfRaw.rows (by omega) | exact Or.inl (And.intro rfl rfl) | refine And.intro ?_ ?_ | refine Exists.intro _ (Exists.intro _ (And.intro rfl (And.intro (by decide) ?_))))
theorem NeedIs.unique {rs : List Rt} {ss : List Su} {po : List Po} {right v d x y : Int} {a b : Bool} {e f : Int} (h : NeedIs rs ss po right v d x a e) (h' : NeedIs rs ss po right v d y b f) : y = x ∧ b = a ∧ f = e := by
  by_cases h0 : shErr rs ss po = 0
  · by_cases h1 : needArg rs right v d
    · by_cases h2 : idxI (fitS v d) ss < 0
      · obtain ⟨a1, a2, a3⟩ := h.none h0 h1 h2
        obtain ⟨b1, b2, b3⟩ := h'.none h0 h1 h2
        exact ⟨by omega, by rw [a2, b2], by omega⟩
      · have h2 : 0 ≤ idxI (fitS v d) ss := by omega
        cases h3 : fineB rs ss po right.toNat (idxI (fitS v d) ss).toNat (sumW (claimsOf rs)) with
        | false =>
          obtain ⟨a1, a2, a3⟩ := h.no h0 h1 h2 h3
          obtain ⟨b1, b2, b3⟩ := h'.no h0 h1 h2 h3
          exact ⟨by omega, by rw [a2, b2], by omega⟩
        | true =>
          obtain ⟨a1, a2, a3⟩ := h.yes h0 h1 h2 h3
          obtain ⟨b1, b2, b3⟩ := h'.yes h0 h1 h2 h3
          exact ⟨by omega, by rw [a2, b2], by omega⟩
    · obtain ⟨a1, a2, a3⟩ := h.arg h0 h1
      obtain ⟨b1, b2, b3⟩ := h'.arg h0 h1
      exact ⟨by omega, by rw [a2, b2], by omega⟩
  · obtain ⟨a1, a2, a3⟩ := h.bad h0
    obtain ⟨b1, b2, b3⟩ := h'.bad h0
    exact ⟨by omega, by rw [a2, b2], by omega⟩
end Go.AM
