/- 'sane()' of the statements answers true: the run's first part, by the machine's twin in the kernel: what it leaves that the rest looks at. -/
import Derived.Test.YtlkbcjhemhmfoaaGreatDoorMj
namespace Go.AM
open Go Go.Proofs

noncomputable def cut : Nat → Code → Option (Code × Code)
  | 0, .seq a b => some (a, b)
  | k + 1, .seq a b => (cut k b).map fun p => (.seq a p.1, p.2)
  | _, _ => none

theorem cut_run {X : Env} {nt : Nat} {Q : Ex → Fr → H → Prop} : ∀ (k : Nat) (c : Code) {p : Code × Code} {n : Nat} {fr : Fr} {h : H} {fr1 : Fr} {h1 : H}, cut k c = some p → runA X n nt p.1 fr h = some (.norm, fr1, h1) → Runs X nt p.2 fr1 h1 Q → Runs X nt c fr h Q := by
  intro k
  induction k with
  | zero =>
    intro c p n fr h fr1 h1 hc hr hq
    cases c with
    | seq a b => simp only [cut, Option.some.injEq] at hc; subst hc; exact Runs.seq ⟨n, .norm, fr1, h1, hr, hq⟩
    | _ => simp [cut] at hc
  | succ k ih =>
    intro c p n fr h fr1 h1 hc hr hq
    cases c with
    | seq a b =>
      simp only [cut, Option.map_eq_some_iff] at hc
      obtain ⟨q, hc, rfl⟩ := hc
      cases n with
      | zero => simp [runA] at hr
      | succ n =>
        simp only [runA] at hr
        split at hr
        · rename_i fr' h' e; exact Runs.seq ⟨n, .norm, fr', h', e, ih b hc hr hq⟩
        · rename_i e; exact absurd hr (e _ _)
    | _ => simp [cut] at hc

noncomputable def frEq : Tr AV → Tr AV → Bool
  | .nil, .nil => true
  | .node v l r, .node v' l' r' => decide (v = v') && (frEq l l' && frEq r r')
  | _, _ => false
theorem frEq_eq : ∀ {a b : Tr AV}, frEq a b = true → a = b
  | .nil, .nil, _ => rfl
  | .node v l r, .node v' l' r', h => by
    simp only [frEq, Bool.and_eq_true, decide_eq_true_eq] at h
    rw [h.1, frEq_eq h.2.1, frEq_eq h.2.2]
  | .nil, .node _ _ _, h => by simp [frEq] at h
  | .node _ _ _, .nil, h => by simp [frEq] at h

/-- Every number in the tree is below N. -/
noncomputable def kb {α : Type} (N : Nat) : Tr α → Nat → Nat → Bool
  | .nil, _, _ => true
  | .node v l r, a, b => (match v with | none => true | some _ => Nat.ble (b + 1) N) && (kb N l (a + a) (a + b) && kb N r (a + a) (a + a + b))
theorem kb_lt {α : Type} {N : Nat} : ∀ {t : Tr α} {a b i : Nat} {x : α}, kb N t a b = true → t.get i = some x → a * i + b < N
  | .nil, _, _, _, _, _, h => by cases h
  | .node v l r, a, b, 0, x, hk, h => by
    simp only [kb, Bool.and_eq_true] at hk
    have h : v = some x := h
    subst h
    have := Nat.le_of_ble_eq_true hk.1
    omega
  | .node v l r, a, b, m + 1, x, hk, h => by
    simp only [kb, Bool.and_eq_true] at hk
    rw [Tr.get_succ] at h
    have hm := Nat.div_add_mod m 2
    cases hb : Nat.beq (Nat.mod m 2) 0 with
    | true =>
      rw [hb] at h
      have hz : m % 2 = 0 := Nat.eq_of_beq_eq_true hb
      have := kb_lt hk.2.1 h
      have key : ∀ q, a * (q + q + 1) + b = (a + a) * q + (a + b) := fun q => by simp only [Nat.mul_add, Nat.add_mul, Nat.mul_one]; omega
      have e := key (m / 2)
      rw [show m / 2 + m / 2 = m by omega] at e
      rw [e]; exact this
    | false =>
      rw [hb] at h
      have hz : m % 2 = 1 := by
        have : m % 2 ≠ 0 := fun e => by rw [show Nat.mod m 2 = 0 from e] at hb; cases hb
        omega
      have := kb_lt hk.2.2 h
      have key : ∀ q, a * (q + q + 1 + 1) + b = (a + a) * q + (a + a + b) := fun q => by simp only [Nat.mul_add, Nat.add_mul, Nat.mul_one]; omega
      have e := key (m / 2)
      rw [show m / 2 + m / 2 + 1 = m by omega] at e
      rw [e]; exact this


noncomputable def body17 : Code := match Tryz.f17.body with | some c => c | none => .skip
noncomputable def halves : Code × Code := match cut 5 body17 with | some p => p | none => (.skip, .skip)
theorem halves_eq : cut 5 body17 = some halves := by kernel_rfl
noncomputable def frOf : List (Nat × AV) → Fr
  | [] => .nil
  | (n, v) :: l => Tr.ins (frOf l) n (some v)
noncomputable def c5 : List Sc := [.int .i64 7, .int .i64 0]
noncomputable def c7 : List Sc := [.int .i64 4, .int .i64 8]
noncomputable def H1 : H := H.put (H.put ⟨.nil, 33251, 0⟩ 1483 c5) 2776 c7
noncomputable def FR1 : Fr := frOf [(0, .one (.bool false)),
  (1, .one (.int .i64 1)),
  (2, .one (.int .i64 0)),
  (3, .one (.int .i64 2)),
  (4, .one (.int .i64 0)),
  (5, .one (.sl (some (1483, 0)) 1 false 1)),
  (6, .one (.int .i64 0)),
  (7, .one (.sl (some (2776, 0)) 2 true 1)),
  (8, .one (.int .i64 0)),
  (9, .one (.int .i64 1)),
  (10, .one (.bool true)),
  (11, .one (.int .i64 0)),
  (25, .tup [(false, [.int .i64 1]), (false, [.int .i64 0])]),
  (26, .agg [.sl (some (11, 0)) 2 true 10]),
  (27, .tup [(false, [.int .i64 1]), (false, [.int .i64 0])]),
  (28, .one (.int .i64 1)),
  (29, .one (.int .i64 0)),
  (30, .tup [(false, [.int .i64 2]), (false, [.int .i64 0])]),
  (31, .agg [.sl (some (320, 0)) 2 true 10]),
  (32, .tup [(false, [.int .i64 2]), (false, [.int .i64 0])]),
  (33, .one (.int .i64 2)),
  (34, .one (.int .i64 0)),
  (35, .tup [(false, [.sl (some (1483, 0)) 1 false 1]), (false, [.int .i64 0])]),
  (36, .agg [.sl (some (677, 0)) 2 true 10]),
  (37, .tup [(false, [.sl (some (1483, 0)) 1 false 1]), (false, [.int .i64 0])]),
  (38, .one (.sl (some (1483, 0)) 1 false 1)),
  (39, .one (.int .i64 0)),
  (40, .tup [(false, [.sl (some (2776, 0)) 2 true 1]), (false, [.int .i64 0])]),
  (41, .agg [.sl (some (1608, 0)) 2 true 7, .sl (some (1611, 0)) 2 true 3, .sl none 0 true 0]),
  (42, .tup [(false, [.sl (some (2776, 0)) 2 true 1]), (false, [.int .i64 0])]),
  (43, .one (.sl (some (2776, 0)) 2 true 1)),
  (44, .one (.int .i64 0)),
  (45, .tup [(false, [.int .i64 1]), (false, [.bool true]), (false, [.int .i64 0])]),
  (46, .agg [.sl (some (6104, 0)) 2 true 7, .sl (some (6107, 0)) 2 true 3, .sl none 0 true 0]),
  (47, .tup [(false, [.int .i64 1]), (false, [.bool true]), (false, [.int .i64 0])]),
  (48, .one (.int .i64 1)),
  (49, .one (.bool true)),
  (50, .one (.int .i64 0))]
noncomputable def t1 (r : Option (Ex × Fr × H)) : Bool := match r with
  | some (.norm, fr, h) => frEq fr FR1 && ((decide (h.get 1483 = some c5) && decide (h.get 2776 = some c7)) && (Nat.beq h.nx 33251 && (Nat.beq h.ro 0 && kb 33251 h.tr 1 0)))
  | _ => false
set_option maxHeartbeats 0
theorem part1 : t1 (runT envA 100000 Tryz.f17.ntmps halves.1 .nil hE) = true := by kernel_rfl

end Go.AM
