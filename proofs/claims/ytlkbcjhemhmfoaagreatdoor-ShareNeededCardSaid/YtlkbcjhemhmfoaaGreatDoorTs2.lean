/- 'sane()' of the statements answers true: the run's second part, and the two joined by the machine's frame law. -/
import Derived.Test.YtlkbcjhemhmfoaaGreatDoorTs1
namespace Go.AM
open Go Go.Proofs

def isTrue : Option AV → Bool | some (.one (.bool b)) => b | _ => false
theorem isTrue_eq {v : Option AV} (h : isTrue v = true) : v = some (.one (.bool true)) := by
  unfold isTrue at h
  split at h
  · rw [h]
  · cases h
noncomputable def t2 (r : Option (Ex × Fr × H)) : Bool := match r with
  | some (.norm, fr, h) => isTrue (resultsA envA Tryz.f17 fr h)
  | some (.ret, fr, h) => isTrue (resultsA envA Tryz.f17 fr h)
  | _ => false
noncomputable def FRl : Fr := (.node (some (.one (.bool false))) (.node (some (.one (.int .i64 1))) (.node (some (.one (.int .i64 2))) (.node (some (.one (.sl (some (2776, 0)) 2 true 1))) (.node none (.node (some (.agg [.sl (some (320, 0)) 2 true 10])) .nil .nil) (.node (some (.tup [(false, [.int .i64 1]), (false, [.bool true]), (false, [.int .i64 0])])) .nil .nil)) (.node none (.node (some (.one (.int .i64 0))) .nil .nil) .nil)) (.node (some (.one (.int .i64 0))) (.node none (.node (some (.tup [(false, [.sl (some (1483, 0)) 1 false 1]), (false, [.int .i64 0])])) .nil .nil) .nil) (.node (some (.tup [(false, [.int .i64 1]), (false, [.int .i64 0])])) (.node (some (.one (.sl (some (2776, 0)) 2 true 1))) .nil .nil) .nil))) (.node (some (.one (.sl (some (1483, 0)) 1 false 1))) (.node (some (.one (.int .i64 1))) (.node none (.node (some (.one (.int .i64 2))) .nil .nil) (.node (some (.one (.bool true))) .nil .nil)) (.node (some (.tup [(false, [.int .i64 1]), (false, [.int .i64 0])])) (.node (some (.agg [.sl (some (1608, 0)) 2 true 7, .sl (some (1611, 0)) 2 true 3, .sl none 0 true 0])) .nil .nil) .nil)) (.node none (.node none (.node (some (.tup [(false, [.sl (some (1483, 0)) 1 false 1]), (false, [.int .i64 0])])) .nil .nil) .nil) (.node (some (.one (.int .i64 0))) (.node (some (.tup [(false, [.int .i64 1]), (false, [.bool true]), (false, [.int .i64 0])])) .nil .nil) .nil)))) (.node (some (.one (.int .i64 0))) (.node (some (.one (.int .i64 0))) (.node (some (.one (.int .i64 0))) (.node none (.node (some (.tup [(false, [.int .i64 2]), (false, [.int .i64 0])])) .nil .nil) (.node (some (.one (.int .i64 1))) .nil .nil)) (.node none (.node (some (.tup [(false, [.sl (some (2776, 0)) 2 true 1]), (false, [.int .i64 0])])) .nil .nil) .nil)) (.node none (.node none (.node (some (.agg [.sl (some (677, 0)) 2 true 10])) .nil .nil) .nil) (.node (some (.one (.int .i64 1))) (.node (some (.one (.int .i64 0))) .nil .nil) .nil))) (.node (some (.one (.int .i64 0))) (.node (some (.one (.bool true))) (.node none (.node (some (.one (.int .i64 0))) .nil .nil) (.node (some (.one (.int .i64 0))) .nil .nil)) (.node (some (.agg [.sl (some (11, 0)) 2 true 10])) (.node (some (.tup [(false, [.sl (some (2776, 0)) 2 true 1]), (false, [.int .i64 0])])) .nil .nil) .nil)) (.node none (.node none (.node (some (.one (.sl (some (1483, 0)) 1 false 1))) .nil .nil) .nil) (.node (some (.tup [(false, [.int .i64 2]), (false, [.int .i64 0])])) (.node (some (.agg [.sl (some (6104, 0)) 2 true 7, .sl (some (6107, 0)) 2 true 3, .sl none 0 true 0])) .nil .nil) .nil)))))
noncomputable def Hl : H := ⟨(.node none (.node none (.node none .nil (.node none .nil (.node none (.node none (.node none .nil (.node none .nil (.node none .nil (.node none (.node (some ([.int .i64 7, .int .i64 0])) .nil .nil) .nil)))) .nil) .nil))) .nil) (.node none (.node none (.node none .nil (.node none .nil (.node none (.node none .nil (.node none .nil (.node none (.node none .nil (.node none (.node (some ([.int .i64 4, .int .i64 8])) .nil .nil) .nil)) .nil))) .nil))) .nil) .nil)), 33251, 0⟩
theorem FRl_eq : FR1 = FRl := by kernel_rfl
theorem Hl_eq : H1 = Hl := by kernel_rfl
set_option maxHeartbeats 0
theorem part2' : t2 (runT envA 100000 Tryz.f17.ntmps halves.2 FRl Hl) = true := by kernel_rfl
theorem part2 : t2 (runT envA 100000 Tryz.f17.ntmps halves.2 FR1 H1) = true := by rw [FRl_eq, Hl_eq]; exact part2'

theorem H1_get (i : Nat) : H1.get i = if i = 2776 then some c7 else if i = 1483 then some c5 else none := by
  unfold H1
  rw [H.get_put, H.get_put]
  rfl
noncomputable def gH (h : H) : G := fun i => if i = 2776 then none else if i = 1483 then none else h.get i
theorem t1_spec {r : Option (Ex × Fr × H)} (h1 : t1 r = true) : ∃ h, r = some (.norm, FR1, h) ∧ Ext (gH h) H1 h ∧ ∀ i l, gH h i = some l → i < H1.nx := by
  unfold t1 at h1
  split at h1
  rotate_left
  · cases h1
  rename_i fr h
  simp only [Bool.and_eq_true, decide_eq_true_eq] at h1
  obtain ⟨hf, ⟨g5, g7⟩, hn, hr, hk⟩ := h1
  have hf := frEq_eq hf
  subst hf
  have hn : h.nx = 33251 := Nat.eq_of_beq_eq_true hn
  have hr : h.ro = 0 := Nat.eq_of_beq_eq_true hr
  have hk : ∀ i l, h.get i = some l → i < 33251 := fun i l hi => by
    have := kb_lt hk (show h.tr.get i = some l from hi); omega
  refine ⟨h, rfl, { nx := hn, ro := hr, get := fun i => ?_, off := fun i l hi => ?_ }, fun i l hi => ?_⟩
  · unfold G.or gH
    rw [H1_get]
    by_cases a : i = 2776
    · subst a; simp only [if_pos]; exact g7
    · by_cases b : i = 1483
      · subst b; simp only [if_pos, if_neg a]; exact g5
      · simp only [if_neg a, if_neg b]
  · rw [H1_get]
    unfold gH at hi
    by_cases a : i = 2776
    · simp [a] at hi
    · by_cases b : i = 1483
      · simp [b] at hi
      · simp only [if_neg a, if_neg b]
  · show i < 33251
    unfold gH at hi
    split at hi
    · cases hi
    · split at hi
      · cases hi
      · exact hk i l hi
theorem t2_spec {r : Option (Ex × Fr × H)} (h2 : t2 r = true) : ∃ e fr h, r = some (e, fr, h) ∧ (e = .norm ∨ e = .ret) ∧ resultsA envA Tryz.f17 fr h = some (.one (.bool true)) := by
  unfold t2 at h2
  split at h2
  · exact ⟨_, _, _, rfl, .inl rfl, isTrue_eq h2⟩
  · exact ⟨_, _, _, rfl, .inr rfl, isTrue_eq h2⟩
  · cases h2
theorem joined {X : Env} {f : FuncId} {fn : Func} {c : Code} {k n : Nat} {p : Code × Code} {FR FR' : Fr} {HL h h' : H} {gB : G} {e : Ex} {v : AV} (hE0 : X.E f = none) (hF : X.F f = some fn) (hb : fn.body = some c) (hc : cut k c = some p)
    (e1 : runA X n fn.ntmps p.1 .nil hE = some (.norm, FR, h)) (x : Ext gB HL h) (hB : ∀ i l, gB i = some l → i < HL.nx) (e2 : runA X n fn.ntmps p.2 FR HL = some (e, FR', h')) (he : e = .norm ∨ e = .ret) (hv : resultsA X fn FR' h' = some v) :
    ∃ h', CallsA X f [] hE v h' := by
  obtain ⟨hp', er', x'⟩ := (runA_le n n (Nat.le_refl _) _ _ _ _ _ _ _ e2).2 _ _ x hB
  obtain ⟨v', h9, hc, hq⟩ := CallsQ.of_body (X := X) (f := f) (fn := fn) (c := c) (args := []) (h := hE) (Q := fun v' _ => v' = v) hE0 hF hb (Nat.zero_le _)
    (cut_run k c hc e1 ⟨n, e, FR', hp', er', he, _, resultsA_ext x' hv, rfl⟩)
  subst hq
  exact ⟨h9, hc⟩
theorem kRun {X : Env} {n nt : Nat} {c : Code} {fr : Fr} {h : H} {r : Option (Ex × Fr × H)} (e : runT X n nt c fr h = r) : runA X n nt c fr h = r := by rw [← runT_eq]; exact e

/-- The claim's check of itself answers true. -/
theorem sane : ∃ h', CallsA envA 17 [] hE (.one (.bool true)) h' := by
  obtain ⟨h, e1, x, hB⟩ := t1_spec part1
  obtain ⟨e, fr, h', e2, he, hv⟩ := t2_spec part2
  exact joined (by kernel_rfl) (by kernel_rfl) (by kernel_rfl) halves_eq (kRun e1) x hB (kRun e2) he hv
end Go.AM
