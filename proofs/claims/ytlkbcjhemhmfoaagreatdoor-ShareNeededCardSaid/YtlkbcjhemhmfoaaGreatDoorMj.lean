/- Walks: the small functions. -/
import Derived.Test.YtlkbcjhemhmfoaaGreatDoorMg
import Derived.Test.YtlkbcjhemhmfoaaGreatDoorAmE
section
/- The machine at this program, with the small functions' answers known. -/
set_option linter.unusedSimpArgs false
set_option linter.unusedVariables false
namespace Go.AM
open Go Go.Proofs
set_option maxRecDepth 10000

/-! ### What is kept -/
structure Evt where
  no : Int
  known : Int
  day : Int
  kind : Int
  right : Int
  holder : Int
  valley : Int
  fr : Int
  to : Int
  claim : Int
  deriving DecidableEq
structure Rt where
  no : Int
  holder : Int
  age : Int
  valley : Int
  fr : Int
  to : Int
  claim : Int
  deriving DecidableEq
structure Su where
  valley : Int
  day : Int
  vol : Int
  deriving DecidableEq
structure Po where
  valley : Int
  room : Int
  deriving DecidableEq
structure Dw where
  right : Int
  day : Int
  vol : Int
  deriving DecidableEq
abbrev ii (n : Int) : Sc := .int .i64 n
def Evt.c (e : Evt) : List Sc := [.int .i64 e.no, .int .i64 e.known, .int .i64 e.day, .int .i64 e.kind, .int .i64 e.right, .int .i64 e.holder, .int .i64 e.valley, .int .i64 e.fr, .int .i64 e.to, .int .i64 e.claim]
def Rt.c (r : Rt) : List Sc := [.int .i64 r.no, .int .i64 r.holder, .int .i64 r.age, .int .i64 r.valley, .int .i64 r.fr, .int .i64 r.to, .int .i64 r.claim]
def Su.c (s : Su) : List Sc := [.int .i64 s.valley, .int .i64 s.day, .int .i64 s.vol]
def Po.c (p : Po) : List Sc := [.int .i64 p.valley, .int .i64 p.room]
def Dw.c (d : Dw) : List Sc := [.int .i64 d.right, .int .i64 d.day, .int .i64 d.vol]
def iA (n : Int) : AV := .one (.int .i64 n)
def bA (b : Bool) : AV := .one (.bool b)

def isNum (n : Int) : Bool := decide (n ≥ 0) && decide (n ≤ 4095)
def isDay (n : Int) : Bool := decide (n ≥ 0) && decide (n ≤ 1048576)
def isVol (n : Int) : Bool := decide (n ≥ 0) && decide (n ≤ 1099511627776)
def win (r : Rt) (x : Su) : Bool := (r.valley == x.valley) && (decide (r.fr ≤ x.day) && decide (x.day ≤ r.to))
def w64 (n : Int) : Int := IntKind.i64.wrap n
def elderI (a b : Rt) : Int := if a.age ≠ b.age then w64 (a.age - b.age) else w64 (a.no - b.no)
def olderB (a b : Rt) : Bool := decide (a.age < b.age) || ((a.age == b.age) && decide (a.no < b.no))

noncomputable section
def boolE (f : Int → Bool) : List AV → Option AV
  | [.one (.int .i64 n)] => some (.one (.bool (f n)))
  | _ => none
def winE : List AV → Option AV
  | [.agg [.int .i64 a, .int .i64 b, .int .i64 c, .int .i64 d, .int .i64 e, .int .i64 f, .int .i64 g], .agg [.int .i64 x, .int .i64 y, .int .i64 z]] => some (.one (.bool (win ⟨a, b, c, d, e, f, g⟩ ⟨x, y, z⟩)))
  | _ => none
def rr (f : Rt → Rt → Sc) : List AV → Option AV
  | [.agg [.int .i64 a, .int .i64 b, .int .i64 c, .int .i64 d, .int .i64 e, .int .i64 f', .int .i64 g], .agg [.int .i64 a', .int .i64 b', .int .i64 c', .int .i64 d', .int .i64 e', .int .i64 f'', .int .i64 g']] => some (.one (f ⟨a, b, c, d, e, f', g⟩ ⟨a', b', c', d', e', f'', g'⟩))
  | _ => none
end
theorem z0 : ZeroFlat env0 := fun t => by
  rw [env0_T]
  exact zeroFlat_tyOf _ t

theorem c_number (n : Int) : Ct0 env0 86 [.one (.int .i64 n)] [] 0 (.one (.bool (isNum n))) := by
  refine Ct.of z0 (fn := Tryz.f86) (by kernel_rfl) (by kernel_rfl) rfl rfl ?_
  repeat' first
    | (rename_i h; exact absurd h (by decide))
    | (refine Rn.fin0 z0 1000 rfl rfl rfl rfl ?_; first | rfl | (simp [isNum, *]; done) | (simp_all [isNum]; done))
    | refine Rn.split z0 1000 rfl (fun h => ?_) (fun h => ?_)

theorem c_day (n : Int) : Ct0 env0 87 [.one (.int .i64 n)] [] 0 (.one (.bool (isDay n))) := by
  refine Ct.of z0 (fn := Tryz.f87) (by kernel_rfl) (by kernel_rfl) rfl rfl ?_
  repeat' first
    | (rename_i h; exact absurd h (by decide))
    | (refine Rn.fin0 z0 1000 rfl rfl rfl rfl ?_; first | rfl | (simp [isDay, *]; done) | (simp_all [isDay]; done))
    | refine Rn.split z0 1000 rfl (fun h => ?_) (fun h => ?_)

theorem c_volume (n : Int) : Ct0 env0 105 [.one (.int .i64 n)] [] 0 (.one (.bool (isVol n))) := by
  refine Ct.of z0 (fn := Tryz.f105) (by kernel_rfl) (by kernel_rfl) rfl rfl ?_
  repeat' first
    | (rename_i h; exact absurd h (by decide))
    | (refine Rn.fin0 z0 1000 rfl rfl rfl rfl ?_; first | rfl | (simp [isVol, *]; done) | (simp_all [isVol]; done))
    | refine Rn.split z0 1000 rfl (fun h => ?_) (fun h => ?_)

theorem c_rnumber (n : Int) : Ct0 env0 93 [.one (.int .i64 n)] [] 0 (.one (.bool (isNum n))) := by
  refine Ct.of z0 (fn := Tryz.f93) (by kernel_rfl) (by kernel_rfl) rfl rfl ?_
  repeat' first
    | (rename_i h; exact absurd h (by decide))
    | (refine Rn.fin0 z0 1000 rfl rfl rfl rfl ?_; first | rfl | (simp [isNum, *]; done) | (simp_all [isNum]; done))
    | refine Rn.split z0 1000 rfl (fun h => ?_) (fun h => ?_)

theorem c_rday (n : Int) : Ct0 env0 94 [.one (.int .i64 n)] [] 0 (.one (.bool (isDay n))) := by
  refine Ct.of z0 (fn := Tryz.f94) (by kernel_rfl) (by kernel_rfl) rfl rfl ?_
  repeat' first
    | (rename_i h; exact absurd h (by decide))
    | (refine Rn.fin0 z0 1000 rfl rfl rfl rfl ?_; first | rfl | (simp [isDay, *]; done) | (simp_all [isDay]; done))
    | refine Rn.split z0 1000 rfl (fun h => ?_) (fun h => ?_)

theorem c_rclaim (n : Int) : Ct0 env0 111 [.one (.int .i64 n)] [] 0 (.one (.bool (isVol n))) := by
  refine Ct.of z0 (fn := Tryz.f111) (by kernel_rfl) (by kernel_rfl) rfl rfl ?_
  repeat' first
    | (rename_i h; exact absurd h (by decide))
    | (refine Rn.fin0 z0 1000 rfl rfl rfl rfl ?_; first | rfl | (simp [isVol, *]; done) | (simp_all [isVol]; done))
    | refine Rn.split z0 1000 rfl (fun h => ?_) (fun h => ?_)

theorem c_within (r : Rt) (x : Su) : Ct0 env0 79 [.agg r.c, .agg x.c] [] 0 (.one (.bool (win r x))) := by
  refine Ct.of z0 (fn := Tryz.f79) (by kernel_rfl) (by kernel_rfl) rfl rfl ?_
  repeat' first
    | (rename_i h; exact absurd h (by decide))
    | (refine Rn.fin0 z0 1000 rfl rfl rfl rfl ?_; first | rfl | (simp [win, *]; done) | (simp_all [win]; done))
    | refine Rn.split z0 1000 rfl (fun h => ?_) (fun h => ?_)

theorem c_reaches (r : Rt) (x : Su) : Ct0 env0 84 [.agg r.c, .agg x.c] [] 0 (.one (.bool (win r x))) := by
  refine Ct.of z0 (fn := Tryz.f84) (by kernel_rfl) (by kernel_rfl) rfl rfl ?_
  repeat' first
    | (rename_i h; exact absurd h (by decide))
    | (refine Rn.fin0 z0 1000 rfl rfl rfl rfl ?_; first | rfl | (simp [win, *]; done) | (simp_all [win]; done))
    | refine Rn.split z0 1000 rfl (fun h => ?_) (fun h => ?_)

theorem c_elder (a b : Rt) : Ct0 env0 106 [.agg a.c, .agg b.c] [] 0 (.one (.int .i64 (elderI a b))) := by
  refine Ct.of z0 (fn := Tryz.f106) (by kernel_rfl) (by kernel_rfl) rfl rfl ?_
  repeat' first
    | (rename_i h; exact absurd h (by decide))
    | (refine Rn.fin0 z0 1000 rfl rfl rfl rfl ?_; first | rfl | (simp [elderI, w64, *]; done) | (simp_all [elderI, w64]; done))
    | refine Rn.split z0 1000 rfl (fun h => ?_) (fun h => ?_)

theorem c_older (a b : Rt) : Ct0 env0 110 [.agg a.c, .agg b.c] [] 0 (.one (.bool (olderB a b))) := by
  refine Ct.of z0 (fn := Tryz.f110) (by kernel_rfl) (by kernel_rfl) rfl rfl ?_
  repeat' first
    | (rename_i h; exact absurd h (by decide))
    | (refine Rn.fin0 z0 1000 rfl rfl rfl rfl ?_; first | rfl | (simp [olderB, *]; done) | (simp_all [olderB]; done))
    | refine Rn.split z0 1000 rfl (fun h => ?_) (fun h => ?_)

/-! ### The machine that is told the small functions' answers -/
noncomputable def numE := boolE isNum
noncomputable def dayE := boolE isDay
noncomputable def volE := boolE isVol
noncomputable def elderE := rr fun a b => .int .i64 (elderI a b)
noncomputable def olderE := rr fun a b => .bool (olderB a b)
noncomputable def setA (f : Nat) : Option (List AV → Option AV) := bif Nat.beq f 86 then some numE else bif Nat.beq f 87 then some dayE else bif Nat.beq f 105 then some volE else bif Nat.beq f 93 then some numE else bif Nat.beq f 94 then some dayE else bif Nat.beq f 111 then some volE else
  bif Nat.beq f 79 then some winE else bif Nat.beq f 84 then some winE else bif Nat.beq f 106 then some elderE else bif Nat.beq f 110 then some olderE else extA f
noncomputable def envA : Env := ⟨tyOf Tryz.prog, fun f => Tryz.prog.funcs[f]?, setA, eqT, fun f => memB f wrL⟩

theorem addE {X : Env} {f : FuncId} {g : List AV → Option AV} (h : ∀ args v, g args = some v → allB AV.flat args = true ∧ v.flat = true ∧ Ct0 X f args [] 0 v) : ∀ args v, g args = some v → v.flat = true → allB AV.flat args = true ∧ ∃ h', CallsA X f args hE v h' := fun args v hg hv => by
  obtain ⟨h1, h2, h3⟩ := h args v hg
  exact ⟨h1, h3.callsE h1 h2⟩
/-- Answers of more functions. -/
theorem EnvOK.more {P0 : Program} {X : Env} (hX : EnvOK P0 X) (l : List (Nat × (List AV → Option AV))) (hl : ∀ x ∈ l, (∃ fn, X.F x.1 = some fn ∧ fn.body.isNone = false) ∧ ∀ args v, x.2 args = some v → v.flat = true → allB AV.flat args = true ∧ ∃ h', CallsA X x.1 args hE v h') (E' : FuncId → Option (List AV → Option AV)) (hE' : ∀ f g, E' f = some g → (f, g) ∈ l ∨ X.E f = some g) :
    EnvOK P0 { X with E := E' } where
  mixed := hX.mixed
  T := hX.T
  eq := hX.eq
  F := hX.F
  E f g args v h1 h2 h3 := by
    rcases hE' f g h1 with hm | hm
    · obtain ⟨⟨fn, hF, hn⟩, hg⟩ := hl _ hm
      exact (hX.add hF hn hg).E f g args v (by show (bif Nat.beq f f then some g else X.E f) = some g; simp) h2 h3
    · exact hX.E f g args v hm h2 h3
theorem boolE_ok {X : Env} {f : FuncId} {p : Int → Bool} (h : ∀ n, Ct0 X f [.one (.int .i64 n)] [] 0 (.one (.bool (p n)))) : ∀ args v, boolE p args = some v → allB AV.flat args = true ∧ v.flat = true ∧ Ct0 X f args [] 0 v := fun args v hg => by
  unfold boolE at hg
  split at hg
  · injection hg with hg; subst hg; exact ⟨rfl, rfl, h _⟩
  · cases hg
theorem winE_ok {X : Env} {f : FuncId} (h : ∀ r x, Ct0 X f [.agg (Rt.c r), .agg (Su.c x)] [] 0 (.one (.bool (win r x)))) : ∀ args v, winE args = some v → allB AV.flat args = true ∧ v.flat = true ∧ Ct0 X f args [] 0 v := fun args v hg => by
  unfold winE at hg
  split at hg
  · injection hg with hg; subst hg; exact ⟨rfl, rfl, h ⟨_, _, _, _, _, _, _⟩ ⟨_, _, _⟩⟩
  · cases hg
theorem rr_ok {X : Env} {f : FuncId} {p : Rt → Rt → Sc} (hp : ∀ a b, flatSc (p a b) = true) (h : ∀ a b, Ct0 X f [.agg (Rt.c a), .agg (Rt.c b)] [] 0 (.one (p a b))) : ∀ args v, rr p args = some v → allB AV.flat args = true ∧ v.flat = true ∧ Ct0 X f args [] 0 v := fun args v hg => by
  unfold rr at hg
  split at hg
  · injection hg with hg; subst hg; exact ⟨rfl, hp _ _, h ⟨_, _, _, _, _, _, _⟩ ⟨_, _, _, _, _, _, _⟩⟩
  · cases hg
theorem listA : ∀ x ∈ ([(86, numE), (87, dayE), (105, volE), (93, numE), (94, dayE), (111, volE), (79, winE), (84, winE), (106, elderE), (110, olderE)] : List (Nat × (List AV → Option AV))), (∃ fn, env0.F x.1 = some fn ∧ fn.body.isNone = false) ∧ ∀ args v, x.2 args = some v → v.flat = true → allB AV.flat args = true ∧ ∃ h', CallsA env0 x.1 args hE v h' := by
  intro x hx
  simp only [List.mem_cons, List.not_mem_nil, or_false] at hx
  rcases hx with rfl | rfl | rfl | rfl | rfl | rfl | rfl | rfl | rfl | rfl
  · exact ⟨⟨Tryz.f86, (by kernel_rfl), rfl⟩, addE (boolE_ok c_number)⟩
  · exact ⟨⟨Tryz.f87, (by kernel_rfl), rfl⟩, addE (boolE_ok c_day)⟩
  · exact ⟨⟨Tryz.f105, (by kernel_rfl), rfl⟩, addE (boolE_ok c_volume)⟩
  · exact ⟨⟨Tryz.f93, (by kernel_rfl), rfl⟩, addE (boolE_ok c_rnumber)⟩
  · exact ⟨⟨Tryz.f94, (by kernel_rfl), rfl⟩, addE (boolE_ok c_rday)⟩
  · exact ⟨⟨Tryz.f111, (by kernel_rfl), rfl⟩, addE (boolE_ok c_rclaim)⟩
  · exact ⟨⟨Tryz.f79, (by kernel_rfl), rfl⟩, addE (winE_ok c_within)⟩
  · exact ⟨⟨Tryz.f84, (by kernel_rfl), rfl⟩, addE (winE_ok c_reaches)⟩
  · exact ⟨⟨Tryz.f106, (by kernel_rfl), rfl⟩, addE (rr_ok (fun _ _ => rfl) c_elder)⟩
  · exact ⟨⟨Tryz.f110, (by kernel_rfl), rfl⟩, addE (rr_ok (fun _ _ => rfl) c_older)⟩
theorem envA_ok : EnvOK Tryz.prog envA := by
  refine (env0_ok.more _ listA setA fun f g h => ?_ : EnvOK Tryz.prog { env0 with E := setA })
  unfold setA at h
  have two : ∀ {n : Nat} {f : Nat} {g g0 : List AV → Option AV} {r : Option (List AV → Option AV)}, (bif Nat.beq f n then some g0 else r) = some g → (f = n ∧ g = g0) ∨ r = some g := fun {n f g g0 r} h => by
    cases hb : Nat.beq f n with
    | true => rw [hb] at h; injection h with h; exact .inl ⟨Nat.eq_of_beq_eq_true hb, h.symm⟩
    | false => rw [hb] at h; exact .inr h
  rcases two h with ⟨rfl, rfl⟩ | h
  · exact .inl (by simp)
  rcases two h with ⟨rfl, rfl⟩ | h
  · exact .inl (by simp)
  rcases two h with ⟨rfl, rfl⟩ | h
  · exact .inl (by simp)
  rcases two h with ⟨rfl, rfl⟩ | h
  · exact .inl (by simp)
  rcases two h with ⟨rfl, rfl⟩ | h
  · exact .inl (by simp)
  rcases two h with ⟨rfl, rfl⟩ | h
  · exact .inl (by simp)
  rcases two h with ⟨rfl, rfl⟩ | h
  · exact .inl (by simp)
  rcases two h with ⟨rfl, rfl⟩ | h
  · exact .inl (by simp)
  rcases two h with ⟨rfl, rfl⟩ | h
  · exact .inl (by simp)
  rcases two h with ⟨rfl, rfl⟩ | h
  · exact .inl (by simp)
  exact .inr h
theorem zA : ZeroFlat envA := z0

/-! ### The next ones -/
def rightB (r : Rt) : Bool := isNum r.no && isNum r.holder && isNum r.valley && isDay r.age && isDay r.fr && isDay r.to && isVol r.claim && decide (r.fr ≤ r.to)
/-- Is an event well-formed? -/
def fineEv (e : Evt) : Bool := isNum e.no && isDay e.known && isDay e.day && isNum e.right && isNum e.holder &&
  (if e.kind = 1 then isNum e.valley && isDay e.fr && isDay e.to && isVol e.claim && decide (e.fr ≤ e.to)
   else (e.valley == 0) && (e.fr == 0) && (e.to == 0) && (e.claim == 0) && ((e.kind == 2) || (((e.kind == 3) || (e.kind == 4) || (e.kind == 5)) && (e.holder == 0))))
def ckEv (e : Evt) : Int := if fineEv e then 0 else 80
theorem c_right (r : Rt) : Ct0 envA 109 [.agg r.c] [] 0 (.one (.bool (rightB r))) := by
  refine Ct.of zA (fn := Tryz.f109) (by kernel_rfl) (by kernel_rfl) rfl rfl ?_
  repeat' first
    | (rename_i h; exact absurd h (by decide))
    | (refine Rn.fin0 zA 1000 rfl rfl rfl rfl ?_; first | rfl | (simp [rightB, *]; done) | (simp_all [rightB]; done))
    | refine Rn.split zA 1000 rfl (fun h => ?_) (fun h => ?_)


end Go.AM
end

section
/- Walks: CheckEvent of both. -/
set_option linter.unusedSimpArgs false
set_option linter.unusedVariables false
namespace Go.AM
open Go Go.Proofs
set_option maxRecDepth 10000
set_option maxHeartbeats 1000000

theorem c_checkEvent (e : Evt) : Ct0 envA 56 [.agg e.c] [] 0 (.one (.int .i64 (ckEv e))) := by
  refine Ct.of zA (fn := Tryz.f56) (by kernel_rfl) (by kernel_rfl) rfl rfl ?_
  have k1 : isNum e.valley = false → e.valley ≠ 0 := fun h h0 => by rw [h0] at h; cases h
  have k2 : isDay e.fr = false → e.fr ≠ 0 := fun h h0 => by rw [h0] at h; cases h
  have k3 : isDay e.to = false → e.to ≠ 0 := fun h h0 => by rw [h0] at h; cases h
  have k4 : isVol e.claim = false → e.claim ≠ 0 := fun h h0 => by rw [h0] at h; cases h
  repeat' first
    | (rename_i h; exact absurd h (by decide))
    | (refine Rn.fin0 zA 1000 rfl rfl rfl rfl ?_; first | (simp [ckEv, fineEv, *]; done) | (simp_all [ckEv, fineEv]; done) | (by_cases hk : e.kind = 1 <;> simp_all [ckEv, fineEv] <;> omega) | skip)
    | refine Rn.split zA 1000 rfl (fun h => ?_) (fun h => ?_)


theorem c_rcheckEvent (e : Evt) : Ct0 envA 57 [.agg e.c] [] 0 (.one (.int .i64 (ckEv e))) := by
  refine Ct.of zA (fn := Tryz.f57) (by kernel_rfl) (by kernel_rfl) rfl rfl ?_
  have k1 : isNum e.valley = false → e.valley ≠ 0 := fun h h0 => by rw [h0] at h; cases h
  have k2 : isDay e.fr = false → e.fr ≠ 0 := fun h h0 => by rw [h0] at h; cases h
  have k3 : isDay e.to = false → e.to ≠ 0 := fun h h0 => by rw [h0] at h; cases h
  have k4 : isVol e.claim = false → e.claim ≠ 0 := fun h h0 => by rw [h0] at h; cases h
  repeat' first
    | (rename_i h; exact absurd h (by decide))
    | (refine Rn.fin0 zA 1000 rfl rfl rfl rfl ?_; first | (simp [ckEv, fineEv, *]; done) | (simp_all [ckEv, fineEv]; done) | (by_cases hk : e.kind = 1 <;> simp_all [ckEv, fineEv] <;> omega) | skip)
    | refine Rn.split zA 1000 rfl (fun h => ?_) (fun h => ?_)

end Go.AM
end

section
/- The machine at this program, with the answers of 'sane' and of CheckEvent known. -/
set_option linter.unusedSimpArgs false
set_option linter.unusedVariables false
namespace Go.AM
open Go Go.Proofs
set_option maxRecDepth 10000

noncomputable section
def saneE : List AV → Option AV
  | [] => some (.one (.bool true))
  | _ => none
def rightE : List AV → Option AV
  | [.agg [.int .i64 a, .int .i64 b, .int .i64 c, .int .i64 d, .int .i64 e, .int .i64 f, .int .i64 g]] => some (.one (.bool (rightB ⟨a, b, c, d, e, f, g⟩)))
  | _ => none
def evtE : List AV → Option AV
  | [.agg [.int .i64 a, .int .i64 b, .int .i64 c, .int .i64 d, .int .i64 e, .int .i64 f, .int .i64 g, .int .i64 h, .int .i64 i, .int .i64 j]] => some (.one (.int .i64 (ckEv ⟨a, b, c, d, e, f, g, h, i, j⟩)))
  | _ => none
def setB (f : Nat) : Option (List AV → Option AV) := bif Nat.beq f 17 then some saneE else bif Nat.beq f 109 then some rightE else bif Nat.beq f 56 then some evtE else bif Nat.beq f 57 then some evtE else setA f
def envB : Env := ⟨tyOf Tryz.prog, fun f => Tryz.prog.funcs[f]?, setB, eqT, fun f => memB f wrL⟩
end
theorem zB : ZeroFlat envB := z0
theorem rightE_ok : ∀ args v, rightE args = some v → allB AV.flat args = true ∧ v.flat = true ∧ Ct0 envA 109 args [] 0 v := fun args v hg => by
  unfold rightE at hg
  split at hg
  · injection hg with hg; subst hg; exact ⟨rfl, rfl, c_right ⟨_, _, _, _, _, _, _⟩⟩
  · cases hg
theorem evtE_ok {f : FuncId} (h : ∀ e, Ct0 envA f [.agg (Evt.c e)] [] 0 (.one (.int .i64 (ckEv e)))) : ∀ args v, evtE args = some v → allB AV.flat args = true ∧ v.flat = true ∧ Ct0 envA f args [] 0 v := fun args v hg => by
  unfold evtE at hg
  split at hg
  · injection hg with hg; subst hg; exact ⟨rfl, rfl, h ⟨_, _, _, _, _, _, _, _, _, _⟩⟩
  · cases hg
/-- Given that 'sane' answers true. -/
theorem envB_ok (hs : ∃ h', CallsA envA 17 [] hE (.one (.bool true)) h') : EnvOK Tryz.prog envB := by
  refine (envA_ok.more [(17, saneE), (109, rightE), (56, evtE), (57, evtE)] (fun x hx => ?_) setB fun f g h => ?_ : EnvOK Tryz.prog { envA with E := setB })
  · simp only [List.mem_cons, List.not_mem_nil, or_false] at hx
    rcases hx with rfl | rfl | rfl | rfl
    · refine ⟨⟨Tryz.f17, (by kernel_rfl), rfl⟩, fun args v hg _ => ?_⟩
      have hg : saneE args = some v := hg
      unfold saneE at hg
      split at hg
      · injection hg with hg; subst hg; exact ⟨rfl, hs⟩
      · cases hg
    · exact ⟨⟨Tryz.f109, (by kernel_rfl), rfl⟩, addE rightE_ok⟩
    · exact ⟨⟨Tryz.f56, (by kernel_rfl), rfl⟩, addE (evtE_ok c_checkEvent)⟩
    · exact ⟨⟨Tryz.f57, (by kernel_rfl), rfl⟩, addE (evtE_ok c_rcheckEvent)⟩
  · unfold setB at h
    have two : ∀ {n : Nat} {f : Nat} {g g0 : List AV → Option AV} {r : Option (List AV → Option AV)}, (bif Nat.beq f n then some g0 else r) = some g → (f = n ∧ g = g0) ∨ r = some g := fun {n f g g0 r} h => by
      cases hb : Nat.beq f n with
      | true => rw [hb] at h; injection h with h; exact .inl ⟨Nat.eq_of_beq_eq_true hb, h.symm⟩
      | false => rw [hb] at h; exact .inr h
    rcases two h with ⟨rfl, rfl⟩ | h
    · exact .inl (by simp)
    rcases two h with ⟨rfl, rfl⟩ | h
    · exact .inl (by simp)
    rcases two h with ⟨rfl, rfl⟩ | h
    · exact .inl (by simp)
    rcases two h with ⟨rfl, rfl⟩ | h
    · exact .inl (by simp)
    exact .inr h

/-! ### The lists -/
theorem eEvt : Elt Evt.c 10 := ⟨fun _ => rfl, fun _ => rfl⟩
theorem eRt : Elt Rt.c 7 := ⟨fun _ => rfl, fun _ => rfl⟩
theorem eSu : Elt Su.c 3 := ⟨fun _ => rfl, fun _ => rfl⟩
theorem ePo : Elt Po.c 2 := ⟨fun _ => rfl, fun _ => rfl⟩
theorem eDw : Elt Dw.c 3 := ⟨fun _ => rfl, fun _ => rfl⟩
def iC (n : Int) : List Sc := [.int .i64 n]
def bC (b : Bool) : List Sc := [.bool b]
theorem eI : Elt iC 1 := ⟨fun _ => rfl, fun _ => rfl⟩
theorem eB : Elt bC 1 := ⟨fun _ => rfl, fun _ => rfl⟩
/-- A slice. -/
abbrev slA (j o n : Nat) (full : Bool) (sz : Nat) : AV := .one (.sl (some (j, o)) n full sz)
theorem w64_id {n : Int} (h1 : -9223372036854775808 ≤ n) (h2 : n < 9223372036854775808) : IntKind.wrap .i64 n = n := by
  unfold IntKind.wrap
  simp [IntKind.bits, IntKind.signed]
  omega

end Go.AM
end
