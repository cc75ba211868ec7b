/- The machine, third part. -/
import Derived.Test.YtlkbcjhemhmfoaaGreatDoorMb
section
/- A region whose order is drawn: whatever the order, the run of the model comes to what the machine's run in the text's order says. No program here. -/
set_option linter.unusedSimpArgs false
set_option linter.unusedVariables false
namespace Go.AM
open Go

/-! ### What the edges say -/
theorem foldBits (f : Nat → Nat) : ∀ (es : List Edge) (s0 i : Nat), (es.foldl (fun s e => if Region.binds .any e then s ||| 2 ^ e.on ||| f e.on else s) s0).testBit i = true →
    s0.testBit i = true ∨ ∃ e ∈ es, Region.binds .any e = true ∧ (i = e.on ∨ (f e.on).testBit i = true)
  | [], s0, i, h => .inl h
  | e :: es, s0, i, h => by
    rw [List.foldl_cons] at h
    rcases foldBits f es _ i h with h | ⟨e', he', hb, h⟩
    · split at h
      · rename_i hb
        rw [Nat.testBit_or, Nat.testBit_or, Bool.or_eq_true, Bool.or_eq_true] at h
        rcases h with (h | h) | h
        · exact .inl h
        · rw [Nat.testBit_two_pow] at h
          exact .inr ⟨e, by simp, hb, .inl (by simpa using (of_decide_eq_true h).symm)⟩
        · exact .inr ⟨e, by simp, hb, .inr h⟩
      · exact .inl h
    · exact .inr ⟨e', by simp [he'], hb, h⟩

theorem befFrom_spec : ∀ (rest : List Oper) (acc : List Nat), (∀ i, i < acc.length → (befFrom rest acc).getD i 0 = acc.getD i 0) ∧
    (∀ k o, rest[k]? = some o → ∀ i, ((befFrom rest acc).getD (acc.length + k) 0).testBit i = true → ∃ e ∈ o.after.toList, Region.binds .any e = true ∧ (i = e.on ∨ ((befFrom rest acc).getD e.on 0).testBit i = true))
  | [], acc => ⟨fun _ _ => rfl, fun k o h => by simp at h⟩
  | o :: rest, acc => by
    obtain ⟨h1, h2⟩ := befFrom_spec rest (acc ++ [o.after.toList.foldl (fun s e => if Region.binds .any e then s ||| 2 ^ e.on ||| acc.getD e.on 0 else s) 0])
    rw [List.length_append, List.length_singleton] at h1 h2
    have keep : ∀ i, i < acc.length → (befFrom (o :: rest) acc).getD i 0 = acc.getD i 0 := fun i hi => by
      rw [befFrom, h1 i (by omega), List.getD_eq_getElem?_getD, List.getElem?_append_left hi, ← List.getD_eq_getElem?_getD]
    refine ⟨keep, fun k o' hk i hb => ?_⟩
    cases k with
    | zero =>
      simp at hk
      subst hk
      have e : (befFrom (o :: rest) acc).getD (acc.length + 0) 0 = o.after.toList.foldl (fun s e => if Region.binds .any e then s ||| 2 ^ e.on ||| acc.getD e.on 0 else s) 0 := by
        rw [befFrom, h1 _ (by omega), List.getD_eq_getElem?_getD, List.getElem?_append_right (by omega)]
        simp
      rw [e] at hb
      rcases foldBits (fun i => acc.getD i 0) _ 0 i hb with hb | ⟨e', he', hbi, hb⟩
      · simp at hb
      · refine ⟨e', he', hbi, hb.imp id fun hb => ?_⟩
        by_cases hl : e'.on < acc.length
        · rw [keep _ hl]; exact hb
        · rw [List.getD_eq_getElem?_getD, List.getElem?_eq_none (by omega)] at hb
          simp at hb
    | succ k =>
      have hk' : rest[k]? = some o' := by simpa using hk
      have := h2 k o' hk' i (by rw [befFrom] at hb; rw [show acc.length + 1 + k = acc.length + (k + 1) by omega]; exact hb)
      rw [befFrom]
      exact this

theorem befs_spec {ops : List Oper} {j : Nat} {o : Oper} (ho : ops[j]? = some o) {i : Nat} (h : ((befs ops).getD j 0).testBit i = true) : ∃ e ∈ o.after.toList, Region.binds .any e = true ∧ (i = e.on ∨ ((befs ops).getD e.on 0).testBit i = true) := by
  have := (befFrom_spec ops []).2 j o ho i
  simp only [List.length_nil, Nat.zero_add] at this
  exact this h

/-- The facts that the static look gives. -/
structure Stat (X : Env) (ops : List Oper) : Prop where
  edge : ∀ j o, ops[j]? = some o → ∀ e ∈ o.after.toList, Region.binds .any e = true → e.on < j
  pair : ∀ i j oi oj, i < j → ops[i]? = some oi → ops[j]? = some oj → ((befs ops).getD j 0).testBit i = true ∨
    ((∀ d, oi.dst = some d → d ∉ oj.looksAt ops.toArray ∧ oj.dst ≠ some d) ∧ (∀ d, oj.dst = some d → d ∉ oi.looksAt ops.toArray) ∧ ¬ (isW X oi.op = true ∧ (isW X oj.op = true ∨ isCall oj.op = true)) ∧ ¬ (isW X oj.op = true ∧ isCall oi.op = true))

theorem upTo_mem {n : Nat} {p : Nat → Bool} (h : upTo n p = true) {i : Nat} (hi : i < n) : p i = true := allB_mem h (List.mem_range.2 hi)

theorem stat_of {X : Env} {ops : List Oper} (h : drawOK X ops = true) : Stat X ops := by
  have at_ : ∀ j o, ops[j]? = some o → j < ops.length ∧ ops.getD j default = o := fun j o ho => ⟨(List.getElem?_eq_some_iff.1 ho).1, by rw [List.getD_eq_getElem?_getD, ho]; rfl⟩
  unfold drawOK at h
  refine ⟨fun j o ho e he hb => ?_, fun i j oi oj hij hi hj => ?_⟩
  · obtain ⟨hlt, hg⟩ := at_ j o ho
    have := upTo_mem h hlt
    simp only [Bool.and_eq_true] at this
    rw [hg] at this
    have h1 := allB_mem this.1.1 he
    simpa [hb] using h1
  · obtain ⟨hlt, hgj⟩ := at_ j oj hj
    obtain ⟨_, hgi⟩ := at_ i oi hi
    have := upTo_mem h hlt
    simp only [Bool.and_eq_true] at this
    have h2 := upTo_mem this.2 hij
    rw [hgj, hgi] at h2
    rw [Bool.or_eq_true] at h2
    rcases h2 with h2 | h2
    · exact .inl h2
    · right
      simp only [Bool.and_eq_true] at h2
      obtain ⟨⟨⟨h3, h4⟩, h5⟩, h6⟩ := h2
      refine ⟨fun d hd => ?_, fun d hd => ?_, ?_, ?_⟩
      · rw [hd] at h3
        simpa using h3
      · rw [hd] at h4
        simpa using h4
      · rintro ⟨hw, hw'⟩
        rcases hw' with hw' | hw' <;> simp [hw, hw'] at h5
      · rintro ⟨hw, hw'⟩
        simp [hw, hw'] at h6

theorem bef_lt {X : Env} {ops : List Oper} (st : Stat X ops) : ∀ (j : Nat) (o : Oper), ops[j]? = some o → ∀ i, ((befs ops).getD j 0).testBit i = true → i < j := by
  intro j
  induction j using Nat.strongRecOn with
  | _ j ih =>
    intro o ho i hb
    obtain ⟨e, he, hbi, hi⟩ := befs_spec ho hb
    have hlt := st.edge j o ho e he hbi
    rcases hi with rfl | hi
    · exact hlt
    · have hlt2 : e.on < ops.length := by have := (List.getElem?_eq_some_iff.1 ho).1; omega
      have := ih e.on hlt _ (List.getElem?_eq_getElem hlt2) i hi
      omega

section
variable {P : Program} {X : Env} {cf : CallF} {nt c : Nat} {ops : List Oper} {S : Nat → DS}

/-- The blocks' contents that stay from one place of the text to another. -/
theorem stay (hS : ∀ j o, ops[j]? = some o → DStep X cf nt c ops j o (S j) (S (j + 1))) {x : Nat} {a : Nat} (hN : ∀ j, NId c ops x j → j < a) :
    ∀ b, a ≤ b → b ≤ ops.length → (∀ k, a ≤ k → k < b → WW X ops S k → ∃ j, NId c ops x j ∧ ((befs ops).getD k 0).testBit j = false) → (S b).h.get x = (S a).h.get x := by
  intro b hab
  induction b with
  | zero => intro _ _; have : a = 0 := by omega
            subst this; rfl
  | succ b ih =>
    intro hb hw
    by_cases e : a = b + 1
    · subst e; rfl
    · have ih' := ih (by omega) (by omega) fun k h1 h2 => hw k h1 (by omega)
      rw [← ih']
      have ho : ops[b]? = some (ops[b]'(by omega)) := List.getElem?_eq_getElem (by omega)
      generalize ops[b]'(by omega) = o at ho
      have hstep := hS b o ho
      by_cases hww : isW X o.op = true ∧ wantedA ops (S b).fr o = some true
      · obtain ⟨j, ⟨hx, oj, hoj, hnj⟩, hbit⟩ := hw b (by omega) (by omega) ⟨o, ho, hww.1, hww.2⟩
        obtain ⟨v, h', _, hh, _⟩ := hstep.write hww.1 hww.2
        rw [hh, unmaskH_get, if_pos]
        have hjl := (List.getElem?_eq_some_iff.1 hoj).1
        refine ⟨j, mem_maskOf.2 ⟨hjl, ?_, hbit⟩, hx⟩
        rw [List.getD_eq_getElem?_getD, hoj]; exact hnj
      · exact (hstep.heap hww).2.2 x fun hn hxe => by
          have := hN b ⟨hxe, o, ho, hn⟩
          omega

theorem stay_nx (hS : ∀ j o, ops[j]? = some o → DStep X cf nt c ops j o (S j) (S (j + 1))) {a : Nat} :
    ∀ b, a ≤ b → b ≤ ops.length → (∀ k, a ≤ k → k < b → ¬ WW X ops S k) → (S b).h.nx = (S a).h.nx ∧ (S b).h.ro = (S a).h.ro := by
  intro b hab
  induction b with
  | zero => intro _ _; have : a = 0 := by omega
            subst this; exact ⟨rfl, rfl⟩
  | succ b ih =>
    intro hb hw
    by_cases e : a = b + 1
    · subst e; exact ⟨rfl, rfl⟩
    · obtain ⟨i1, i2⟩ := ih (by omega) (by omega) fun k h1 h2 => hw k h1 (by omega)
      rw [← i1, ← i2]
      have ho : ops[b]? = some (ops[b]'(by omega)) := List.getElem?_eq_getElem (by omega)
      generalize ops[b]'(by omega) = o at ho
      have := (hS b o ho).heap fun hww => hw b (by omega) (by omega) ⟨o, ho, hww.1, hww.2⟩
      exact ⟨this.1, this.2.1⟩

theorem slot_stay (hS : ∀ j o, ops[j]? = some o → DStep X cf nt c ops j o (S j) (S (j + 1))) {t : Tmp} {a : Nat} :
    ∀ b, a ≤ b → b ≤ ops.length → (∀ k o, a ≤ k → k < b → ops[k]? = some o → o.dst ≠ some t) → (S b).fr.get t = (S a).fr.get t := by
  intro b hab
  induction b with
  | zero => intro _ _; have : a = 0 := by omega
            subst this; rfl
  | succ b ih =>
    intro hb hw
    by_cases e : a = b + 1
    · subst e; rfl
    · rw [← ih (by omega) (by omega) fun k o h1 h2 => hw k o h1 (by omega)]
      have ho : ops[b]? = some (ops[b]'(by omega)) := List.getElem?_eq_getElem (by omega)
      generalize ops[b]'(by omega) = o at ho
      obtain ⟨v, hp⟩ := (hS b o ho).slots
      rw [putS_get hp, if_neg (hw b o (by omega) (by omega) ho)]

/-- What has been noted is still noted later. -/
theorem notes_stay (hS : ∀ j o, ops[j]? = some o → DStep X cf nt c ops j o (S j) (S (j + 1))) {a : Nat} : ∀ b, a ≤ b → b ≤ ops.length → (∀ s ∈ (S a).sp, s ∈ (S b).sp) ∧ (∀ s ∈ (S a).ss, s ∈ (S b).ss) := by
  intro b hab
  induction b with
  | zero => intro _; have : a = 0 := by omega
            subst this; exact ⟨fun _ h => h, fun _ h => h⟩
  | succ b ih =>
    intro hb
    by_cases e : a = b + 1
    · subst e; exact ⟨fun _ h => h, fun _ h => h⟩
    · obtain ⟨i1, i2⟩ := ih (by omega) (by omega)
      have ho : ops[b]? = some (ops[b]'(by omega)) := List.getElem?_eq_getElem (by omega)
      obtain ⟨n1, n2⟩ := (hS b _ ho).notes
      exact ⟨fun s h => n1 s (i1 s h), fun s h => n2 s (i2 s h)⟩

/-- How things stand when the operations of 'listed' have been carried out, in whatever order. -/
structure J (X : Env) (nt c : Nat) (ops : List Oper) (S : Nat → DS) (ρ0 : Rho) (g0 : G) (ro : Nat) (w0 : World) (listed : Array Bool) (a : Act) (w : World) (ρ : Rho) (g : G) (K : Nat) : Prop where
  size : listed.size = ops.length
  closed : ∀ j, listed.getD j false = true → ∀ i, ((befs ops).getD j 0).testBit i = true → listed.getD i false = true
  kn : K ≤ ops.length
  kw : ∀ k o, ops[k]? = some o → isW X o.op = true → (listed.getD k false = true ↔ k < K)
  k0 : K = 0 ∨ ∃ k o, K = k + 1 ∧ ops[k]? = some o ∧ isW X o.op = true
  slots : ∀ t m, m ≤ ops.length → (∀ i o, ops[i]? = some o → o.dst = some t → (listed.getD i false = true ↔ i < m)) → avR ρ ((S m).fr.get t) (a.tmps.getD t undef)
  sz : a.tmps.size = nt
  df : a.defers = []
  rel : Rel ρ g ro w
  g1 : ∀ x, (∀ j, ¬ NId c ops x j) → g x = (S K).h.get x
  g2 : ∀ x j, NId c ops x j → g x = if listed.getD j false = true then (S (max K (j + 1))).h.get x else none
  stp : Stp ρ0 ρ g0 g ro w0 w
  f1 : ∀ i, i < ops.length → listed.getD i false = false → ρ (c + i) = none
  f2 : ∀ k, (S K).h.nx ≤ k → ρ k = none
  f3 : ∀ k, k < c → ρ0 k = none → ρ k = none
  ro_ : (S K).h.ro = ro
  nx : c + ops.length ≤ (S K).h.nx
  low : ∀ i, i < ro → (S K).h.get i = g0 i
  born : ∀ i, i < c → (S K).h.get i ≠ none → g0 i ≠ none
  roc : ro ≤ c


theorem NId.uniq {x j j' : Nat} (h : NId c ops x j) (h' : NId c ops x j') : j = j' := by
  have := h.1; have := h'.1; omega

theorem D_set {listed : Array Bool} {j : Nat} (hj : j < listed.size) (i : Nat) : (listed.setIfInBounds j true).getD i false = true ↔ (listed.getD i false = true ∨ i = j) := by
  by_cases e : j = i
  · subst e
    simp [hj]
  · rw [getD_set_ne false e]
    constructor
    · exact .inl
    · rintro (h | h)
      · exact h
      · exact absurd h.symm e

/-- What is known of an operation that may come next. -/
structure Nxt (X : Env) (ops : List Oper) (listed : Array Bool) (j : Nat) (o : Oper) : Prop where
  op : ops[j]? = some o
  out : listed.getD j false = false
  bef : ∀ i, ((befs ops).getD j 0).testBit i = true → listed.getD i false = true

theorem Nxt.notAfter {listed : Array Bool} {j : Nat} {o : Oper} (hx : Nxt X ops listed j o) (hc : ∀ j, listed.getD j false = true → ∀ i, ((befs ops).getD j 0).testBit i = true → listed.getD i false = true) {k : Nat} (hk : listed.getD k false = true) : ((befs ops).getD k 0).testBit j = false := by
  cases hb : ((befs ops).getD k 0).testBit j with
  | false => rfl
  | true => have := hc k hk j hb; rw [hx.out] at this; cases this

variable {ρ0 : Rho} {g0 : G} {ro : Nat} {w0 : World}

/-- A slot that the next operation looks at holds what it holds there in the text. -/
theorem J.look {listed : Array Bool} {a : Act} {w : World} {ρ : Rho} {g : G} {K : Nat} (st : Stat X ops) (h : J X nt c ops S ρ0 g0 ro w0 listed a w ρ g K) {j : Nat} {o : Oper} (hx : Nxt X ops listed j o) {t : Tmp} (ht : t ∈ o.looksAt ops.toArray) :
    avR ρ ((S j).fr.get t) (a.tmps.getD t undef) := by
  have hj := (List.getElem?_eq_some_iff.1 hx.op).1
  refine h.slots t j (by omega) fun i oi hi hd => ?_
  rcases Nat.lt_trichotomy i j with hij | rfl | hij
  · refine ⟨fun _ => hij, fun _ => ?_⟩
    rcases st.pair i j oi o hij hi hx.op with hb | ⟨h1, _⟩
    · exact hx.bef i hb
    · exact absurd ht (h1 t hd).1
  · rw [hx.out]; simp
  · refine ⟨fun hD => ?_, fun hlt => by omega⟩
    rcases st.pair j i o oi hij hx.op hi with hb | ⟨_, h2, _⟩
    · have := hx.notAfter h.closed hD; rw [hb] at this; cases this
    · exact absurd ht (h2 t hd)

/-- The slots behind it. -/
theorem J.slots' {listed : Array Bool} {a : Act} {w : World} {ρ : Rho} {g : G} {K : Nat} (st : Stat X ops) (hS : ∀ j o, ops[j]? = some o → DStep X cf nt c ops j o (S j) (S (j + 1))) (h : J X nt c ops S ρ0 g0 ro w0 listed a w ρ g K) {j : Nat} {o : Oper} (hx : Nxt X ops listed j o)
    {v : AV} {v' : Value} {ρ' : Rho} (hle : ρ.le ρ') (hv : avR ρ' v v') (hp : putS nt (S j).fr o.dst v = some (S (j + 1)).fr) :
    (∀ t m, m ≤ ops.length → (∀ i oi, ops[i]? = some oi → oi.dst = some t → ((listed.setIfInBounds j true).getD i false = true ↔ i < m)) → avR ρ' ((S m).fr.get t) ((a.put o.dst v').tmps.getD t undef)) ∧ (a.put o.dst v').tmps.size = nt ∧ (a.put o.dst v').defers = [] := by
  have hj := (List.getElem?_eq_some_iff.1 hx.op).1
  have hjs : j < listed.size := by rw [h.size]; exact hj
  refine ⟨fun t m hm hw => ?_, ?_, ?_⟩
  · by_cases hd : o.dst = some t
    · have hjm : j < m := (hw j o hx.op hd).1 ((D_set hjs j).2 (.inr rfl))
      have e1 : (S m).fr.get t = (S (j + 1)).fr.get t := slot_stay hS m (by omega) hm fun k ok h1 h2 hk hdk => by
        have hDk := (D_set hjs k).1 ((hw k ok hk hdk).2 h2)
        rcases hDk with hDk | hDk
        · rcases st.pair j k o ok (by omega) hx.op hk with hb | ⟨h3, _⟩
          · have := hx.notAfter h.closed hDk; rw [hb] at this; cases this
          · exact (h3 t hd).2 hdk
        · omega
      rw [e1, putS_get hp, if_pos hd]
      have ht : t < nt := by
        rw [hd] at hp
        unfold putS at hp
        dsimp only at hp
        split at hp
        · assumption
        · simp at hp
      have : (a.put o.dst v').tmps.getD t undef = v' := by rw [hd]; simp [Act.put, h.sz, ht]
      rw [this]; exact hv
    · have e1 : (a.put o.dst v').tmps.getD t undef = a.tmps.getD t undef := by
        cases hdst : o.dst with
        | none => rfl
        | some d =>
          have hne : d ≠ t := fun e => hd (by rw [hdst, e])
          simp [Act.put, Array.getElem?_setIfInBounds_ne hne]
      rw [e1]
      refine (h.slots t m hm fun i oi hi hdi => ?_).mono hle
      rw [← hw i oi hi hdi, D_set hjs]
      constructor
      · exact .inl
      · rintro (hD | rfl)
        · exact hD
        · rw [hx.op] at hi; injection hi with hi; subst hi; exact absurd hdi hd
  · cases o.dst <;> simp [Act.put, h.sz]
  · cases o.dst <;> simp [Act.put, h.df]

/-- Nothing that writes lies between the last such operation and one that is ordered with all of them. -/
theorem J.noW {listed : Array Bool} {a : Act} {w : World} {ρ : Rho} {g : G} {K : Nat} (st : Stat X ops) (h : J X nt c ops S ρ0 g0 ro w0 listed a w ρ g K) {j : Nat} {o : Oper} (hx : Nxt X ops listed j o) (ho : isW X o.op = true ∨ isCall o.op = true) :
    K ≤ j ∧ ∀ k ok, K ≤ k → k < j → ops[k]? = some ok → isW X ok.op = false := by
  constructor
  · rcases h.k0 with e | ⟨k, ok, rfl, hk, hw⟩
    · omega
    · have hD := (h.kw k ok hk hw).2 (by omega)
      rcases Nat.lt_trichotomy k j with hlt | rfl | hlt
      · omega
      · rw [hx.out] at hD; cases hD
      · rcases st.pair j k o ok hlt hx.op hk with hb | ⟨_, _, h3, h4⟩
        · have := hx.notAfter h.closed hD; rw [hb] at this; cases this
        · rcases ho with ho | ho
          · exact absurd ⟨ho, .inl hw⟩ h3
          · exact absurd ⟨hw, ho⟩ h4
  · intro k ok hKk hkj hk
    cases hw : isW X ok.op with
    | false => rfl
    | true =>
      rcases st.pair k j ok o hkj hk hx.op with hb | ⟨_, _, h3, _⟩
      · have := (h.kw k ok hk hw).1 (hx.bef k hb); omega
      · exact absurd ⟨hw, ho⟩ h3

/-- The next operation leaves the blocks alone. -/
theorem J.quiet {listed : Array Bool} {a : Act} {w : World} {ρ : Rho} {g : G} {K : Nat} (st : Stat X ops) (hS : ∀ j o, ops[j]? = some o → DStep X cf nt c ops j o (S j) (S (j + 1))) (hpre : ∀ x j, NId c ops x j → (S 0).h.get x = none) (h : J X nt c ops S ρ0 g0 ro w0 listed a w ρ g K) {j : Nat} {o : Oper} (hx : Nxt X ops listed j o)
    (hq : ¬ WW X ops S j) (hnn : isN o.op = true → wantedA ops (S j).fr o = some false) {v : AV} {v' : Value} {ρ' : Rho} {w' : World} (hv : avR ρ' v v') (hp : putS nt (S j).fr o.dst v = some (S (j + 1)).fr) (hrel : Rel ρ' g ro w') (hstp : Stp ρ ρ' g g ro w w') (hf : ∀ k, k < ops.length → k ≠ j → ρ (c + k) = none → ρ' (c + k) = none) (hf2 : ∀ k, ρ k = none → (k < c ∨ (S K).h.nx ≤ k) → ρ' k = none) :
    ∃ K', J X nt c ops S ρ0 g0 ro w0 (listed.setIfInBounds j true) (a.put o.dst v') w' ρ' g K' := by
  have hj := (List.getElem?_eq_some_iff.1 hx.op).1
  have hjs : j < listed.size := by rw [h.size]; exact hj
  obtain ⟨s1, s2, s3⟩ := h.slots' st hS hx hstp.ext hv hp
  -- a block that an operation behind has made
  have made : ∀ x i, NId c ops x i → listed.getD i false = true → ∀ K', K ≤ K' → K' ≤ ops.length → (∀ k, K ≤ k → k < K' → ¬ WW X ops S k) → (S (max K (i + 1))).h.get x = (S (max K' (i + 1))).h.get x := fun x i hxi hD K' hK hK' hno => by
    have hil := (List.getElem?_eq_some_iff.1 hxi.2.choose_spec.1).1
    exact (stay hS (x := x) (a := max K (i + 1)) (fun i' hi' => by have := hxi.uniq hi'; omega) (max K' (i + 1)) (by omega) (by omega) fun k h1 h2 hw => absurd hw (hno k (by omega) (by omega))).symm
  have newN : ∀ x, NId c ops x j → g x = none ∧ ∀ K', K ≤ K' → K' ≤ ops.length → (∀ k, K ≤ k → k < K' → ¬ WW X ops S k) → (S (max K' (j + 1))).h.get x = none := by
    intro x hxj
    refine ⟨by rw [h.g2 x j hxj, hx.out]; rfl, fun K' hK hK' hno => ?_⟩
    obtain ⟨hxe, o', ho', hn⟩ := hxj
    rw [hx.op] at ho'
    injection ho' with ho'
    subst ho'
    have hun := hnn hn
    -- up to j it isn't there
    have hpre' : (S j).h.get x = none := by
      have : ∀ b, b ≤ j → (S b).h.get x = none := by
        intro b
        induction b with
        | zero => intro _; exact hpre x j ⟨hxe, o, hx.op, hn⟩
        | succ b ih =>
          intro hb
          have ih' := ih (by omega)
          have hob : ops[b]? = some (ops[b]'(by omega)) := List.getElem?_eq_getElem (by omega)
          generalize ops[b]'(by omega) = ob at hob
          have hstep := hS b ob hob
          by_cases hww : isW X ob.op = true ∧ wantedA ops (S b).fr ob = some true
          · obtain ⟨v, h', _, hh, _⟩ := hstep.write hww.1 hww.2
            rw [hh, unmaskH_get, if_pos]
            · exact ih'
            · refine ⟨j, mem_maskOf.2 ⟨hj, by rw [List.getD_eq_getElem?_getD, hx.op]; exact hn, ?_⟩, hxe⟩
              cases hbit : ((befs ops).getD b 0).testBit j with
              | false => rfl
              | true => have := bef_lt st b ob hob j hbit; omega
          · rw [(hstep.heap hww).2.2 x fun _ => by omega]; exact ih'
      exact this j (Nat.le_refl _)
    have hj1 : (S (j + 1)).h.get x = none := by
      have hww : ¬ (isW X o.op = true ∧ wantedA ops (S j).fr o = some true) := by rw [hun]; simp
      have hstep := hS j o hx.op
      unfold DStep drawStep at hstep
      rw [hun] at hstep
      simp only [Option.bind_some, Bool.false_eq_true, if_false, Option.map_eq_some_iff, Prod.mk.injEq] at hstep
      obtain ⟨f, _, _, hh, _⟩ := hstep
      rw [← hh]; exact hpre'
    rw [stay hS (x := x) (a := j + 1) (fun i hi => by have := hi.1; omega) (max K' (j + 1)) (by omega) (by omega) fun k h1 h2 hw => ?_]
    · exact hj1
    · refine ⟨j, ⟨hxe, o, hx.op, hn⟩, ?_⟩
      obtain ⟨ok, hok, hwk, hwant⟩ := id hw
      have hkK : k < K := by
        rcases Nat.lt_or_ge k K with h | h
        · exact h
        · exact absurd hw (hno k h (by omega))
      exact hx.notAfter h.closed ((h.kw k ok hok hwk).2 hkK)
  -- how far the operations that write have come
  have core : ∀ K', K ≤ K' → K' ≤ ops.length → (∀ k, K ≤ k → k < K' → ¬ WW X ops S k) → (∀ k ok, ops[k]? = some ok → isW X ok.op = true → ((listed.setIfInBounds j true).getD k false = true ↔ k < K')) → (K' = 0 ∨ ∃ k ok, K' = k + 1 ∧ ops[k]? = some ok ∧ isW X ok.op = true) →
      J X nt c ops S ρ0 g0 ro w0 (listed.setIfInBounds j true) (a.put o.dst v') w' ρ' g K' := by
    intro K' hK hK' hno hkw hk0
    obtain ⟨n1, n2⟩ := stay_nx hS (a := K) K' hK hK' hno
    have getK : ∀ x, (∀ i, ¬ NId c ops x i) → (S K').h.get x = (S K).h.get x := fun x hx' => stay hS (a := K) (fun i hi => absurd hi (hx' i)) K' hK hK' fun k h1 h2 hw => absurd hw (hno k h1 h2)
    refine ⟨by simp [h.size], fun k hk i hb => ?_, hK', hkw, hk0, s1, s2, s3, hrel, fun x hx' => ?_, fun x i hxi => ?_, h.stp.trans hstp, fun i hi hD => ?_, fun k hk => ?_, fun k hk hk0' => ?_, by rw [n2]; exact h.ro_, by rw [n1]; exact h.nx, fun i hi => ?_, fun i hi hn => ?_, h.roc⟩
    · rw [D_set hjs] at hk ⊢
      rcases hk with hk | rfl
      · exact .inl (h.closed k hk i hb)
      · exact .inl (hx.bef i hb)
    · rw [h.g1 x hx', getK x hx']
    · by_cases hij : i = j
      · subst hij
        obtain ⟨e1, e2⟩ := newN x hxi
        rw [e1, if_pos ((D_set hjs i).2 (.inr rfl)), e2 K' hK hK' hno]
      · rw [h.g2 x i hxi]
        by_cases hD : listed.getD i false = true
        · rw [if_pos hD, if_pos ((D_set hjs i).2 (.inl hD))]
          exact made x i hxi hD K' hK hK' hno
        · rw [if_neg hD, if_neg]
          rw [D_set hjs]
          rintro (h1 | h1)
          · exact hD h1
          · exact hij h1
    · have hij : i ≠ j := fun e => by subst e; rw [(D_set hjs i).2 (.inr rfl)] at hD; cases hD
      have hD' : listed.getD i false = false := by
        cases hq' : listed.getD i false with
        | false => rfl
        | true => rw [(D_set hjs i).2 (.inl hq')] at hD; cases hD
      exact hf i hi hij (h.f1 i hi hD')
    · rw [n1] at hk; exact hf2 k (h.f2 k hk) (.inr hk)
    · exact hf2 k (h.f3 k hk hk0') (.inl hk)
    · rw [getK i (fun j' hj' => by have h1 := hj'.1; have h2 := h.nx; have h3 := h.ro_; have := h.roc; omega)]
      exact h.low i hi
    · rw [getK i (fun j' hj' => by have h1 := hj'.1; omega)] at hn
      exact h.born i hi hn
  cases hw : isW X o.op with
  | false =>
    refine ⟨K, core K (Nat.le_refl _) h.kn (fun k h1 h2 => by omega) (fun k ok hok hwk => ?_) h.k0⟩
    rw [D_set hjs, ← h.kw k ok hok hwk]
    constructor
    · rintro (h1 | rfl)
      · exact h1
      · rw [hx.op] at hok; injection hok with hok; subst hok; rw [hw] at hwk; cases hwk
    · exact .inl
  | true =>
    obtain ⟨hKj, hno⟩ := h.noW st hx (.inl hw)
    refine ⟨j + 1, core (j + 1) (by omega) (by omega) (fun k h1 h2 hww => ?_) (fun k ok hok hwk => ?_) (.inr ⟨j, o, rfl, hx.op, hw⟩)⟩
    · obtain ⟨ok, hok, hwk, hwant⟩ := id hww
      rcases Nat.lt_or_ge k j with hlt | hge
      · have := hno k ok h1 hlt hok; rw [hwk] at this; cases this
      · have : k = j := by omega
        subst this
        exact hq hww
    · rw [D_set hjs]
      rcases Nat.lt_trichotomy k j with hlt | rfl | hlt
      · refine ⟨fun _ => by omega, fun _ => .inl ?_⟩
        rw [h.kw k ok hok hwk]
        rcases Nat.lt_or_ge k K with h1 | h1
        · exact h1
        · have := hno k ok h1 hlt hok; rw [hwk] at this; cases this
      · exact ⟨fun _ => by omega, fun _ => .inr rfl⟩
      · refine ⟨fun h1 => ?_, fun h1 => by omega⟩
        rcases h1 with h1 | h1
        · rw [h.kw k ok hok hwk] at h1; omega
        · omega

end
end Go.AM
end

section
/- A region whose order is drawn: the operations that write, make blocks, read, call. No program here. -/
set_option linter.unusedSimpArgs false
set_option linter.unusedVariables false
namespace Go.AM
open Go

section
variable {P : Program} {X : Env} {cf : CallF} {nt c : Nat} {ops : List Oper} {S : Nat → DS} {ρ0 : Rho} {g0 : G} {ro : Nat} {w0 : World}

/-- Which of the blocks are laid before an operation that writes or calls, all of them as in the text. -/
theorem J.masked {listed : Array Bool} {a : Act} {w : World} {ρ : Rho} {g : G} {K : Nat} (st : Stat X ops) (hS : ∀ j o, ops[j]? = some o → DStep X cf nt c ops j o (S j) (S (j + 1))) (h : J X nt c ops S ρ0 g0 ro w0 listed a w ρ g K) {j : Nat} {o : Oper} (hx : Nxt X ops listed j o) (ho : isW X o.op = true ∨ isCall o.op = true) :
    (S j).h.nx = (S K).h.nx ∧ (S j).h.ro = ro ∧ (∀ x, (∀ i, ¬ NId c ops x i) → (S j).h.get x = g x) ∧
    (∀ x i, NId c ops x i → ((befs ops).getD j 0).testBit i = true → (S j).h.get x = g x) ∧
    (∀ x l, (maskH (S j).h c (maskOf ops ((befs ops).getD j 0))).get x = some l → g x = some l) := by
  have hj := (List.getElem?_eq_some_iff.1 hx.op).1
  obtain ⟨hKj, hno⟩ := h.noW st hx ho
  have hnoW : ∀ k, K ≤ k → k < j → ¬ WW X ops S k := fun k h1 h2 ⟨ok, hok, hwk, _⟩ => by rw [hno k ok h1 h2 hok] at hwk; cases hwk
  obtain ⟨n1, n2⟩ := stay_nx hS (a := K) j hKj (by omega) hnoW
  have e1 : ∀ x, (∀ i, ¬ NId c ops x i) → (S j).h.get x = g x := fun x hx' => by
    rw [h.g1 x hx']
    exact stay hS (a := K) (fun i hi => absurd hi (hx' i)) j hKj (by omega) fun k h1 h2 hw => absurd hw (hnoW k h1 h2)
  have e2 : ∀ x i, NId c ops x i → ((befs ops).getD j 0).testBit i = true → (S j).h.get x = g x := fun x i hxi hb => by
    have hij := bef_lt st j o hx.op i hb
    rw [h.g2 x i hxi, if_pos (hx.bef i hb)]
    exact stay hS (x := x) (a := max K (i + 1)) (fun i' hi' => by have := hxi.uniq hi'; omega) j (by omega) (by omega) fun k h1 h2 hw => absurd hw (hnoW k (by omega) h2)
  refine ⟨n1, by rw [n2]; exact h.ro_, e1, e2, fun x l hl => ?_⟩
  rw [maskH_get] at hl
  split at hl
  · cases hl
  · rename_i hm
    by_cases hN : ∃ i, NId c ops x i
    · obtain ⟨i, hxi⟩ := hN
      obtain ⟨hxe, oi, hoi, hni⟩ := id hxi
      have hbit : ((befs ops).getD j 0).testBit i = true := by
        cases hb : ((befs ops).getD j 0).testBit i with
        | true => rfl
        | false =>
          refine absurd ⟨i, mem_maskOf.2 ⟨(List.getElem?_eq_some_iff.1 hoi).1, ?_, hb⟩, hxe⟩ hm
          rw [List.getD_eq_getElem?_getD, hoi]; exact hni
      rw [← e2 x i hxi hbit]; exact hl
    · rw [← e1 x fun i hi => hN ⟨i, hi⟩]; exact hl

/-- The next operation writes. -/
theorem J.write {listed : Array Bool} {a : Act} {w : World} {ρ : Rho} {g : G} {K : Nat} (st : Stat X ops) (hS : ∀ j o, ops[j]? = some o → DStep X cf nt c ops j o (S j) (S (j + 1))) (h : J X nt c ops S ρ0 g0 ro w0 listed a w ρ g K) {j : Nat} {o : Oper} (hx : Nxt X ops listed j o)
    (hw : isW X o.op = true) {h' : H} (hh : (S (j + 1)).h = unmaskH (S j).h c (maskOf ops ((befs ops).getD j 0)) h') {v : AV} {v' : Value} {ρ' : Rho} {w' : World} (hv : avR ρ' v v') (hp : putS nt (S j).fr o.dst v = some (S (j + 1)).fr)
    (hrel : Rel ρ' h'.get ro w') (hstp : Stp ρ ρ' (maskH (S j).h c (maskOf ops ((befs ops).getD j 0))).get h'.get ro w w') (hro : h'.ro = ro) (hnx : (S j).h.nx ≤ h'.nx) (hlow : ∀ i, i < ro → h'.get i = (maskH (S j).h c (maskOf ops ((befs ops).getD j 0))).get i)
    (hborn : ∀ i, i < (S j).h.nx → i ≠ c + j → h'.get i ≠ none → (maskH (S j).h c (maskOf ops ((befs ops).getD j 0))).get i ≠ none)
    (hf : ∀ i, ρ i = none → i ≠ c + j → (i < (S j).h.nx ∨ h'.nx ≤ i) → ρ' i = none) :
    ∃ K' g', J X nt c ops S ρ0 g0 ro w0 (listed.setIfInBounds j true) (a.put o.dst v') w' ρ' g' K' := by
  have hj := (List.getElem?_eq_some_iff.1 hx.op).1
  have hjs : j < listed.size := by rw [h.size]; exact hj
  obtain ⟨s1, s2, s3⟩ := h.slots' st hS hx hstp.ext hv hp
  obtain ⟨n1, n2, e1, e2, hsub⟩ := h.masked st hS hx (.inl hw)
  obtain ⟨hKj, hno⟩ := h.noW st hx (.inl hw)
  have hnoW : ∀ k, K ≤ k → k < j → ¬ WW X ops S k := fun k h1 h2 ⟨ok, hok, hwk, _⟩ => by rw [hno k ok h1 h2 hok] at hwk; cases hwk
  generalize hM : maskH (S j).h c (maskOf ops ((befs ops).getD j 0)) = hm at *
  have hmg : ∀ x, hm.get x = if ∃ i ∈ maskOf ops ((befs ops).getD j 0), x = c + i then none else (S j).h.get x := fun x => by rw [← hM]; exact maskH_get ..
  -- the part that it doesn't see
  let gB : G := fun x => if hm.get x = none then g x else none
  have hor : ∀ x, G.or hm.get gB x = g x := fun x => by
    unfold G.or
    cases e : hm.get x with
    | some l => exact (hsub x l e).symm
    | none => show (if hm.get x = none then g x else none) = g x; rw [e]; simp
  have hR2 : Rel ρ (G.or hm.get gB) ro w := h.rel.congr hor
  obtain ⟨r1, r2⟩ := hR2.frame (gB := gB) (fun i l hi => by
    have hi : (if hm.get i = none then g i else none) = some l := hi
    split at hi
    · assumption
    · cases hi) hrel hstp hlow
  have horf : G.or hm.get gB = g := funext hor
  rw [horf] at r2
  have nmask : ∀ x, (∀ i, ¬ NId c ops x i) → ¬ ∃ i ∈ maskOf ops ((befs ops).getD j 0), x = c + i := fun x hx' ⟨i, hi, e⟩ => by
    obtain ⟨h1, h2, _⟩ := mem_maskOf.1 hi
    rw [List.getD_eq_getElem?_getD, List.getElem?_eq_getElem h1] at h2
    exact hx' i ⟨e, _, List.getElem?_eq_getElem h1, h2⟩
  have masked_iff : ∀ x i, NId c ops x i → ((∃ k ∈ maskOf ops ((befs ops).getD j 0), x = c + k) ↔ ((befs ops).getD j 0).testBit i = false) := fun x i ⟨hxe, oi, hoi, hni⟩ => by
    constructor
    · rintro ⟨k, hk, e⟩
      have : k = i := by omega
      subst this
      exact (mem_maskOf.1 hk).2.2
    · intro hb
      exact ⟨i, mem_maskOf.2 ⟨(List.getElem?_eq_some_iff.1 hoi).1, by rw [List.getD_eq_getElem?_getD, hoi]; exact hni, hb⟩, hxe⟩
  -- an operation that makes a block is none that writes
  have hNne : ∀ x i, NId c ops x i → i ≠ j := fun x i ⟨_, oi, hoi, hni⟩ e => by
    subst e
    rw [hx.op] at hoi; injection hoi with hoi; subst hoi
    cases hop : o.op <;> simp [hop, isN, isW] at hni hw
  have hlt : ∀ x i, NId c ops x i → x < (S j).h.nx := fun x i ⟨hxe, oi, hoi, _⟩ => by
    have := (List.getElem?_eq_some_iff.1 hoi).1
    have := h.nx; omega
  have gne : ∀ x i, NId c ops x i → ((befs ops).getD j 0).testBit i = false → h'.get x = none := fun x i hxi hb => by
    cases hq : h'.get x with
    | none => rfl
    | some l =>
      have h1 := hborn x (hlt x i hxi) (fun e => hNne x i hxi (by have := hxi.1; omega)) (by rw [hq]; simp)
      rw [hmg, if_pos ((masked_iff x i hxi).2 hb)] at h1
      exact absurd rfl h1
  have noNc : ∀ x, x < c → ∀ i, ¬ NId c ops x i := fun x hx' i hi => by have := hi.1; omega
  have getNon : ∀ x, (∀ i, ¬ NId c ops x i) → (S (j + 1)).h.get x = h'.get x := fun x hx' => by rw [hh, unmaskH_get, if_neg (nmask x hx')]
  refine ⟨j + 1, G.or h'.get gB, ⟨by simp [h.size], fun k hk i hb => ?_, by omega, fun k ok hok hwk => ?_, .inr ⟨j, o, rfl, hx.op, hw⟩, s1, s2, s3, r1, fun x hx' => ?_, fun x i hxi => ?_, h.stp.trans r2, fun i hi hD => ?_, fun k hk => ?_, fun k hk hk0 => ?_, ?_, ?_, fun i hi => ?_, fun i hi hn => ?_, h.roc⟩⟩
  · rw [D_set hjs] at hk ⊢
    rcases hk with hk | rfl
    · exact .inl (h.closed k hk i hb)
    · exact .inl (hx.bef i hb)
  · rw [D_set hjs]
    rcases Nat.lt_trichotomy k j with hlt' | rfl | hlt'
    · refine ⟨fun _ => by omega, fun _ => .inl ?_⟩
      rw [h.kw k ok hok hwk]
      rcases Nat.lt_or_ge k K with h1 | h1
      · exact h1
      · have := hno k ok h1 hlt' hok; rw [hwk] at this; cases this
    · exact ⟨fun _ => by omega, fun _ => .inr rfl⟩
    · refine ⟨fun h1 => ?_, fun h1 => by omega⟩
      rcases h1 with h1 | h1
      · rw [h.kw k ok hok hwk] at h1; omega
      · omega
  · rw [getNon x hx']
    unfold G.or
    cases e : h'.get x with
    | some l => rfl
    | none =>
      show (if hm.get x = none then g x else none) = none
      split
      · rename_i hmn
        rw [hmg, if_neg (nmask x hx')] at hmn
        rw [← e1 x hx']; exact hmn
      · rfl
  · by_cases hD : listed.getD i false = true
    · rw [if_pos ((D_set hjs i).2 (.inl hD))]
      have hg := h.g2 x i hxi
      rw [if_pos hD] at hg
      cases hb : ((befs ops).getD j 0).testBit i with
      | false =>
        have e3 := gne x i hxi hb
        have e4 : hm.get x = none := by rw [hmg, if_pos ((masked_iff x i hxi).2 hb)]
        have e5 : G.or h'.get gB x = g x := by
          unfold G.or
          rw [e3]
          show (if hm.get x = none then g x else none) = g x
          rw [if_pos e4]
        rw [e5, hg]
        by_cases hij : i < j
        · rw [show max (j + 1) (i + 1) = j + 1 by omega, hh, unmaskH_get, if_pos ((masked_iff x i hxi).2 hb)]
          exact (stay hS (x := x) (a := max K (i + 1)) (fun i' hi' => by have := hxi.uniq hi'; omega) j (by omega) (by omega) fun k h1 h2 hw => absurd hw (hnoW k (by omega) h2)).symm
        · rw [show max (j + 1) (i + 1) = i + 1 by omega, show max K (i + 1) = i + 1 by omega]
      | true =>
        have hij := bef_lt st j o hx.op i hb
        rw [show max (j + 1) (i + 1) = j + 1 by omega, hh, unmaskH_get, if_neg (fun hc => by rw [(masked_iff x i hxi).1 hc] at hb; cases hb)]
        unfold G.or
        cases e : h'.get x with
        | some l => rfl
        | none =>
          show (if hm.get x = none then g x else none) = none
          split
          · rename_i hmn
            rw [hmg, if_neg (fun hc => by rw [(masked_iff x i hxi).1 hc] at hb; cases hb)] at hmn
            rw [← e2 x i hxi hb]; exact hmn
          · rfl
    · rw [if_neg (by rw [D_set hjs]; rintro (h1 | h1); exact hD h1; exact hNne x i hxi h1)]
      have hb : ((befs ops).getD j 0).testBit i = false := by
        cases hb : ((befs ops).getD j 0).testBit i with
        | false => rfl
        | true => exact absurd (hx.bef i hb) hD
      unfold G.or
      rw [gne x i hxi hb]
      show (if hm.get x = none then g x else none) = none
      split
      · rw [h.g2 x i hxi, if_neg hD]
      · rfl
  · have hij : i ≠ j := fun e => by subst e; rw [(D_set hjs i).2 (.inr rfl)] at hD; cases hD
    have hD' : listed.getD i false = false := by
      cases hq' : listed.getD i false with
      | false => rfl
      | true => rw [(D_set hjs i).2 (.inl hq')] at hD; cases hD
    have := h.nx
    exact hf _ (h.f1 i hi hD') (by omega) (.inl (by omega))
  · rw [hh, (unmaskH_nx ..).1] at hk
    have := h.nx
    exact hf k (h.f2 k (by omega)) (by omega) (.inr hk)
  · have := h.nx
    exact hf k (h.f3 k hk hk0) (by omega) (.inl (by omega))
  · rw [hh, (unmaskH_nx ..).2]; exact hro
  · rw [hh, (unmaskH_nx ..).1]; have := h.nx; omega
  · have hic : i < c := by have := h.roc; omega
    rw [getNon i (noNc i hic), hlow i hi, hmg, if_neg (nmask i (noNc i hic)), e1 i (noNc i hic), h.g1 i (noNc i hic)]
    exact h.low i hi
  · rw [getNon i (noNc i hi)] at hn
    have h1 := hborn i (by have := h.nx; omega) (by omega) hn
    rw [hmg, if_neg (nmask i (noNc i hi)), e1 i (noNc i hi), h.g1 i (noNc i hi)] at h1
    exact h.born i hi h1

end
end Go.AM
end

section
/- A region whose order is drawn: every operation; the region. No program here. -/
set_option linter.unusedSimpArgs false
set_option linter.unusedVariables false
namespace Go.AM
open Go

section
variable {ρ : Rho}

theorem abuiltin_keep {X : Env} {h h' : H} {id : Nat} {b : Builtin} {ts : List TypeId} {args : List AV} {v : AV} (h1 : b ≠ .append) (h2 : b ≠ .copy) (h3 : b ≠ .clear) (ha : abuiltin X h id b ts args = some (v, h')) : h' = h := by
  unfold abuiltin at ha
  split at ha
  · split at ha <;> simp at ha <;> exact ha.2.symm
  · exact absurd rfl h1
  · exact absurd rfl h2
  · exact absurd rfl h3
  · simp at ha; exact ha.2.symm
  · simp at ha; exact ha.2.symm
  · simp at ha

/-- An operation that neither makes nor writes leaves the blocks. -/
theorem aop_keep {X : Env} {ev : Operand → AV} {h h' : H} {id : Nat} {op : Op} {v : AV} (hn : isN op = false) (hw : isW X op = false) (ha : aop X ev h id op = some (v, h')) : h' = h := by
  cases op with
  | alloc t => simp [isN] at hn
  | box t x => simp [isN] at hn
  | makeSlice t l c => simp [isN] at hn
  | buildSlice t n ps => simp [isN] at hn
  | store t x y => simp [isW] at hw
  | call c =>
    obtain ⟨cal, args, tys⟩ := c
    cases cal with
    | builtin b =>
      simp only [aop] at ha
      refine abuiltin_keep ?_ ?_ ?_ ha <;> rintro rfl <;> simp [isW] at hw
    | _ => simp [aop] at ha
  | move x => simp [aop] at ha; exact ha.2.symm
  | assign x => simp [aop] at ha; exact ha.2.symm
  | pick c x y => simp only [aop] at ha; split at ha <;> simp at ha; exact ha.2.symm
  | load t x =>
    simp only [aop] at ha
    split at ha
    · split at ha
      · simp at ha
      · simp only [Option.bind_eq_some_iff, Option.map_eq_some_iff, Prod.mk.injEq] at ha
        obtain ⟨_, _, _, _, _, rfl⟩ := ha; rfl
    · simp at ha
  | nilCheck x => simp only [aop] at ha; split at ha <;> simp at ha <;> exact ha.2.symm
  | binOp op t x y ty => simp only [aop, Option.map_eq_some_iff, Prod.mk.injEq] at ha; obtain ⟨_, _, _, rfl⟩ := ha; rfl
  | unOp op t x => simp only [aop, Option.map_eq_some_iff, Prod.mk.injEq] at ha; obtain ⟨_, _, _, rfl⟩ := ha; rfl
  | convert s d x => simp only [aop] at ha; split at ha <;> simp at ha; exact ha.2.symm
  | makeFunc f first caps =>
    cases f with
    | func g =>
      simp only [aop] at ha
      split at ha
      · simp only [Option.map_eq_some_iff, Prod.mk.injEq] at ha; obtain ⟨_, _, _, rfl⟩ := ha; rfl
      · simp at ha
    | _ => simp [aop] at ha
  | slice t x lo hi mx => simp only [aop, Option.map_eq_some_iff, Prod.mk.injEq] at ha; obtain ⟨_, _, _, rfl⟩ := ha; rfl
  | fieldAddr t x f =>
    simp only [aop] at ha
    split at ha
    · simp only [Option.bind_eq_some_iff, Prod.exists] at ha
      obtain ⟨_, _, _, ha⟩ := ha
      split at ha <;> simp at ha
      exact ha.2.symm
    · simp at ha
  | field t x f =>
    simp only [aop] at ha
    split at ha
    · simp only [Option.bind_eq_some_iff, Prod.exists] at ha
      obtain ⟨_, _, _, ha⟩ := ha
      split at ha
      · simp only [Option.map_eq_some_iff, Prod.mk.injEq] at ha; obtain ⟨_, _, _, rfl⟩ := ha; rfl
      · simp at ha
    · simp at ha
  | indexAddr t x i => simp only [aop, Option.map_eq_some_iff, Prod.mk.injEq] at ha; obtain ⟨_, _, _, rfl⟩ := ha; rfl
  | index t x i =>
    simp only [aop] at ha
    split at ha
    · split at ha
      · simp only [Option.map_eq_some_iff, Prod.mk.injEq] at ha; obtain ⟨_, _, _, rfl⟩ := ha; rfl
      · simp at ha
    · simp at ha
  | extract x i =>
    simp only [aop] at ha
    split at ha
    · simp only [Option.bind_eq_some_iff, Option.map_eq_some_iff, Prod.mk.injEq] at ha
      obtain ⟨_, _, _, _, _, rfl⟩ := ha; rfl
    · simp at ha
  | build t parts =>
    simp only [aop] at ha
    split at ha
    · split at ha
      · simp only [Option.map_eq_some_iff, Prod.mk.injEq] at ha; obtain ⟨_, _, _, rfl⟩ := ha; rfl
      · simp at ha
    · simp at ha
  | _ => simp [aop] at ha

theorem wanted_rel' {fr : Fr} {a : Act} {ops : List Oper} {o : Oper} {b : Bool} (h : ∀ (j : Nat) (want : Bool) (d : Tmp), o.guard = some (j, want) → (ops[j]?).bind (·.dst) = some d → avR ρ (fr.get d) (a.tmps.getD d undef)) (hw : wantedA ops fr o = some b) : Region.wanted o (yielded ops.toArray a.tmps) = b := by
  unfold wantedA at hw
  unfold Region.wanted
  split at hw
  · rename_i hg; simp at hw; subst hw; simp [hg]
  · rename_i j want hg
    simp only [hg]
    split at hw
    · rename_i d hd
      have hv := h j want d hg hd
      unfold yielded
      have hd' : ((ops.toArray[j]?).bind (·.dst)) = some d := by simpa using hd
      rw [hd']
      simp only [Option.bind_some]
      have hget : a.tmps.getD d undef = (a.tmps[d]?).getD undef := by simp
      rw [hget] at hv
      split at hw
      · rename_i b' hb
        rw [hb] at hv
        simp at hw; subst hw
        cases ht : a.tmps[d]? with
        | none =>
          rw [ht] at hv
          have : undef = Value.bool b' := hv
          cases this
        | some v =>
          rw [ht] at hv
          have : v = Value.bool b' := hv
          subst this
          simp
      · rename_i hb
        rw [hb] at hv
        simp at hw; subst hw
        cases ht : a.tmps[d]? with
        | none => simp
        | some v =>
          rw [ht] at hv
          obtain ⟨vs, e, _⟩ := hv
          have e : v = .tuple vs := e
          subst e
          simp
      · simp at hw
    · simp at hw

theorem hE_get (i : Nat) : hE.get i = none := rfl

theorem Rel.emp {w : World} : Rel ρ hE.get hE.ro w := ⟨fun i l h => absurd h (by rw [hE_get]; simp), fun i j l l' h => absurd h (by rw [hE_get]; simp)⟩

/-- What an operation does that sees no block. -/
theorem Did.alone {g : G} {ro : Nat} {w : World} (hR : Rel ρ g ro w) {id : Nat} (hro : ro ≤ id) {v : AV} {he : H} {r : Result Next} (h : Did ρ hE id w v he r) (hb : ∀ k, k ≠ id → he.get k = none) :
    ∃ v' w' ρ', (r = .ok (.value v') w' ∨ (r = .ok .skip w' ∧ v' = undef)) ∧ avR ρ' v v' ∧ Rel ρ' (G.or he.get g) ro w' ∧ Stp ρ ρ' g (G.or he.get g) ro w w' ∧ (∀ i, ρ i = none → i ≠ id → ρ' i = none) := by
  obtain ⟨v', w', ρ', hr, hv', hR', hst, hro', hnx', hfr'⟩ := h
  have e0 : G.or hE.get g = g := funext fun x => by unfold G.or; rw [hE_get]
  have hR0 : Rel ρ (G.or hE.get g) ro w := by rw [e0]; exact hR
  have hR1 : Rel ρ' he.get ro w' := hR'.sub (fun _ _ h => h) fun i _ _ _ => by rw [hro']; exact Nat.zero_le _
  have hst1 : Stp ρ ρ' hE.get he.get ro w w' := { hst with
    keep := fun b hb hn => hst.keep b hb fun ⟨i, l, p, _, h2, _⟩ => by rw [hE_get] at h2; cases h2
    wr := fun b hb ⟨i, l, p, _, h2, h3, h4⟩ => by
      obtain ⟨i', l', p', _, h2', _⟩ := hst.wr b hb ⟨i, l, p, Nat.zero_le _, h2, h3, h4⟩
      rw [hE_get] at h2'; cases h2' }
  obtain ⟨f1, f2⟩ := hR0.frame (fun i l _ => hE_get i) hR1 hst1 fun i hi => by rw [hE_get, hb i (by omega)]
  rw [e0] at f2
  exact ⟨v', w', ρ', hr, hv', f1, f2, hfr'⟩

end

section
variable {P : Program} {X : Env} {cf : CallF} {nt c : Nat} {ops : List Oper} {S : Nat → DS} {ρ0 : Rho} {g0 : G} {ro : Nat} {w0 : World}

/-- The next operation makes a block. -/
theorem J.make {listed : Array Bool} {a : Act} {w : World} {ρ : Rho} {g : G} {K : Nat} (st : Stat X ops) (hS : ∀ j o, ops[j]? = some o → DStep X cf nt c ops j o (S j) (S (j + 1))) (h : J X nt c ops S ρ0 g0 ro w0 listed a w ρ g K) {j : Nat} {o : Oper} (hx : Nxt X ops listed j o)
    (hN : isN o.op = true) {l : List Sc} (hh : (S (j + 1)).h = (S j).h.put (c + j) l) {v : AV} {v' : Value} {ρ' : Rho} {w' : World} {g' : G} (hv : avR ρ' v v') (hp : putS nt (S j).fr o.dst v = some (S (j + 1)).fr)
    (hrel : Rel ρ' g' ro w') (hg : ∀ x, g' x = if x = c + j then some l else g x) (hstp : Stp ρ ρ' g g' ro w w') (hf : ∀ i, ρ i = none → i ≠ c + j → ρ' i = none) :
    J X nt c ops S ρ0 g0 ro w0 (listed.setIfInBounds j true) (a.put o.dst v') w' ρ' g' K := by
  have hj := (List.getElem?_eq_some_iff.1 hx.op).1
  have hjs : j < listed.size := by rw [h.size]; exact hj
  obtain ⟨s1, s2, s3⟩ := h.slots' st hS hx hstp.ext hv hp
  have hnw : isW X o.op = false := by cases hop : o.op <;> simp [hop, isN, isW] at hN ⊢
  have hnx := h.nx
  refine ⟨by simp [h.size], fun k hk i hb => ?_, h.kn, fun k ok hok hwk => ?_, h.k0, s1, s2, s3, hrel, fun x hx' => ?_, fun x i hxi => ?_, h.stp.trans hstp, fun i hi hD => ?_, fun k hk => ?_, fun k hk hk0 => ?_, h.ro_, h.nx, h.low, h.born, h.roc⟩
  · rw [D_set hjs] at hk ⊢
    rcases hk with hk | rfl
    · exact .inl (h.closed k hk i hb)
    · exact .inl (hx.bef i hb)
  · rw [D_set hjs, ← h.kw k ok hok hwk]
    constructor
    · rintro (h1 | rfl)
      · exact h1
      · rw [hx.op] at hok; injection hok with hok; subst hok; rw [hnw] at hwk; cases hwk
    · exact .inl
  · rw [hg, if_neg (fun e => hx' j ⟨e, o, hx.op, hN⟩), h.g1 x hx']
  · by_cases hij : i = j
    · subst hij
      rw [hg, if_pos hxi.1, if_pos ((D_set hjs i).2 (.inr rfl))]
      have hk := h.kn
      rw [stay hS (x := x) (a := i + 1) (fun i' hi' => by have := hxi.uniq hi'; omega) (max K (i + 1)) (by omega) (by omega) fun k h1 h2 hw => ?_, hh, H.get_put, if_pos hxi.1]
      refine ⟨i, hxi, ?_⟩
      obtain ⟨ok, hok, hwk, _⟩ := hw
      exact hx.notAfter h.closed ((h.kw k ok hok hwk).2 (by omega))
    · have hne : x ≠ c + j := by have := hxi.1; omega
      rw [hg, if_neg hne, h.g2 x i hxi]
      by_cases hD : listed.getD i false = true
      · rw [if_pos hD, if_pos ((D_set hjs i).2 (.inl hD))]
      · rw [if_neg hD, if_neg]
        rw [D_set hjs]
        rintro (h1 | h1)
        · exact hD h1
        · exact hij h1
  · have hij : i ≠ j := fun e => by subst e; rw [(D_set hjs i).2 (.inr rfl)] at hD; cases hD
    have hD' : listed.getD i false = false := by
      cases hq' : listed.getD i false with
      | false => rfl
      | true => rw [(D_set hjs i).2 (.inl hq')] at hD; cases hD
    exact hf _ (h.f1 i hi hD') (by omega)
  · exact hf k (h.f2 k hk) (by omega)
  · exact hf k (h.f3 k hk hk0) (by omega)

/-- What the next operation reads is what it reads in the text. -/
theorem J.reads {listed : Array Bool} {a : Act} {w : World} {ρ : Rho} {g : G} {K : Nat} (st : Stat X ops) (hS : ∀ j o, ops[j]? = some o → DStep X cf nt c ops j o (S j) (S (j + 1))) (h : J X nt c ops S ρ0 g0 ro w0 listed a w ρ g K) {j : Nat} {o : Oper} (hx : Nxt X ops listed j o)
    (hnw : isW X o.op = false) {b off : Nat} {l : List Sc} (hc : b < c ∨ c + ops.length ≤ b ∨ ((befs ops).getD j 0).testBit (b - c) = true) (hl : (S j).h.load b off l.length = some l) (hsb : sameBefore ((befs ops).getD j 0) b off l (S j).ss = true) (hsp : (⟨j, b, off, l⟩ : Lo) ∈ (S (j + 1)).sp) :
    ∃ bl, g b = some bl ∧ off + l.length ≤ bl.length ∧ l = (bl.drop off).take l.length := by
  have hj := (List.getElem?_eq_some_iff.1 hx.op).1
  have hN : ∀ i, NId c ops b i → ((befs ops).getD j 0).testBit i = true := fun i hi => by
    obtain ⟨e, oi, hoi, _⟩ := hi
    have := (List.getElem?_eq_some_iff.1 hoi).1
    rcases hc with hc | hc | hc
    · omega
    · omega
    · rwa [show b - c = i by omega] at hc
  have hNj : ∀ i, NId c ops b i → i < j := fun i hi => bef_lt st j o hx.op i (hN i hi)
  have hkn := h.kn
  -- one step of the text
  have one : ∀ m, m < ops.length → ¬ WW X ops S m → (∀ i, NId c ops b i → i < m) → (S (m + 1)).h.get b = (S m).h.get b := fun m hm hw hn =>
    stay hS (x := b) (a := m) hn (m + 1) (by omega) (by omega) fun k h1 h2 hwk => by
      have : k = m := by omega
      subst this
      exact absurd hwk hw
  have claim : ∀ M, K ≤ M → M ≤ ops.length → (M ≤ j ∨ M = K) → (∀ i, NId c ops b i → i < M) → (S M).h.load b off l.length = some l := by
    intro M hKM hMn hMj hNM
    by_cases hle : M ≤ j
    · -- back from j
      have down : ∀ d m, m + d = j → M ≤ m → (S m).h.load b off l.length = some l := by
        intro d
        induction d with
        | zero => intro m e _; have : m = j := by omega
                  subst this; exact hl
        | succ d ih =>
          intro m e hm
          have ih' := ih (m + 1) (by omega) (by omega)
          by_cases hw : WW X ops S m
          · obtain ⟨om, hom, hwm, hwant⟩ := id hw
            obtain ⟨v, h', _, _, _, _, _, hss⟩ := (hS m om hom).write hwm hwant
            have hmem : (⟨m, (S m).h⟩ : Sn) ∈ (S j).ss := (notes_stay hS (a := m + 1) j (by omega) (by omega)).2 _ (by rw [hss]; simp)
            have hs := allB_mem hsb hmem
            simp only [Bool.or_eq_true, decide_eq_true_eq] at hs
            rcases hs with hs | hs
            · have := (h.kw m om hom hwm).1 (hx.bef m hs); omega
            · exact hs
          · have e1 := one m (by omega) hw fun i hi => by have := hNM i hi; omega
            unfold H.load at ih' ⊢
            rw [← e1]; exact ih'
      exact down (j - M) M (by omega) (Nat.le_refl _)
    · have hMK : M = K := by omega
      have up : ∀ d, j + d ≤ K → (S (j + d)).h.load b off l.length = some l := by
        intro d
        induction d with
        | zero => intro _; exact hl
        | succ d ih =>
          intro hd
          have ih' := ih (by omega)
          by_cases hw : WW X ops S (j + d)
          · obtain ⟨om, hom, hwm, hwant⟩ := id hw
            have hdj : d ≠ 0 := by
              rintro rfl
              rw [Nat.add_zero, hx.op] at hom
              injection hom with hom
              subst hom
              rw [hnw] at hwm; cases hwm
            obtain ⟨v, h', _, _, hsl, _, _, _⟩ := (hS (j + d) om hom).write hwm hwant
            have hmem : (⟨j, b, off, l⟩ : Lo) ∈ (S (j + d)).sp := (notes_stay hS (a := j + 1) (j + d) (by omega) (by omega)).1 _ hsp
            have hs := allB_mem hsl hmem
            simp only [Bool.or_eq_true, decide_eq_true_eq] at hs
            rcases hs with hs | hs
            · rw [hx.notAfter h.closed ((h.kw _ om hom hwm).2 (by omega))] at hs; cases hs
            · exact hs
          · have e1 := one (j + d) (by omega) hw fun i hi => by have := hNj i hi; omega
            unfold H.load at ih' ⊢
            rw [show j + (d + 1) = j + d + 1 by omega, e1]; exact ih'
      rw [hMK]
      have := up (K - j) (by omega)
      rwa [show j + (K - j) = K by omega] at this
  by_cases hex : ∃ i, NId c ops b i
  · obtain ⟨i, hi⟩ := hex
    have hij := hNj i hi
    rw [h.g2 b i hi, if_pos (hx.bef i (hN i hi))]
    have := claim (max K (i + 1)) (by omega) (by omega) (by omega) fun i' hi' => by have := hi.uniq hi'; omega
    exact H.load_get this
  · rw [h.g1 b fun i hi => hex ⟨i, hi⟩]
    exact H.load_get (claim K (Nat.le_refl _) hkn (.inr rfl) fun i hi => absurd ⟨i, hi⟩ hex)

end
end Go.AM
end

section
/- A region whose order is drawn comes to what it comes to in the text's order. No program here. -/
set_option linter.unusedSimpArgs false
set_option linter.unusedVariables false
set_option linter.unnecessarySimpa false
namespace Go.AM
open Go

section
variable {P : Program} {X : Env} {cf : CallF} {nt c : Nat} {ops : List Oper} {S : Nat → DS} {ρ0 : Rho} {g0 : G} {ro : Nat} {w0 : World}

theorem mem_looks {o : Oper} {t : Tmp} (h : Operand.tmp t ∈ o.op.operands.toList) : t ∈ o.looksAt ops.toArray := by
  unfold Oper.looksAt
  exact List.mem_append_left _ (List.mem_filterMap.2 ⟨_, h, rfl⟩)
theorem mem_guard {o : Oper} {j : Nat} {want : Bool} {d : Tmp} (hg : o.guard = some (j, want)) (hd : (ops[j]?).bind (·.dst) = some d) : d ∈ o.looksAt ops.toArray := by
  unfold Oper.looksAt
  refine List.mem_append_right _ ?_
  rw [hg]
  have hd' : ((ops.toArray[j]?).bind (·.dst)) = some d := by simpa using hd
  simp only [hd']
  simp

theorem J.step (hcf : CallOK P cf) (hT : X.T = tyOf P) (hSE : SEqOK P X) {listed : Array Bool} {a : Act} {w : World} {ρ : Rho} {g : G} {K : Nat} (st : Stat X ops) (hS : ∀ j o, ops[j]? = some o → DStep X cf nt c ops j o (S j) (S (j + 1))) (hpre : ∀ x j, NId c ops x j → (S 0).h.get x = none) (h : J X nt c ops S ρ0 g0 ro w0 listed a w ρ g K)
    {j : Nat} {o : Oper} (hx : Nxt X ops listed j o) {Q : Exit → Act → World → Prop} {C : Act → World → Prop} (hK : ∀ a' w' ρ' g' K', J X nt c ops S ρ0 g0 ro w0 (listed.setIfInBounds j true) a' w' ρ' g' K' → C a' w') : wpOp P ops.toArray Q j C a w := by
  classical
  have hstep := hS j o hx.op
  have hj := (List.getElem?_eq_some_iff.1 hx.op).1
  have hoi : ops.toArray[j]? = some o := by simpa using hx.op
  have hs' := hstep
  unfold DStep drawStep at hs'
  simp only [Option.bind_eq_some_iff] at hs'
  obtain ⟨b, hb, hs⟩ := hs'
  have hw := wanted_rel' (ρ := ρ) (a := a) (fun g want d hg hd => h.look st hx (mem_guard hg hd)) hb
  unfold wpOp
  rw [hoi]
  dsimp only
  rw [hw]
  have hroc := h.roc
  have hnx := h.nx
  have hid : ρ (c + j) = none := h.f1 j hj hx.out
  let ev : Operand → AV := fun x => if x ∈ o.op.operands.toList then (S j).fr.ev x else .top
  have hev : ∀ x, avR ρ (ev x) (a.eval x) := by
    intro x
    dsimp only [ev]
    split
    · rename_i hm
      cases x with
      | tmp t => exact h.look st hx (mem_looks hm)
      | const v => exact constAV_rel ρ v
      | func f => exact ⟨#[], rfl, trivial⟩
      | global g => trivial
    · trivial
  have hcong : ∀ hh id, aop X (S j).fr.ev hh id o.op = aop X ev hh id o.op := fun hh id => aop_congr fun x hm => (if_pos hm).symm
  have hcong2 : callee (S j).fr.ev o.op = callee ev o.op := callee_congr fun x hm => (if_pos hm).symm
  cases b with
  | false =>
    simp only [Bool.false_eq_true, if_false, Option.map_eq_some_iff, Prod.mk.injEq] at hs ⊢
    obtain ⟨f1, hp, hf, hh, hsp, hss⟩ := hs
    rw [hf] at hp
    obtain ⟨K', hJ⟩ := h.quiet st hS hpre hx (fun ⟨o', ho', _, hw'⟩ => by rw [hx.op] at ho'; injection ho' with ho'; subst ho'; rw [hb] at hw'; cases hw') (fun _ => hb) (undef_rel ρ) hp h.rel (Stp.refl ..) (fun _ _ _ h => h) (fun _ h _ => h)
    exact hK _ _ _ _ _ hJ
  | true =>
    simp only [if_true] at hs ⊢
    refine .inl ?_
    by_cases hww : isW X o.op = true
    · -- it writes
      obtain ⟨v, h', hop, hh, hsl, hp, hsp, hss⟩ := hstep.write hww hb
      obtain ⟨n1, n2, e1, e2, hsub⟩ := h.masked st hS hx (.inl hww)
      obtain ⟨m1, m2⟩ := maskH_nx c (maskOf ops ((befs ops).getD j 0)) (S j).h
      have hRm : Rel ρ (maskH (S j).h c (maskOf ops ((befs ops).getD j 0))).get (maskH (S j).h c (maskOf ops ((befs ops).getD j 0))).ro w := by
        rw [m2, n2]; exact h.rel.sub hsub (fun _ _ _ h => h)
      by_cases hc : isCall o.op = true
      · rw [if_pos hc] at hop
        simp only [Option.bind_eq_some_iff, Prod.exists] at hop
        obtain ⟨g', args, hcal, hcall⟩ := hop
        rw [hcong2] at hcal
        obtain ⟨vs, hvs, hrun⟩ := callee_run2 hev hcal w
        obtain ⟨hent, hcalls⟩ := hcf g' args _ v h' hcall
        unfold Oper.wp
        rw [hrun, hent]
        refine Calls.mono (hcalls ρ w vs hRm (by rw [m1, m2, n1, n2]; omega) (fun i hi => h.f2 i (by rw [m1, n1] at hi; exact hi)) hvs) fun e w' ⟨v', ρ', he, hv', hR', hst, hro', hnx', hfr', hlow, hborn⟩ => ?_
        subst he
        rw [m2, n2] at hst hro' hlow
        rw [m1] at hnx' hfr' hborn
        rw [hro'] at hR'
        obtain ⟨K', g2, hJ⟩ := h.write st hS hx hww hh hv' hp hR' hst hro' hnx' hlow (fun i hi _ => hborn i hi) (fun i hi _ => hfr' i hi)
        exact hK _ _ _ _ _ hJ
      · rw [if_neg hc, hcong] at hop
        have hlow := aop_low (by rw [m2, n2]; omega) hop
        have hborn := aop_born hop
        obtain ⟨v', w', ρ', hr, hv', hR', hst, hro', hnx', hfr'⟩ := aop_did (o := o) hT hSE hRm hid (by rw [m2, n2]; omega) hev hop
        rw [m2, n2] at hst hro' hlow
        rw [m1] at hnx'
        rw [hro'] at hR'
        obtain ⟨K', g2, hJ⟩ := h.write st hS hx hww hh hv' hp hR' hst hro' (by omega) hlow (fun i _ hi => hborn i hi) (fun i hi hne _ => hfr' i hi hne)
        have hk := hK _ _ _ _ _ hJ
        rcases hr with hr | ⟨hr, rfl⟩
        · exact Oper.wp_value hr hk
        · exact Oper.wp_skip hr hk
    · have hww' : isW X o.op = false := by simpa using hww
      have nW : ¬ WW X ops S j := fun ⟨o', ho', hwo, _⟩ => by rw [hx.op] at ho'; injection ho' with ho'; subst ho'; exact hww hwo
      rw [if_neg hww] at hs
      by_cases hc : isCall o.op = true
      · -- a call that only reads
        rw [if_pos hc] at hs
        simp only [Option.bind_eq_some_iff, Prod.exists] at hs
        obtain ⟨g', args, hcal, v, h', hcall, hs⟩ := hs
        split at hs
        · rename_i hflat
          simp only [Option.map_eq_some_iff, Prod.mk.injEq] at hs
          obtain ⟨f1, hp, hf, hh, hsp, hss⟩ := hs
          rw [hf] at hp
          obtain ⟨n1, n2, e1, e2, hsub⟩ := h.masked st hS hx (.inr hc)
          obtain ⟨m1, m2⟩ := maskH_nx c (maskOf ops ((befs ops).getD j 0)) (S j).h
          rw [hcong2] at hcal
          obtain ⟨vs, hvs, hrun⟩ := callee_run2 hev hcal w
          obtain ⟨hent, hcalls⟩ := hcf g' args _ v h' hcall
          unfold Oper.wp
          rw [hrun, hent]
          have hnone : ∀ i, (maskH (S j).h c (maskOf ops ((befs ops).getD j 0))).nx ≤ i → ρ i = none := fun i hi => h.f2 i (by rw [m1, n1] at hi; exact hi)
          refine Calls.mono (hcalls ρ w vs (h.rel.sub hsub fun i l _ hi => ?_) (Nat.le_refl _) hnone hvs) fun e w' ⟨v', ρ', he, hv', hR', hst, hro', hnx', hfr', hlow, hborn⟩ => ?_
          · have hi : (maskH (S j).h c (maskOf ops ((befs ops).getD j 0))).nx ≤ i := hi
            rw [m1, n1] at hi; omega
          · subst he
            have nokeep : ∀ b, ¬ Wr ρ (maskH (S j).h c (maskOf ops ((befs ops).getD j 0))).get (maskH (S j).h c (maskOf ops ((befs ops).getD j 0))).nx b := fun b ⟨i, l, p, hi, _, hp, _⟩ => by rw [hnone i hi] at hp; cases hp
            have hkeep : ∀ b, b < w.heap.size → w'.heap[b]? = w.heap[b]? := fun b hb => hst.keep b hb (nokeep b)
            obtain ⟨K', hJ⟩ := h.quiet st hS hpre hx nW (fun hn => by cases hop : o.op <;> simp [hop, isN, isCall] at hn hc) (flat_rel (ρ' := ρ) hflat hv') hp (h.rel.world hkeep) ⟨Rho.le_refl ρ, hst.os, hst.tape, hst.output, hst.size, fun b hb _ => hkeep b hb, fun _ _ h => h, hst.fz⟩ (fun _ _ _ h => h) (fun _ h _ => h)
            exact hK _ _ _ _ _ hJ
        · simp at hs
      · rw [if_neg hc] at hs
        by_cases hN : isN o.op = true
        · -- a new block
          rw [if_pos hN] at hs
          simp only [Option.bind_eq_some_iff, Option.map_eq_some_iff, Prod.exists, Prod.mk.injEq] at hs
          obtain ⟨v, he, hop, l, hl, f1, hp, hf, hh, hsp, hss⟩ := hs
          rw [hf] at hp
          rw [hcong] at hop
          have hborn : ∀ k, k ≠ c + j → he.get k = none := fun k hk => by
            cases hq : he.get k with
            | none => rfl
            | some y => exact absurd (hE_get k) (aop_born hop k hk (by rw [hq]; simp))
          obtain ⟨v', w', ρ', hr, hv', hR', hst, hfr'⟩ := (aop_did (o := o) hT hSE Rel.emp hid (Nat.zero_le _) hev hop).alone h.rel (by omega) hborn
          have hg : ∀ x, G.or he.get g x = if x = c + j then some l else g x := fun x => by
            unfold G.or
            by_cases e : x = c + j
            · subst e; rw [hl, if_pos rfl]
            · rw [hborn x e, if_neg e]
          have hJ := h.make st hS hx hN hh.symm hv' hp hR' hg hst hfr'
          have hk := hK _ _ _ _ _ hJ
          rcases hr with hr | ⟨hr, rfl⟩
          · exact Oper.wp_value hr hk
          · exact Oper.wp_skip hr hk
        · have hN' : isN o.op = false := by simpa using hN
          rw [if_neg hN] at hs
          -- what is left: no block is made or written
          have fin : ∀ {v : AV} {g1 : G} {v' : Value} {w' : World} {ρ' : Rho}, putS nt (S j).fr o.dst v = some (S (j + 1)).fr → avR ρ' v v' → Rel ρ' g ro w' → Stp ρ ρ' g g ro w w' → (∀ i, ρ i = none → i ≠ c + j → ρ' i = none) →
              ((execOp a.eval o).run P w = .ok (.value v') w' ∨ ((execOp a.eval o).run P w = .ok .skip w' ∧ v' = undef)) → o.wp P a w C Q := fun {v _ v' w' ρ'} hp hv' hR' hst hfr' hr => by
            obtain ⟨K', hJ⟩ := h.quiet st hS hpre hx nW (fun hn => absurd hn hN) hv' hp hR' hst (fun k hk hne he => hfr' _ he (by omega)) (fun k hk hkk => hfr' _ hk (by omega))
            have hk := hK _ _ _ _ _ hJ
            rcases hr with hr | ⟨hr, rfl⟩
            · exact Oper.wp_value hr hk
            · exact Oper.wp_skip hr hk
          split at hs
          · rename_i t x hopx
            split at hs
            · rename_i b' off hevx
              split at hs
              · simp at hs
              · rename_i hty
                split at hs
                · rename_i hcond
                  simp only [Option.bind_eq_some_iff] at hs
                  obtain ⟨l, hl, hs⟩ := hs
                  split at hs
                  · rename_i hsb
                    simp only [Option.bind_eq_some_iff, Option.map_eq_some_iff, Prod.mk.injEq] at hs
                    obtain ⟨v, hv, f1, hp, hf, hh, hsp, hss⟩ := hs
                    rw [hf] at hp
                    have hlen : l.length = (X.T t).size := by
                      obtain ⟨bl, _, h1, h2⟩ := H.load_get hl
                      rw [h2, List.length_take, List.length_drop]; omega
                    obtain ⟨bl, hgb, hble, hbl⟩ := h.reads st hS hx hww' hcond (by rw [hlen]; exact hl) hsb (by rw [← hsp]; simp)
                    let h1 : H := H.put ⟨.nil, 0, ro⟩ b' bl
                    have h1g : ∀ x, h1.get x = if x = b' then some bl else none := fun x => by
                      show (H.put ⟨.nil, 0, ro⟩ b' bl).get x = _
                      rw [H.get_put]
                      split
                      · rfl
                      · rfl
                    have hR1 : Rel ρ h1.get h1.ro w := h.rel.sub (fun i l hi => by
                      rw [h1g] at hi
                      split at hi
                      · rename_i e; subst e; rw [← hi]; exact hgb
                      · cases hi) (fun _ _ _ h => h)
                    have hload : h1.load b' off (X.T t).size = some l := by
                      unfold H.load
                      rw [h1g, if_pos rfl, Option.bind_some, if_pos (by omega), ← hlen, ← hbl]
                    have hop : aop X (S j).fr.ev h1 (c + j) o.op = some (v, h1) := by
                      rw [hopx]
                      simp only [aop, hevx, if_neg hty, hload, Option.bind_some, hv, Option.map_some]
                    rw [hcong] at hop
                    obtain ⟨v', w', ρ', hr, hv', hR', hst, hro', hnx', hfr'⟩ := aop_did (o := o) hT hSE hR1 hid (show ro ≤ c + j by omega) hev hop
                    have e0 : G.or h1.get (fun x => if x = b' then none else g x) = g := funext fun x => by
                      unfold G.or
                      rw [h1g]
                      by_cases e : x = b'
                      · subst e; rw [if_pos rfl, hgb]
                      · rw [if_neg e]; simp [e]
                    have hR0 : Rel ρ (G.or h1.get (fun x => if x = b' then none else g x)) ro w := by rw [e0]; exact h.rel
                    obtain ⟨r1, r2⟩ := hR0.frame (gB := fun x => if x = b' then none else g x) (fun i l hi => by
                      rw [h1g]
                      split
                      · rename_i e; simp [e] at hi
                      · rfl) hR' hst (fun _ _ => rfl)
                    rw [e0] at r1 r2
                    exact fin (g1 := g) hp hv' r1 r2 hfr' hr
                  · simp at hs
                · simp at hs
            · simp at hs
          · simp only [Option.bind_eq_some_iff, Option.map_eq_some_iff, Prod.exists, Prod.mk.injEq] at hs
            obtain ⟨v, he, hop, f1, hp, hf, hh, hsp, hss⟩ := hs
            rw [hf] at hp
            rw [hcong] at hop
            have hee := aop_keep hN' hww' hop
            subst hee
            obtain ⟨v', w', ρ', hr, hv', hR', hst, hfr'⟩ := (aop_did (o := o) hT hSE Rel.emp hid (Nat.zero_le _) hev hop).alone h.rel (by omega) fun k _ => hE_get k
            have e0 : G.or hE.get g = g := funext fun x => by unfold G.or; rw [hE_get]
            rw [e0] at hR' hst
            exact fin (g1 := g) hp hv' hR' hst hfr' hr

theorem J.all (hcf : CallOK P cf) (hT : X.T = tyOf P) (hSE : SEqOK P X) (st : Stat X ops) (hS : ∀ j o, ops[j]? = some o → DStep X cf nt c ops j o (S j) (S (j + 1))) (hpre : ∀ x j, NId c ops x j → (S 0).h.get x = none) {Q : Exit → Act → World → Prop}
    (hQ : ∀ listed a w ρ g K, J X nt c ops S ρ0 g0 ro w0 listed a w ρ g K → (∀ i, i < ops.length → listed.getD i false = true) → Q .normal a w) :
    ∀ (n : Nat) (un : List Nat) (listed : Array Bool) (a : Act) (w : World) (ρ : Rho) (g : G) (K : Nat), un.length ≤ n → (∀ i, i < ops.length → listed.getD i false = false → i ∈ un) → J X nt c ops S ρ0 g0 ro w0 listed a w ρ g K → wpAny P .any ops.toArray Q n listed a w := by
  have getT : ∀ {listed : Array Bool} {i : Nat}, listed.size = ops.length → i < ops.length → listed.getD i true = listed.getD i false := fun {listed i} hsz hi => by
    simp [Array.getElem?_eq_getElem (show i < listed.size by omega)]
  -- some operation is always ready
  have ready : ∀ {listed : Array Bool}, listed.size = ops.length → Region.ready .any ops.toArray listed = [] → ∀ i, i < ops.length → listed.getD i false = true := by
    intro listed hsz hr i
    induction i using Nat.strongRecOn with
    | _ i ih =>
      intro hi
      cases hq : listed.getD i false with
      | true => rfl
      | false =>
        have ho : ops[i]? = some ops[i] := List.getElem?_eq_getElem hi
        have : i ∈ Region.ready .any ops.toArray listed := mem_ready.2 ⟨by rw [getT hsz hi]; exact hq, ops[i], by simpa using ho, fun e he hb => by
          have hlt := st.edge i _ ho e (by simpa using he) hb
          exact ih e.on hlt (by omega)⟩
        rw [hr] at this; cases this
  intro n
  induction n with
  | zero =>
    intro un listed a w ρ g K hun hin h
    have hnil : un = [] := by cases un with | nil => rfl | cons => simp at hun
    subst hnil
    have hall : ∀ i, i < ops.length → listed.getD i false = true := fun i hi => by
      cases hq : listed.getD i false with
      | true => rfl
      | false => have := hin i hi hq; cases this
    refine ⟨?_, hQ _ _ _ _ _ _ h hall⟩
    rw [List.eq_nil_iff_forall_not_mem]
    intro i hi
    obtain ⟨h1, o, ho, _⟩ := mem_ready.1 hi
    have hlt : i < ops.length := by have := (Array.getElem?_eq_some_iff.1 ho).1; simpa using this
    rw [getT h.size hlt, hall i hlt] at h1
    cases h1
  | succ n ih =>
    intro un listed a w ρ g K hun hin h
    refine ⟨fun hr => hQ _ _ _ _ _ _ h (ready h.size hr), fun j hj => ?_⟩
    obtain ⟨h1, o, ho, hedge⟩ := mem_ready.1 hj
    have hlt : j < ops.length := by have := (Array.getElem?_eq_some_iff.1 ho).1; simpa using this
    rw [getT h.size hlt] at h1
    have ho' : ops[j]? = some o := by simpa using ho
    have hx : Nxt X ops listed j o := ⟨ho', h1, fun i hb => by
      obtain ⟨e, he, hbi, hi⟩ := befs_spec ho' hb
      have hle := hedge e (by simpa using he) hbi
      rcases hi with rfl | hi
      · exact hle
      · exact h.closed _ hle i hi⟩
    refine h.step hcf hT hSE st hS hpre hx fun a' w' ρ' g' K' hJ => ih (un.erase j) _ a' w' ρ' g' K' ?_ (fun i hi hq => ?_) hJ
    · rw [List.length_erase_of_mem (hin j hlt h1)]; omega
    · have hjs : j < listed.size := by rw [h.size]; exact hlt
      have hne : i ≠ j := fun e => by subst e; rw [(D_set hjs i).2 (.inr rfl)] at hq; cases hq
      refine (List.mem_erase_of_ne hne).2 (hin i hi ?_)
      cases hq' : listed.getD i false with
      | false => rfl
      | true => rw [(D_set hjs i).2 (.inl hq')] at hq; cases hq

end

/-- A region whose order is drawn. -/
theorem drawA_run {P : Program} (hm : P.follows .mixedOrders = true) {X : Env} {cf : CallF} (hcf : CallOK P cf) (hT : X.T = tyOf P) (hSE : SEqOK P X) {nt : Nat} {ops : List Oper} (hok : drawOK X ops = true) {fr fr' : Fr} {h h' : H}
    (hd : drawA X cf nt h.nx ops (befs ops) 0 ops fr { h with nx := h.nx + ops.length } [] [] = some (fr', h')) {ρ : Rho} {a : Act} {w : World} (hfr : FrR ρ nt fr a) (hR : Rel ρ h.get h.ro w) (hro : h.ro ≤ h.nx) (hfresh : ∀ k, h.nx ≤ k → ρ k = none) {id : Nat} {Q : Exit → Act → World → Prop}
    (hQ : ∀ a' w' ρ', Ran nt h.nx ρ h w fr' h' a' w' ρ' → Q .normal a' w') : (Code.region id ops.toArray true).wp P Q a w := by
  obtain ⟨S, hS0, hSs, hSf, hSh⟩ := draw_text ops 0 fr _ [] [] fr' h' (by simp) (Nat.zero_le _) hd
  have st := stat_of hok
  have hS : ∀ j o, ops[j]? = some o → DStep X cf nt h.nx ops j o (S j) (S (j + 1)) := fun j o ho => hSs j o (Nat.zero_le _) ho
  have hhigh : ∀ x, h.nx ≤ x → h.get x = none := fun x hx => by
    cases hq : h.get x with
    | none => rfl
    | some l =>
      obtain ⟨b, base, room, hp, _⟩ := hR.blk x l hq
      rw [hfresh x hx] at hp; cases hp
  have hg0 : ∀ x, (S 0).h.get x = h.get x := fun x => by rw [hS0]; rfl
  have hpre : ∀ x j, NId h.nx ops x j → (S 0).h.get x = none := fun x j hx => by rw [hg0, hhigh x (by have := hx.1; omega)]
  refine wp_region_any hm ?_
  have hrep : ∀ i : Nat, (Array.replicate ops.toArray.size false).getD i false = false := fun i => by
    simp only [Array.getD_eq_getD_getElem?, Array.getElem?_replicate]
    split <;> rfl
  have hJ0 : J X nt h.nx ops S ρ h.get h.ro w (Array.replicate ops.toArray.size false) a { w with drawn := w.drawn + 1 } ρ h.get 0 := by
    refine ⟨by simp, fun j hj => ?_, Nat.zero_le _, fun k o _ _ => ?_, .inl rfl, fun t m hm hw => ?_, hfr.sz, hfr.df, hR.world fun _ _ => rfl, fun x _ => (hg0 x).symm, fun x j hx => ?_, ?_, fun i _ _ => hfresh _ (by omega), fun k hk => hfresh k ?_, fun k _ hk => hk, by rw [hS0], by rw [hS0]; exact Nat.le_refl _, fun i _ => hg0 i, fun i _ hi => by rw [hg0] at hi; exact hi, hro⟩
    · rw [hrep] at hj; cases hj
    · rw [hrep]; simp
    · have hst : (S m).fr.get t = (S 0).fr.get t := slot_stay hS m (Nat.zero_le _) hm fun k o _ hk ho hd => by
        have := (hw k o ho hd).2 hk
        rw [hrep] at this; cases this
      rw [hst, hS0]
      exact hfr.v t
    · rw [hrep, hhigh x (by have := hx.1; omega)]; rfl
    · exact ⟨Rho.le_refl ρ, rfl, rfl, rfl, Nat.le_refl _, fun _ _ _ => rfl, fun _ _ h => h, fun _ => rfl⟩
    · rw [hS0] at hk
      have hk : h.nx + ops.length ≤ k := hk
      omega
  refine J.all hcf hT hSE st hS hpre (ρ0 := ρ) (g0 := h.get) (ro := h.ro) (w0 := w) (fun listed a' w' ρ' g K hJ hall => hQ a' w' ρ' ?_) ops.toArray.size (List.range ops.length) _ a _ ρ h.get 0 (by simp) (fun i hi _ => List.mem_range.2 hi) hJ0
  have hkn := hJ.kn
  have hnoW : ∀ k, K ≤ k → ¬ WW X ops S k := fun k hk ⟨o, ho, hw, _⟩ => by
    have := (hJ.kw k o ho hw).1 (hall k (List.getElem?_eq_some_iff.1 ho).1); omega
  have hgf : ∀ x, g x = h'.get x := by
    intro x
    rw [← hSh]
    by_cases hex : ∃ i, NId h.nx ops x i
    · obtain ⟨i, hi⟩ := hex
      have hil : i < ops.length := (List.getElem?_eq_some_iff.1 hi.2.choose_spec.1).1
      rw [hJ.g2 x i hi, if_pos (hall i hil)]
      exact (stay hS (x := x) (a := max K (i + 1)) (fun i' hi' => by have := hi.uniq hi'; omega) ops.length (by omega) (Nat.le_refl _) fun k h1 h2 hw => absurd hw (hnoW k (by omega))).symm
    · rw [hJ.g1 x fun i hi => hex ⟨i, hi⟩]
      exact (stay hS (x := x) (a := K) (fun i hi => absurd ⟨i, hi⟩ hex) ops.length hkn (Nat.le_refl _) fun k h1 h2 hw => absurd hw (hnoW k h1)).symm
  obtain ⟨n1, n2⟩ := stay_nx hS (a := K) ops.length hkn (Nat.le_refl _) fun k h1 _ => hnoW k h1
  rw [hSh] at n1 n2
  have hro' : h'.ro = h.ro := n2.trans hJ.ro_
  have hgf' : g = h'.get := funext hgf
  subst hgf'
  have noN : ∀ x, x < h.nx → ∀ i, ¬ NId h.nx ops x i := fun x hx i hi => by have := hi.1; omega
  refine ⟨⟨fun t => ?_, hJ.sz, hJ.df⟩, by rw [hro']; exact hJ.rel, hJ.stp, hro', by have := hJ.nx; omega, fun i hi hii => ?_, fun i hi => ?_, fun i hi hn => ?_⟩
  · rw [← hSf]
    exact hJ.slots t ops.length (Nat.le_refl _) fun i o ho _ => ⟨fun _ => (List.getElem?_eq_some_iff.1 ho).1, fun hlt => hall i hlt⟩
  · rcases hii with hii | hii
    · exact hJ.f3 i hii hi
    · exact hJ.f2 i (by omega)
  · rw [hJ.g1 i (noN i (by omega))]; exact hJ.low i hi
  · rw [hJ.g1 i (noN i hi)] at hn; exact hJ.born i hi hn

end Go.AM
end

section
/- What the machine computes is what every run of the model computes. No program here. -/
set_option linter.unusedSimpArgs false
set_option linter.unusedVariables false
set_option linter.unnecessarySimpa false
namespace Go.AM
open Go

/-- The machine is told the truth of the program. -/
structure EnvOK (P : Program) (X : Env) : Prop where
  mixed : P.follows .mixedOrders = true
  T : X.T = tyOf P
  eq : SEqOK P X
  F : ∀ f fn, X.F f = some fn → P.funcs[f]? = some fn ∧ (fn.name == "runtime.NumGoroutine") = false
  E : ∀ f g args v, X.E f = some g → g args = some v → v.flat = true → (∀ vs w, (callFunc f vs).run P w = .ok (.enter f vs) w) ∧ ∀ (ρ : Rho) (vs : Array Value) w, LR (avR ρ) args vs.toList →
    Calls P f vs w fun e w' => ∃ v', e = .returned v' ∧ avR (fun _ => none) v v' ∧ w'.os = w.os ∧ w'.tape = w.tape ∧ w'.output = w.output ∧ w.heap.size ≤ w'.heap.size ∧ (∀ b, b < w.heap.size → w'.heap[b]? = w.heap[b]?) ∧ ∀ a, w'.frozen? a = w.frozen? a

def Ex.out : Ex → Exit
  | .norm => .normal
  | .exit id => .exit id
  | .ret => .ret

theorem Ran.trans {nt : Nat} {ρ ρ1 ρ2 : Rho} {h h1 h2 : H} {w w1 w2 : World} {f1 f2 : Fr} {a1 a2 : Act} (x : Ran nt h.nx ρ h w f1 h1 a1 w1 ρ1) (y : Ran nt h1.nx ρ1 h1 w1 f2 h2 a2 w2 ρ2) : Ran nt h.nx ρ h w f2 h2 a2 w2 ρ2 where
  fr := y.fr
  rel := y.rel
  stp := by have := y.stp; rw [x.ro] at this; exact x.stp.trans this
  ro := y.ro.trans x.ro
  nx := Nat.le_trans x.nx y.nx
  fresh i hi hii := y.fresh i (x.fresh i hi (hii.imp id fun h => Nat.le_trans y.nx h)) (hii.imp (fun h => Nat.lt_of_lt_of_le h x.nx) id)
  low i hi := (y.low i (by rw [x.ro]; exact hi)).trans (x.low i hi)
  born i hi hn := x.born i hi (y.born i (Nat.lt_of_lt_of_le hi x.nx) hn)

section
variable {P : Program} {X : Env}

def resultM (tmps : Array Value) : ResultVar → Sem Value
  | .tmp t => pure (tmps.getD t undef)
  | .cell x t => do loadVar t (← asAddr (tmps.getD x undef))

theorem resultA_run (hT : X.T = tyOf P) {ρ : Rho} {nt : Nat} {fr : Fr} {a : Act} (hfr : FrR ρ nt fr a) {h : H} {w : World} (hR : Rel ρ h.get h.ro w) {r : ResultVar} {e : Bool × List Sc} (hr : resultA X fr h r = some e) :
    ∃ v, elR ρ e v ∧ (resultM a.tmps r).run P w = .ok v w := by
  cases r with
  | tmp t => exact ⟨_, avEl_rel hr (hfr.v t), by simp [resultM]⟩
  | cell x t =>
    simp only [resultA] at hr
    split at hr
    · rename_i i o hx
      split at hr
      · simp at hr
      · rename_i hty
        simp only [Option.bind_eq_some_iff] at hr
        obtain ⟨l, hl, y, hy, hr⟩ := hr
        rw [hT] at hty hl hy
        have hv := hfr.v x
        rw [hx] at hv
        obtain ⟨v', hv', hrun⟩ := load_run (P := P) (t := t) (fun e => by rw [e] at hty; simp [Ty.isNone] at hty) hR hl hy hv
        refine ⟨v', avEl_rel hr hv', ?_⟩
        simp only [resultM]
        obtain ⟨b, base, room, _, hp⟩ := hv
        rw [hp] at hrun ⊢
        simpa [Instr.loadAt, Instr.sureAddr, asAddr] using hrun
    · simp at hr

theorem results_run (hT : X.T = tyOf P) {ρ : Rho} {nt : Nat} {fr : Fr} {a : Act} (hfr : FrR ρ nt fr a) {h : H} {w : World} (hR : Rel ρ h.get h.ro w) {fn : Func} {v : AV} (hr : resultsA X fn fr h = some v) : ∃ v', avR ρ v v' ∧ (results fn a.tmps).run P w = .ok v' w := by
  unfold resultsA at hr
  simp only [Option.bind_eq_some_iff] at hr
  obtain ⟨l, hl, hr⟩ := hr
  have key : ∀ (rs : List ResultVar) (l : List (Bool × List Sc)), allSome (rs.map (resultA X fr h)) = some l → ∃ vs : List Value, LR (elR ρ) l vs ∧
      (rs.mapM (resultM a.tmps)).run P w = .ok vs w := by
    intro rs
    induction rs with
    | nil => intro l h; simp [allSome] at h; subst h; exact ⟨[], trivial, by simp⟩
    | cons r rs ih =>
      intro l h
      simp only [List.map_cons, allSome, Option.bind_eq_some_iff, Option.map_eq_some_iff] at h
      obtain ⟨e, he, l', hl', rfl⟩ := h
      obtain ⟨v, hv, hrun⟩ := resultA_run hT hfr hR he
      obtain ⟨vs, hvs, hruns⟩ := ih l' hl'
      refine ⟨v :: vs, ⟨hv, hvs⟩, ?_⟩
      rw [List.mapM_cons, Sem.run_bind, hrun, Result.andThen_ok, Sem.run_bind, hruns]
      simp
  obtain ⟨vs, hvs, hrun⟩ := key fn.results.toList l hl
  have hmap : (fn.results.mapM (resultM a.tmps)).run P w = .ok vs.toArray w := by
    rw [Array.mapM_eq_mapM_toList]
    simp only [Sem.run_map, hrun, Result.andThen_ok]
  refine ⟨if h : vs.toArray.size = 1 then vs.toArray[0] else .tuple vs.toArray, ?_, ?_⟩
  · match l, vs, hvs, hr with
    | [x], [v'], hvs, hr => exact elAV_rel hr hvs.1
    | [], [], hvs, hr => simp at hr; subst hr; exact ⟨#[], rfl, trivial⟩
    | x :: y :: l, v1 :: v2 :: vs, hvs, hr =>
      simp at hr; subst hr
      refine ⟨(v1 :: v2 :: vs).toArray, ?_, hvs⟩
      rw [dif_neg (by simp)]
    | [], _ :: _, hvs, _ => exact hvs.elim
    | _ :: _, [], hvs, _ => exact hvs.elim
    | [x], _ :: _ :: _, hvs, _ => exact hvs.2.elim
    | _ :: _ :: _, [_], hvs, _ => exact hvs.2.elim
  · have : results fn a.tmps = (do
        let vs ← fn.results.mapM (resultM a.tmps)
        pure (if h : vs.size = 1 then vs[0] else .tuple vs)) := by
      unfold results
      congr 1
    rw [this, Sem.run_bind, hmap, Result.andThen_ok]
    simp

theorem regionA_run (hX : EnvOK P X) {cf : CallF} (hcf : CallOK P cf) {nt : Nat} {ops : Array Oper} {draw : Bool} {fr fr' : Fr} {h h' : H} (hr : regionA X cf nt ops draw fr h = some (fr', h'))
    {ρ : Rho} {a : Act} {w : World} (hfr : FrR ρ nt fr a) (hR : Rel ρ h.get h.ro w) (hro : h.ro ≤ h.nx) (hfresh : ∀ k, h.nx ≤ k → ρ k = none) {id : Nat} {Q : Exit → Act → World → Prop}
    (hQ : ∀ a' w' ρ', Ran nt h.nx ρ h w fr' h' a' w' ρ' → Q .normal a' w') : (Code.region id ops draw).wp P Q a w := by
  unfold regionA at hr
  dsimp only at hr
  cases draw with
  | true =>
    rw [if_pos rfl] at hr
    split at hr
    · rename_i hok
      exact drawA_run (ops := ops.toList) hX.mixed hcf hX.T hX.eq hok hr hfr hR hro hfresh hQ
    · simp at hr
  | false =>
    rw [if_neg (by simp)] at hr
    refine wp_region ?_
    rw [List.range_eq_range', show ops.size = ops.toList.length by simp]
    refine seqA_run (ops := ops.toList) (c := h.nx) hcf hX.T hX.eq ops.toList 0 fr fr' { h with nx := h.nx + ops.toList.length } h' ρ a w (by simp) hr hfr hR hro (Nat.le_refl _) (fun j _ _ => hfresh _ (by omega)) (fun k hk => hfresh k ?_) fun a' w' ρ' hran => hQ a' w' ρ' ⟨hran.fr, hran.rel, hran.stp, hran.ro, ?_, hran.fresh, hran.low, hran.born⟩
    · have hk : h.nx + ops.toList.length ≤ k := hk
      omega
    · have := hran.nx
      have : h.nx + ops.toList.length ≤ h'.nx := this
      omega

/-- The code of a body. -/
def RunOK (P : Program) (X : Env) (n : Nat) : Prop := ∀ nt c fr h e fr' h', runA X n nt c fr h = some (e, fr', h') → ∀ (ρ : Rho) (a : Act) (w : World), FrR ρ nt fr a → Rel ρ h.get h.ro w → h.ro ≤ h.nx → (∀ k, h.nx ≤ k → ρ k = none) →
  ∀ Q : Exit → Act → World → Prop, (∀ a' w' ρ', Ran nt h.nx ρ h w fr' h' a' w' ρ' → Q e.out a' w') → c.wp P Q a w ∧ ∀ b, c = .loop b → Code.rounds P b Q n a w

theorem callA_ok (hX : EnvOK P X) {n : Nat} (hn : RunOK P X n) : CallOK P (callA X (runA X n)) := by
  intro f args h v h' hc
  unfold callA at hc
  split at hc
  · rename_i g hg
    simp only [Option.bind_eq_some_iff] at hc
    obtain ⟨v0, hv0, hc⟩ := hc
    split at hc
    · rename_i hflat
      simp only [Option.some.injEq, Prod.mk.injEq] at hc
      obtain ⟨rfl, rfl⟩ := hc
      obtain ⟨h1, h2⟩ := hX.E f g args v0 hg hv0 hflat
      refine ⟨h1, fun ρ w vs hR hro hfresh hvs => Calls.mono (h2 ρ vs w hvs) fun e w' ⟨v', he, hv', k1, k2, k3, k4, k5, k6⟩ => ⟨v', ρ, he, flat_rel hflat hv', hR.world k5, ⟨Rho.le_refl ρ, k1, k2, k3, k4, fun b hb _ => k5 b hb, fun _ _ h => h, k6⟩, rfl, Nat.le_refl _, fun _ h _ => h, fun _ _ => rfl, fun _ _ h => h⟩⟩
    · simp at hc
  · simp only [Option.bind_eq_some_iff] at hc
    obtain ⟨fn, hfn, c, hbody, hc⟩ := hc
    split at hc
    · rename_i hlen
      simp only [Option.bind_eq_some_iff, Prod.exists] at hc
      obtain ⟨e, fr, h1, hrun, hc⟩ := hc
      obtain ⟨hF, hname⟩ := hX.F f fn hfn
      have hres : (e = .norm ∨ e = .ret) ∧ resultsA X fn fr h1 = some v ∧ h1 = h' := by
        cases e with
        | norm => simp only [Option.map_eq_some_iff, Prod.mk.injEq] at hc; obtain ⟨_, h1, rfl, rfl⟩ := hc; exact ⟨.inl rfl, h1, rfl⟩
        | ret => simp only [Option.map_eq_some_iff, Prod.mk.injEq] at hc; obtain ⟨_, h1, rfl, rfl⟩ := hc; exact ⟨.inr rfl, h1, rfl⟩
        | exit id => simp at hc
      obtain ⟨he, hres, rfl⟩ := hres
      refine ⟨fun vs w => ?_, fun ρ w vs hR hro hfresh hvs => ?_⟩
      · unfold callFunc
        have : fn.body.isNone = false := by rw [hbody]; rfl
        simp only [Sem.run_bind, Result.andThen_ok]
        have hname' : fn.name ≠ "runtime.NumGoroutine" := by simpa using hname
        have hbn : fn.body ≠ none := by rw [hbody]; simp
        simp [hF, hname', hbn]
      · refine calls_of_wp hF hbody ?_
        have hsz : vs.size = args.length := by rw [← Array.length_toList]; exact hvs.length.symm
        have hfr : FrR ρ fn.ntmps (Fr.of 0 args .nil) { tmps := vs ++ Array.replicate (fn.ntmps - vs.size) undef, defers := [] } := by
          refine ⟨fun i => ?_, by simp; omega, rfl⟩
          have hget : Fr.get (Fr.of 0 args .nil) i = (args[i]?).getD undefA := by
            rw [Fr.get_of, Fr.get_nil]
            by_cases hi : i < args.length
            · rw [if_pos (by omega)]; simp
            · rw [if_neg (by omega), List.getElem?_eq_none (by omega)]; rfl
          rw [hget]
          by_cases hi : i < args.length
          · have hx : args[i]? = some args[i] := List.getElem?_eq_getElem hi
            obtain ⟨y, hy, hr⟩ := hvs.get hx
            rw [hx]
            have hy' : vs[i]? = some y := by simpa using hy
            have : (vs ++ Array.replicate (fn.ntmps - vs.size) undef)[i]? = some y := by
              rw [Array.getElem?_append_left (by omega)]; exact hy'
            simp only [Array.getD_eq_getD_getElem?, this]
            exact hr
          · rw [List.getElem?_eq_none (by omega)]
            have : (vs ++ Array.replicate (fn.ntmps - vs.size) undef).getD i undef = undef := by
              simp only [Array.getD_eq_getD_getElem?]
              rw [Array.getElem?_append_right (by omega), Array.getElem?_replicate]
              split <;> rfl
            simp only [this]
            exact undef_rel ρ
        refine (hn fn.ntmps c (Fr.of 0 args .nil) h e fr h1 hrun ρ _ w hfr hR hro hfresh _ fun a' w' ρ' hran => ?_).1
        obtain ⟨v', hv', hrr⟩ := results_run hX.T hran.fr hran.rel hres
        have : bodyPost P fn (fun e w' => ∃ v' ρ', e = .returned v' ∧ avR ρ' v v' ∧ Rel ρ' h1.get h1.ro w' ∧ Stp ρ ρ' h.get h1.get h.ro w w' ∧ h1.ro = h.ro ∧ h.nx ≤ h1.nx ∧ (∀ i, ρ i = none → (i < h.nx ∨ h1.nx ≤ i) → ρ' i = none) ∧ (∀ i, i < h.ro → h1.get i = h.get i) ∧ (∀ i, i < h.nx → h1.get i ≠ none → h.get i ≠ none)) .ret a' w' :=
          ⟨hran.fr.df, v', hrr, v', ρ', rfl, hv', hran.rel, hran.stp, hran.ro, hran.nx, hran.fresh, hran.low, hran.born⟩
        rcases he with rfl | rfl
        · exact this
        · exact this
    · simp at hc

theorem runA_ok (hX : EnvOK P X) : ∀ n, RunOK P X n := by
  intro n
  induction n with
  | zero => intro nt c fr h e fr' h' hr; simp [runA] at hr
  | succ n ih =>
    have hcf := callA_ok hX ih
    intro nt c fr h e fr' h' hr ρ a w hfr hR hro hfresh Q hQ
    have hrefl : Ran nt h.nx ρ h w fr h a w ρ := ⟨hfr, hR, Stp.refl .., rfl, Nat.le_refl _, fun _ h _ => h, fun _ _ => rfl, fun _ _ h => h⟩
    cases c with
    | skip =>
      simp only [runA, Option.some.injEq, Prod.mk.injEq] at hr
      obtain ⟨rfl, rfl, rfl⟩ := hr
      exact ⟨wp_skip (hQ a w ρ hrefl), fun b hb => by cases hb⟩
    | label l =>
      simp only [runA, Option.some.injEq, Prod.mk.injEq] at hr
      obtain ⟨rfl, rfl, rfl⟩ := hr
      exact ⟨wp_label (hQ a w ρ hrefl), fun b hb => by cases hb⟩
    | exit id =>
      simp only [runA, Option.some.injEq, Prod.mk.injEq] at hr
      obtain ⟨rfl, rfl, rfl⟩ := hr
      exact ⟨wp_exit (hQ a w ρ hrefl), fun b hb => by cases hb⟩
    | ret =>
      simp only [runA, Option.some.injEq, Prod.mk.injEq] at hr
      obtain ⟨rfl, rfl, rfl⟩ := hr
      exact ⟨wp_ret (hQ a w ρ hrefl), fun b hb => by cases hb⟩
    | region id ops draw =>
      simp only [runA, Option.map_eq_some_iff, Prod.mk.injEq, Prod.exists] at hr
      obtain ⟨f1, h1, hreg, rfl, rfl, rfl⟩ := hr
      exact ⟨regionA_run hX hcf hreg hfr hR hro hfresh hQ, fun b hb => by cases hb⟩
    | seq x y =>
      refine ⟨wp_seq ?_, fun b hb => by cases hb⟩
      simp only [runA] at hr
      split at hr
      · rename_i f1 h1 hx
        refine (ih nt x fr h _ f1 h1 hx ρ a w hfr hR hro hfresh _ fun a1 w1 ρ1 hran => ?_).1
        refine (ih nt y f1 h1 _ fr' h' hr ρ1 a1 w1 hran.fr hran.rel (by have := hran.ro; have := hran.nx; omega) (fun k hk => hran.fresh k (hfresh k (Nat.le_trans hran.nx hk)) (.inr hk)) _ fun a2 w2 ρ2 hran2 => ?_).1
        exact hQ a2 w2 ρ2 (hran.trans hran2)
      · rename_i hne
        refine (ih nt x fr h _ fr' h' hr ρ a w hfr hR hro hfresh _ fun a1 w1 ρ1 hran => ?_).1
        have := hQ a1 w1 ρ1 hran
        cases e with
        | norm => exact absurd hr (hne fr' h')
        | exit id => exact this
        | ret => exact this
    | cond b x y =>
      refine ⟨?_, fun b hb => by cases hb⟩
      simp only [runA] at hr
      split at hr
      · rename_i t ht
        have hb := hfr.ev b
        rw [ht] at hb
        exact wp_cond (t := t) hb (ih nt _ fr h _ fr' h' hr ρ a w hfr hR hro hfresh _ hQ).1
      · simp at hr
    | block id b =>
      refine ⟨wp_block ?_, fun b hb => by cases hb⟩
      simp only [runA] at hr
      split at hr
      · rename_i j f1 h1 hx
        refine (ih nt b fr h _ f1 h1 hx ρ a w hfr hR hro hfresh _ fun a1 w1 ρ1 hran => ?_).1
        show if j = id then Q .normal a1 w1 else Q (.exit j) a1 w1
        split at hr
        · rename_i hj
          rw [if_pos hj]
          simp only [Option.some.injEq, Prod.mk.injEq] at hr
          obtain ⟨rfl, rfl, rfl⟩ := hr
          exact hQ a1 w1 ρ1 hran
        · rename_i hj
          rw [if_neg hj]
          simp only [Option.some.injEq, Prod.mk.injEq] at hr
          obtain ⟨rfl, rfl, rfl⟩ := hr
          exact hQ a1 w1 ρ1 hran
      · rename_i hne
        refine (ih nt b fr h _ fr' h' hr ρ a w hfr hR hro hfresh _ fun a1 w1 ρ1 hran => ?_).1
        have := hQ a1 w1 ρ1 hran
        cases e with
        | norm => exact this
        | exit id => exact absurd hr (hne _ fr' h')
        | ret => exact this
    | loop b =>
      have hrounds : Code.rounds P b Q (n + 1) a w := by
        rw [rounds_succ]
        simp only [runA] at hr
        split at hr
        · rename_i f1 h1 hx
          refine (ih nt b fr h _ f1 h1 hx ρ a w hfr hR hro hfresh _ fun a1 w1 ρ1 hran => ?_).1
          refine (ih nt (.loop b) f1 h1 _ fr' h' hr ρ1 a1 w1 hran.fr hran.rel (by have := hran.ro; have := hran.nx; omega) (fun k hk => hran.fresh k (hfresh k (Nat.le_trans hran.nx hk)) (.inr hk)) Q fun a2 w2 ρ2 hran2 => ?_).2 b rfl
          exact hQ a2 w2 ρ2 (hran.trans hran2)
        · rename_i hne
          refine (ih nt b fr h _ fr' h' hr ρ a w hfr hR hro hfresh _ fun a1 w1 ρ1 hran => ?_).1
          have := hQ a1 w1 ρ1 hran
          cases e with
          | norm => exact absurd hr (hne fr' h')
          | exit id => exact this
          | ret => exact this
      exact ⟨wp_loop_rounds _ hrounds, fun b' hb => by injection hb with hb; subst hb; exact hrounds⟩
    | scope b =>
      refine ⟨wp_scope_straight ?_, fun b hb => by cases hb⟩
      simp only [runA] at hr
      refine (ih nt b fr h _ fr' h' hr ρ a w hfr hR hro hfresh _ fun a1 w1 ρ1 hran => ?_).1
      have := hQ a1 w1 ρ1 hran
      cases e with
      | norm => exact this
      | exit id => exact this
      | ret => exact this
    | _ => simp [runA] at hr

/-- A call of a function of the program. -/
theorem call_ok (hX : EnvOK P X) (n : Nat) : CallOK P (callA X (runA X n)) := callA_ok hX (runA_ok hX n)

end
end Go.AM
end
