/- A region whose order is drawn: whatever the order, the run of the model comes to what the machine's run in the text's order says. No program here. -/
import Derived.Test.YtlkbcjhemhmfoaaGreatDoorAm8
set_option linter.unusedSimpArgs false
set_option linter.unusedVariables false
namespace Go.AM
open Go

/-! ### What the edges say -/
theorem foldBits (f : Nat → Nat) : ∀ (es : List Edge) (s0 i : Nat), (es.foldl (fun s e => if Region.binds .any e then s ||| 2 ^ e.on ||| f e.on else s) s0).testBit i = true →
    s0.testBit i = true ∨ ∃ e ∈ es, Region.binds .any e = true ∧ (i = e.on ∨ (f e.on).testBit i = true)
  | [], s0, i, h => .inl h
  | e :: es, s0, i, h => by
    rw [List.foldl_cons] at h
    rcases foldBits f es _ i h with h | ⟨e', he', hb, h⟩
    · split at h
      · rename_i hb
        rw [Nat.testBit_or, Nat.testBit_or, Bool.or_eq_true, Bool.or_eq_true] at h
        rcases h with (h | h) | h
        · exact .inl h
        · rw [Nat.testBit_two_pow] at h
          exact .inr ⟨e, by simp, hb, .inl (by simpa using (of_decide_eq_true h).symm)⟩
        · exact .inr ⟨e, by simp, hb, .inr h⟩
      · exact .inl h
    · exact .inr ⟨e', by simp [he'], hb, h⟩

theorem befFrom_spec : ∀ (rest : List Oper) (acc : List Nat), (∀ i, i < acc.length → (befFrom rest acc).getD i 0 = acc.getD i 0) ∧
    (∀ k o, rest[k]? = some o → ∀ i, ((befFrom rest acc).getD (acc.length + k) 0).testBit i = true → ∃ e ∈ o.after.toList, Region.binds .any e = true ∧ (i = e.on ∨ ((befFrom rest acc).getD e.on 0).testBit i = true))
  | [], acc => ⟨fun _ _ => rfl, fun k o h => by simp at h⟩
  | o :: rest, acc => by
    obtain ⟨h1, h2⟩ := befFrom_spec rest (acc ++ [o.after.toList.foldl (fun s e => if Region.binds .any e then s ||| 2 ^ e.on ||| acc.getD e.on 0 else s) 0])
    rw [List.length_append, List.length_singleton] at h1 h2
    have keep : ∀ i, i < acc.length → (befFrom (o :: rest) acc).getD i 0 = acc.getD i 0 := fun i hi => by
      rw [befFrom, h1 i (by omega), List.getD_eq_getElem?_getD, List.getElem?_append_left hi, ← List.getD_eq_getElem?_getD]
    refine ⟨keep, fun k o' hk i hb => ?_⟩
    cases k with
    | zero =>
      simp at hk
      subst hk
      have e : (befFrom (o :: rest) acc).getD (acc.length + 0) 0 = o.after.toList.foldl (fun s e => if Region.binds .any e then s ||| 2 ^ e.on ||| acc.getD e.on 0 else s) 0 := by
        rw [befFrom, h1 _ (by omega), List.getD_eq_getElem?_getD, List.getElem?_append_right (by omega)]
        simp
      rw [e] at hb
      rcases foldBits (fun i => acc.getD i 0) _ 0 i hb with hb | ⟨e', he', hbi, hb⟩
      · simp at hb
      · refine ⟨e', he', hbi, hb.imp id fun hb => ?_⟩
        by_cases hl : e'.on < acc.length
        · rw [keep _ hl]; exact hb
        · rw [List.getD_eq_getElem?_getD, List.getElem?_eq_none (by omega)] at hb
          simp at hb
    | succ k =>
      have hk' : rest[k]? = some o' := by simpa using hk
      have := h2 k o' hk' i (by rw [befFrom] at hb; rw [show acc.length + 1 + k = acc.length + (k + 1) by omega]; exact hb)
      rw [befFrom]
      exact this

theorem befs_spec {ops : List Oper} {j : Nat} {o : Oper} (ho : ops[j]? = some o) {i : Nat} (h : ((befs ops).getD j 0).testBit i = true) : ∃ e ∈ o.after.toList, Region.binds .any e = true ∧ (i = e.on ∨ ((befs ops).getD e.on 0).testBit i = true) := by
  have := (befFrom_spec ops []).2 j o ho i
  simp only [List.length_nil, Nat.zero_add] at this
  exact this h

/-- The facts that the static look gives. -/
structure Stat (X : Env) (ops : List Oper) : Prop where
  edge : ∀ j o, ops[j]? = some o → ∀ e ∈ o.after.toList, Region.binds .any e = true → e.on < j
  pair : ∀ i j oi oj, i < j → ops[i]? = some oi → ops[j]? = some oj → ((befs ops).getD j 0).testBit i = true ∨
    ((∀ d, oi.dst = some d → d ∉ oj.looksAt ops.toArray ∧ oj.dst ≠ some d) ∧ (∀ d, oj.dst = some d → d ∉ oi.looksAt ops.toArray) ∧ ¬ (isW X oi.op = true ∧ (isW X oj.op = true ∨ isCall oj.op = true)) ∧ ¬ (isW X oj.op = true ∧ isCall oi.op = true))

theorem upTo_mem {n : Nat} {p : Nat → Bool} (h : upTo n p = true) {i : Nat} (hi : i < n) : p i = true := allB_mem h (List.mem_range.2 hi)

theorem stat_of {X : Env} {ops : List Oper} (h : drawOK X ops = true) : Stat X ops := by
  have at_ : ∀ j o, ops[j]? = some o → j < ops.length ∧ ops.getD j default = o := fun j o ho => ⟨(List.getElem?_eq_some_iff.1 ho).1, by rw [List.getD_eq_getElem?_getD, ho]; rfl⟩
  unfold drawOK at h
  refine ⟨fun j o ho e he hb => ?_, fun i j oi oj hij hi hj => ?_⟩
  · obtain ⟨hlt, hg⟩ := at_ j o ho
    have := upTo_mem h hlt
    simp only [Bool.and_eq_true] at this
    rw [hg] at this
    have h1 := allB_mem this.1.1 he
    simpa [hb] using h1
  · obtain ⟨hlt, hgj⟩ := at_ j oj hj
    obtain ⟨_, hgi⟩ := at_ i oi hi
    have := upTo_mem h hlt
    simp only [Bool.and_eq_true] at this
    have h2 := upTo_mem this.2 hij
    rw [hgj, hgi] at h2
    rw [Bool.or_eq_true] at h2
    rcases h2 with h2 | h2
    · exact .inl h2
    · right
      simp only [Bool.and_eq_true] at h2
      obtain ⟨⟨⟨h3, h4⟩, h5⟩, h6⟩ := h2
      refine ⟨fun d hd => ?_, fun d hd => ?_, ?_, ?_⟩
      · rw [hd] at h3
        simpa using h3
      · rw [hd] at h4
        simpa using h4
      · rintro ⟨hw, hw'⟩
        rcases hw' with hw' | hw' <;> simp [hw, hw'] at h5
      · rintro ⟨hw, hw'⟩
        simp [hw, hw'] at h6

theorem bef_lt {X : Env} {ops : List Oper} (st : Stat X ops) : ∀ (j : Nat) (o : Oper), ops[j]? = some o → ∀ i, ((befs ops).getD j 0).testBit i = true → i < j := by
  intro j
  induction j using Nat.strongRecOn with
  | _ j ih =>
    intro o ho i hb
    obtain ⟨e, he, hbi, hi⟩ := befs_spec ho hb
    have hlt := st.edge j o ho e he hbi
    rcases hi with rfl | hi
    · exact hlt
    · have hlt2 : e.on < ops.length := by have := (List.getElem?_eq_some_iff.1 ho).1; omega
      have := ih e.on hlt _ (List.getElem?_eq_getElem hlt2) i hi
      omega

section
variable {P : Program} {X : Env} {cf : CallF} {nt c : Nat} {ops : List Oper} {S : Nat → DS}

/-- The blocks' contents that stay from one place of the text to another. -/
theorem stay (hS : ∀ j o, ops[j]? = some o → DStep X cf nt c ops j o (S j) (S (j + 1))) {x : Nat} {a : Nat} (hN : ∀ j, NId c ops x j → j < a) :
    ∀ b, a ≤ b → b ≤ ops.length → (∀ k, a ≤ k → k < b → WW X ops S k → ∃ j, NId c ops x j ∧ ((befs ops).getD k 0).testBit j = false) → (S b).h.get x = (S a).h.get x := by
  intro b hab
  induction b with
  | zero => intro _ _; have : a = 0 := by omega
            subst this; rfl
  | succ b ih =>
    intro hb hw
    by_cases e : a = b + 1
    · subst e; rfl
    · have ih' := ih (by omega) (by omega) fun k h1 h2 => hw k h1 (by omega)
      rw [← ih']
      have ho : ops[b]? = some (ops[b]'(by omega)) := List.getElem?_eq_getElem (by omega)
      generalize ops[b]'(by omega) = o at ho
      have hstep := hS b o ho
      by_cases hww : isW X o.op = true ∧ wantedA ops (S b).fr o = some true
      · obtain ⟨j, ⟨hx, oj, hoj, hnj⟩, hbit⟩ := hw b (by omega) (by omega) ⟨o, ho, hww.1, hww.2⟩
        obtain ⟨v, h', _, hh, _⟩ := hstep.write hww.1 hww.2
        rw [hh, unmaskH_get, if_pos]
        have hjl := (List.getElem?_eq_some_iff.1 hoj).1
        refine ⟨j, mem_maskOf.2 ⟨hjl, ?_, hbit⟩, hx⟩
        rw [List.getD_eq_getElem?_getD, hoj]; exact hnj
      · exact (hstep.heap hww).2.2 x fun hn hxe => by
          have := hN b ⟨hxe, o, ho, hn⟩
          omega

theorem stay_nx (hS : ∀ j o, ops[j]? = some o → DStep X cf nt c ops j o (S j) (S (j + 1))) {a : Nat} :
    ∀ b, a ≤ b → b ≤ ops.length → (∀ k, a ≤ k → k < b → ¬ WW X ops S k) → (S b).h.nx = (S a).h.nx ∧ (S b).h.ro = (S a).h.ro := by
  intro b hab
  induction b with
  | zero => intro _ _; have : a = 0 := by omega
            subst this; exact ⟨rfl, rfl⟩
  | succ b ih =>
    intro hb hw
    by_cases e : a = b + 1
    · subst e; exact ⟨rfl, rfl⟩
    · obtain ⟨i1, i2⟩ := ih (by omega) (by omega) fun k h1 h2 => hw k h1 (by omega)
      rw [← i1, ← i2]
      have ho : ops[b]? = some (ops[b]'(by omega)) := List.getElem?_eq_getElem (by omega)
      generalize ops[b]'(by omega) = o at ho
      have := (hS b o ho).heap fun hww => hw b (by omega) (by omega) ⟨o, ho, hww.1, hww.2⟩
      exact ⟨this.1, this.2.1⟩

theorem slot_stay (hS : ∀ j o, ops[j]? = some o → DStep X cf nt c ops j o (S j) (S (j + 1))) {t : Tmp} {a : Nat} :
    ∀ b, a ≤ b → b ≤ ops.length → (∀ k o, a ≤ k → k < b → ops[k]? = some o → o.dst ≠ some t) → (S b).fr.get t = (S a).fr.get t := by
  intro b hab
  induction b with
  | zero => intro _ _; have : a = 0 := by omega
            subst this; rfl
  | succ b ih =>
    intro hb hw
    by_cases e : a = b + 1
    · subst e; rfl
    · rw [← ih (by omega) (by omega) fun k o h1 h2 => hw k o h1 (by omega)]
      have ho : ops[b]? = some (ops[b]'(by omega)) := List.getElem?_eq_getElem (by omega)
      generalize ops[b]'(by omega) = o at ho
      obtain ⟨v, hp⟩ := (hS b o ho).slots
      rw [putS_get hp, if_neg (hw b o (by omega) (by omega) ho)]

/-- What has been noted is still noted later. -/
theorem notes_stay (hS : ∀ j o, ops[j]? = some o → DStep X cf nt c ops j o (S j) (S (j + 1))) {a : Nat} : ∀ b, a ≤ b → b ≤ ops.length → (∀ s ∈ (S a).sp, s ∈ (S b).sp) ∧ (∀ s ∈ (S a).ss, s ∈ (S b).ss) := by
  intro b hab
  induction b with
  | zero => intro _; have : a = 0 := by omega
            subst this; exact ⟨fun _ h => h, fun _ h => h⟩
  | succ b ih =>
    intro hb
    by_cases e : a = b + 1
    · subst e; exact ⟨fun _ h => h, fun _ h => h⟩
    · obtain ⟨i1, i2⟩ := ih (by omega) (by omega)
      have ho : ops[b]? = some (ops[b]'(by omega)) := List.getElem?_eq_getElem (by omega)
      obtain ⟨n1, n2⟩ := (hS b _ ho).notes
      exact ⟨fun s h => n1 s (i1 s h), fun s h => n2 s (i2 s h)⟩

/-- How things stand when the operations of 'listed' have been carried out, in whatever order. -/
structure J (X : Env) (nt c : Nat) (ops : List Oper) (S : Nat → DS) (ρ0 : Rho) (g0 : G) (ro : Nat) (w0 : World) (listed : Array Bool) (a : Act) (w : World) (ρ : Rho) (g : G) (K : Nat) : Prop where
  size : listed.size = ops.length
  closed : ∀ j, listed.getD j false = true → ∀ i, ((befs ops).getD j 0).testBit i = true → listed.getD i false = true
  kn : K ≤ ops.length
  kw : ∀ k o, ops[k]? = some o → isW X o.op = true → (listed.getD k false = true ↔ k < K)
  k0 : K = 0 ∨ ∃ k o, K = k + 1 ∧ ops[k]? = some o ∧ isW X o.op = true
  slots : ∀ t m, m ≤ ops.length → (∀ i o, ops[i]? = some o → o.dst = some t → (listed.getD i false = true ↔ i < m)) → avR ρ ((S m).fr.get t) (a.tmps.getD t undef)
  sz : a.tmps.size = nt
  df : a.defers = []
  rel : Rel ρ g ro w
  g1 : ∀ x, (∀ j, ¬ NId c ops x j) → g x = (S K).h.get x
  g2 : ∀ x j, NId c ops x j → g x = if listed.getD j false = true then (S (max K (j + 1))).h.get x else none
  stp : Stp ρ0 ρ g0 g ro w0 w
  f1 : ∀ i, i < ops.length → listed.getD i false = false → ρ (c + i) = none
  f2 : ∀ k, (S K).h.nx ≤ k → ρ k = none
  f3 : ∀ k, k < c → ρ0 k = none → ρ k = none
  ro_ : (S K).h.ro = ro
  nx : c + ops.length ≤ (S K).h.nx
  low : ∀ i, i < ro → (S K).h.get i = g0 i
  born : ∀ i, i < c → (S K).h.get i ≠ none → g0 i ≠ none
  roc : ro ≤ c


theorem NId.uniq {x j j' : Nat} (h : NId c ops x j) (h' : NId c ops x j') : j = j' := by
  have := h.1; have := h'.1; omega

theorem D_set {listed : Array Bool} {j : Nat} (hj : j < listed.size) (i : Nat) : (listed.setIfInBounds j true).getD i false = true ↔ (listed.getD i false = true ∨ i = j) := by
  by_cases e : j = i
  · subst e
    simp [hj]
  · rw [getD_set_ne false e]
    constructor
    · exact .inl
    · rintro (h | h)
      · exact h
      · exact absurd h.symm e

/-- What is known of an operation that may come next. -/
structure Nxt (X : Env) (ops : List Oper) (listed : Array Bool) (j : Nat) (o : Oper) : Prop where
  op : ops[j]? = some o
  out : listed.getD j false = false
  bef : ∀ i, ((befs ops).getD j 0).testBit i = true → listed.getD i false = true

theorem Nxt.notAfter {listed : Array Bool} {j : Nat} {o : Oper} (hx : Nxt X ops listed j o) (hc : ∀ j, listed.getD j false = true → ∀ i, ((befs ops).getD j 0).testBit i = true → listed.getD i false = true) {k : Nat} (hk : listed.getD k false = true) : ((befs ops).getD k 0).testBit j = false := by
  cases hb : ((befs ops).getD k 0).testBit j with
  | false => rfl
  | true => have := hc k hk j hb; rw [hx.out] at this; cases this

variable {ρ0 : Rho} {g0 : G} {ro : Nat} {w0 : World}

/-- A slot that the next operation looks at holds what it holds there in the text. -/
theorem J.look {listed : Array Bool} {a : Act} {w : World} {ρ : Rho} {g : G} {K : Nat} (st : Stat X ops) (h : J X nt c ops S ρ0 g0 ro w0 listed a w ρ g K) {j : Nat} {o : Oper} (hx : Nxt X ops listed j o) {t : Tmp} (ht : t ∈ o.looksAt ops.toArray) :
    avR ρ ((S j).fr.get t) (a.tmps.getD t undef) := by
  have hj := (List.getElem?_eq_some_iff.1 hx.op).1
  refine h.slots t j (by omega) fun i oi hi hd => ?_
  rcases Nat.lt_trichotomy i j with hij | rfl | hij
  · refine ⟨fun _ => hij, fun _ => ?_⟩
    rcases st.pair i j oi o hij hi hx.op with hb | ⟨h1, _⟩
    · exact hx.bef i hb
    · exact absurd ht (h1 t hd).1
  · rw [hx.out]; simp
  · refine ⟨fun hD => ?_, fun hlt => by omega⟩
    rcases st.pair j i o oi hij hx.op hi with hb | ⟨_, h2, _⟩
    · have := hx.notAfter h.closed hD; rw [hb] at this; cases this
    · exact absurd ht (h2 t hd)

/-- The slots behind it. -/
theorem J.slots' {listed : Array Bool} {a : Act} {w : World} {ρ : Rho} {g : G} {K : Nat} (st : Stat X ops) (hS : ∀ j o, ops[j]? = some o → DStep X cf nt c ops j o (S j) (S (j + 1))) (h : J X nt c ops S ρ0 g0 ro w0 listed a w ρ g K) {j : Nat} {o : Oper} (hx : Nxt X ops listed j o)
    {v : AV} {v' : Value} {ρ' : Rho} (hle : ρ.le ρ') (hv : avR ρ' v v') (hp : putS nt (S j).fr o.dst v = some (S (j + 1)).fr) :
    (∀ t m, m ≤ ops.length → (∀ i oi, ops[i]? = some oi → oi.dst = some t → ((listed.setIfInBounds j true).getD i false = true ↔ i < m)) → avR ρ' ((S m).fr.get t) ((a.put o.dst v').tmps.getD t undef)) ∧ (a.put o.dst v').tmps.size = nt ∧ (a.put o.dst v').defers = [] := by
  have hj := (List.getElem?_eq_some_iff.1 hx.op).1
  have hjs : j < listed.size := by rw [h.size]; exact hj
  refine ⟨fun t m hm hw => ?_, ?_, ?_⟩
  · by_cases hd : o.dst = some t
    · have hjm : j < m := (hw j o hx.op hd).1 ((D_set hjs j).2 (.inr rfl))
      have e1 : (S m).fr.get t = (S (j + 1)).fr.get t := slot_stay hS m (by omega) hm fun k ok h1 h2 hk hdk => by
        have hDk := (D_set hjs k).1 ((hw k ok hk hdk).2 h2)
        rcases hDk with hDk | hDk
        · rcases st.pair j k o ok (by omega) hx.op hk with hb | ⟨h3, _⟩
          · have := hx.notAfter h.closed hDk; rw [hb] at this; cases this
          · exact (h3 t hd).2 hdk
        · omega
      rw [e1, putS_get hp, if_pos hd]
      have ht : t < nt := by
        rw [hd] at hp
        unfold putS at hp
        dsimp only at hp
        split at hp
        · assumption
        · simp at hp
      have : (a.put o.dst v').tmps.getD t undef = v' := by rw [hd]; simp [Act.put, h.sz, ht]
      rw [this]; exact hv
    · have e1 : (a.put o.dst v').tmps.getD t undef = a.tmps.getD t undef := by
        cases hdst : o.dst with
        | none => rfl
        | some d =>
          have hne : d ≠ t := fun e => hd (by rw [hdst, e])
          simp [Act.put, Array.getElem?_setIfInBounds_ne hne]
      rw [e1]
      refine (h.slots t m hm fun i oi hi hdi => ?_).mono hle
      rw [← hw i oi hi hdi, D_set hjs]
      constructor
      · exact .inl
      · rintro (hD | rfl)
        · exact hD
        · rw [hx.op] at hi; injection hi with hi; subst hi; exact absurd hdi hd
  · cases o.dst <;> simp [Act.put, h.sz]
  · cases o.dst <;> simp [Act.put, h.df]

/-- Nothing that writes lies between the last such operation and one that is ordered with all of them. -/
theorem J.noW {listed : Array Bool} {a : Act} {w : World} {ρ : Rho} {g : G} {K : Nat} (st : Stat X ops) (h : J X nt c ops S ρ0 g0 ro w0 listed a w ρ g K) {j : Nat} {o : Oper} (hx : Nxt X ops listed j o) (ho : isW X o.op = true ∨ isCall o.op = true) :
    K ≤ j ∧ ∀ k ok, K ≤ k → k < j → ops[k]? = some ok → isW X ok.op = false := by
  constructor
  · rcases h.k0 with e | ⟨k, ok, rfl, hk, hw⟩
    · omega
    · have hD := (h.kw k ok hk hw).2 (by omega)
      rcases Nat.lt_trichotomy k j with hlt | rfl | hlt
      · omega
      · rw [hx.out] at hD; cases hD
      · rcases st.pair j k o ok hlt hx.op hk with hb | ⟨_, _, h3, h4⟩
        · have := hx.notAfter h.closed hD; rw [hb] at this; cases this
        · rcases ho with ho | ho
          · exact absurd ⟨ho, .inl hw⟩ h3
          · exact absurd ⟨hw, ho⟩ h4
  · intro k ok hKk hkj hk
    cases hw : isW X ok.op with
    | false => rfl
    | true =>
      rcases st.pair k j ok o hkj hk hx.op with hb | ⟨_, _, h3, _⟩
      · have := (h.kw k ok hk hw).1 (hx.bef k hb); omega
      · exact absurd ⟨hw, ho⟩ h3

/-- The next operation leaves the blocks alone. -/
theorem J.quiet {listed : Array Bool} {a : Act} {w : World} {ρ : Rho} {g : G} {K : Nat} (st : Stat X ops) (hS : ∀ j o, ops[j]? = some o → DStep X cf nt c ops j o (S j) (S (j + 1))) (hpre : ∀ x j, NId c ops x j → (S 0).h.get x = none) (h : J X nt c ops S ρ0 g0 ro w0 listed a w ρ g K) {j : Nat} {o : Oper} (hx : Nxt X ops listed j o)
    (hq : ¬ WW X ops S j) (hnn : isN o.op = true → wantedA ops (S j).fr o = some false) {v : AV} {v' : Value} {ρ' : Rho} {w' : World} (hv : avR ρ' v v') (hp : putS nt (S j).fr o.dst v = some (S (j + 1)).fr) (hrel : Rel ρ' g ro w') (hstp : Stp ρ ρ' g g ro w w') (hf : ∀ k, k < ops.length → k ≠ j → ρ (c + k) = none → ρ' (c + k) = none) (hf2 : ∀ k, ρ k = none → (k < c ∨ (S K).h.nx ≤ k) → ρ' k = none) :
    ∃ K', J X nt c ops S ρ0 g0 ro w0 (listed.setIfInBounds j true) (a.put o.dst v') w' ρ' g K' := by
  have hj := (List.getElem?_eq_some_iff.1 hx.op).1
  have hjs : j < listed.size := by rw [h.size]; exact hj
  obtain ⟨s1, s2, s3⟩ := h.slots' st hS hx hstp.ext hv hp
  -- a block that an operation behind has made
  have made : ∀ x i, NId c ops x i → listed.getD i false = true → ∀ K', K ≤ K' → K' ≤ ops.length → (∀ k, K ≤ k → k < K' → ¬ WW X ops S k) → (S (max K (i + 1))).h.get x = (S (max K' (i + 1))).h.get x := fun x i hxi hD K' hK hK' hno => by
    have hil := (List.getElem?_eq_some_iff.1 hxi.2.choose_spec.1).1
    exact (stay hS (x := x) (a := max K (i + 1)) (fun i' hi' => by have := hxi.uniq hi'; omega) (max K' (i + 1)) (by omega) (by omega) fun k h1 h2 hw => absurd hw (hno k (by omega) (by omega))).symm
  have newN : ∀ x, NId c ops x j → g x = none ∧ ∀ K', K ≤ K' → K' ≤ ops.length → (∀ k, K ≤ k → k < K' → ¬ WW X ops S k) → (S (max K' (j + 1))).h.get x = none := by
    intro x hxj
    refine ⟨by rw [h.g2 x j hxj, hx.out]; rfl, fun K' hK hK' hno => ?_⟩
    obtain ⟨hxe, o', ho', hn⟩ := hxj
    rw [hx.op] at ho'
    injection ho' with ho'
    subst ho'
    have hun := hnn hn
    -- up to j it isn't there
    have hpre' : (S j).h.get x = none := by
      have : ∀ b, b ≤ j → (S b).h.get x = none := by
        intro b
        induction b with
        | zero => intro _; exact hpre x j ⟨hxe, o, hx.op, hn⟩
        | succ b ih =>
          intro hb
          have ih' := ih (by omega)
          have hob : ops[b]? = some (ops[b]'(by omega)) := List.getElem?_eq_getElem (by omega)
          generalize ops[b]'(by omega) = ob at hob
          have hstep := hS b ob hob
          by_cases hww : isW X ob.op = true ∧ wantedA ops (S b).fr ob = some true
          · obtain ⟨v, h', _, hh, _⟩ := hstep.write hww.1 hww.2
            rw [hh, unmaskH_get, if_pos]
            · exact ih'
            · refine ⟨j, mem_maskOf.2 ⟨hj, by rw [List.getD_eq_getElem?_getD, hx.op]; exact hn, ?_⟩, hxe⟩
              cases hbit : ((befs ops).getD b 0).testBit j with
              | false => rfl
              | true => have := bef_lt st b ob hob j hbit; omega
          · rw [(hstep.heap hww).2.2 x fun _ => by omega]; exact ih'
      exact this j (Nat.le_refl _)
    have hj1 : (S (j + 1)).h.get x = none := by
      have hww : ¬ (isW X o.op = true ∧ wantedA ops (S j).fr o = some true) := by rw [hun]; simp
      have hstep := hS j o hx.op
      unfold DStep drawStep at hstep
      rw [hun] at hstep
      simp only [Option.bind_some, Bool.false_eq_true, if_false, Option.map_eq_some_iff, Prod.mk.injEq] at hstep
      obtain ⟨f, _, _, hh, _⟩ := hstep
      rw [← hh]; exact hpre'
    rw [stay hS (x := x) (a := j + 1) (fun i hi => by have := hi.1; omega) (max K' (j + 1)) (by omega) (by omega) fun k h1 h2 hw => ?_]
    · exact hj1
    · refine ⟨j, ⟨hxe, o, hx.op, hn⟩, ?_⟩
      obtain ⟨ok, hok, hwk, hwant⟩ := id hw
      have hkK : k < K := by
        rcases Nat.lt_or_ge k K with h | h
        · exact h
        · exact absurd hw (hno k h (by omega))
      exact hx.notAfter h.closed ((h.kw k ok hok hwk).2 hkK)
  -- how far the operations that write have come
  have core : ∀ K', K ≤ K' → K' ≤ ops.length → (∀ k, K ≤ k → k < K' → ¬ WW X ops S k) → (∀ k ok, ops[k]? = some ok → isW X ok.op = true → ((listed.setIfInBounds j true).getD k false = true ↔ k < K')) → (K' = 0 ∨ ∃ k ok, K' = k + 1 ∧ ops[k]? = some ok ∧ isW X ok.op = true) →
      J X nt c ops S ρ0 g0 ro w0 (listed.setIfInBounds j true) (a.put o.dst v') w' ρ' g K' := by
    intro K' hK hK' hno hkw hk0
    obtain ⟨n1, n2⟩ := stay_nx hS (a := K) K' hK hK' hno
    have getK : ∀ x, (∀ i, ¬ NId c ops x i) → (S K').h.get x = (S K).h.get x := fun x hx' => stay hS (a := K) (fun i hi => absurd hi (hx' i)) K' hK hK' fun k h1 h2 hw => absurd hw (hno k h1 h2)
    refine ⟨by simp [h.size], fun k hk i hb => ?_, hK', hkw, hk0, s1, s2, s3, hrel, fun x hx' => ?_, fun x i hxi => ?_, h.stp.trans hstp, fun i hi hD => ?_, fun k hk => ?_, fun k hk hk0' => ?_, by rw [n2]; exact h.ro_, by rw [n1]; exact h.nx, fun i hi => ?_, fun i hi hn => ?_, h.roc⟩
    · rw [D_set hjs] at hk ⊢
      rcases hk with hk | rfl
      · exact .inl (h.closed k hk i hb)
      · exact .inl (hx.bef i hb)
    · rw [h.g1 x hx', getK x hx']
    · by_cases hij : i = j
      · subst hij
        obtain ⟨e1, e2⟩ := newN x hxi
        rw [e1, if_pos ((D_set hjs i).2 (.inr rfl)), e2 K' hK hK' hno]
      · rw [h.g2 x i hxi]
        by_cases hD : listed.getD i false = true
        · rw [if_pos hD, if_pos ((D_set hjs i).2 (.inl hD))]
          exact made x i hxi hD K' hK hK' hno
        · rw [if_neg hD, if_neg]
          rw [D_set hjs]
          rintro (h1 | h1)
          · exact hD h1
          · exact hij h1
    · have hij : i ≠ j := fun e => by subst e; rw [(D_set hjs i).2 (.inr rfl)] at hD; cases hD
      have hD' : listed.getD i false = false := by
        cases hq' : listed.getD i false with
        | false => rfl
        | true => rw [(D_set hjs i).2 (.inl hq')] at hD; cases hD
      exact hf i hi hij (h.f1 i hi hD')
    · rw [n1] at hk; exact hf2 k (h.f2 k hk) (.inr hk)
    · exact hf2 k (h.f3 k hk hk0') (.inl hk)
    · rw [getK i (fun j' hj' => by have h1 := hj'.1; have h2 := h.nx; have h3 := h.ro_; have := h.roc; omega)]
      exact h.low i hi
    · rw [getK i (fun j' hj' => by have h1 := hj'.1; omega)] at hn
      exact h.born i hi hn
  cases hw : isW X o.op with
  | false =>
    refine ⟨K, core K (Nat.le_refl _) h.kn (fun k h1 h2 => by omega) (fun k ok hok hwk => ?_) h.k0⟩
    rw [D_set hjs, ← h.kw k ok hok hwk]
    constructor
    · rintro (h1 | rfl)
      · exact h1
      · rw [hx.op] at hok; injection hok with hok; subst hok; rw [hw] at hwk; cases hwk
    · exact .inl
  | true =>
    obtain ⟨hKj, hno⟩ := h.noW st hx (.inl hw)
    refine ⟨j + 1, core (j + 1) (by omega) (by omega) (fun k h1 h2 hww => ?_) (fun k ok hok hwk => ?_) (.inr ⟨j, o, rfl, hx.op, hw⟩)⟩
    · obtain ⟨ok, hok, hwk, hwant⟩ := id hww
      rcases Nat.lt_or_ge k j with hlt | hge
      · have := hno k ok h1 hlt hok; rw [hwk] at this; cases this
      · have : k = j := by omega
        subst this
        exact hq hww
    · rw [D_set hjs]
      rcases Nat.lt_trichotomy k j with hlt | rfl | hlt
      · refine ⟨fun _ => by omega, fun _ => .inl ?_⟩
        rw [h.kw k ok hok hwk]
        rcases Nat.lt_or_ge k K with h1 | h1
        · exact h1
        · have := hno k ok h1 hlt hok; rw [hwk] at this; cases this
      · exact ⟨fun _ => by omega, fun _ => .inr rfl⟩
      · refine ⟨fun h1 => ?_, fun h1 => by omega⟩
        rcases h1 with h1 | h1
        · rw [h.kw k ok hok hwk] at h1; omega
        · omega

end
end Go.AM
