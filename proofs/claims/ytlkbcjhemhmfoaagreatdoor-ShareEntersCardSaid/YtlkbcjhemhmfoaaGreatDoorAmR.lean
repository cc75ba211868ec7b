/- What a walk over lists says of the machine: blocks and slots. No program here. -/
import Derived.Test.YtlkbcjhemhmfoaaGreatDoorAmQ
set_option linter.unusedSimpArgs false
set_option linter.unusedVariables false
namespace Go.AM
open Go

/-! ### The steps told otherwise -/
section
variable {ρ : Type} {r : ρ}
theorem blk_ok {k : Bool → Option Nat → Cl → Option ρ} {j : Nat} : ∀ {bl : BL}, blk bl j k = some r → ∃ w born c, (⟨j, w, born, c⟩ : Bk) ∈ bl ∧ k w born c = some r
  | [], h => by cases h
  | ⟨j', w, born, c⟩ :: bl, h => by
    unfold blk at h
    cases hb : Nat.beq j' j with
    | true =>
      rw [hb, cond_true] at h
      have := Nat.eq_of_beq_eq_true hb
      subst this
      exact ⟨w, born, c, List.mem_cons_self, h⟩
    | false =>
      rw [hb, cond_false] at h
      obtain ⟨w, born, c, h1, h2⟩ := blk_ok h
      exact ⟨w, born, c, List.mem_cons_of_mem _ h1, h2⟩
theorem updK_ok {j : Nat} {c : Cl} : ∀ {bl : BL} {k : BL → Option ρ}, updK bl j c k = some r → ∃ bl1 w born c0 bl2, bl = bl1 ++ ⟨j, w, born, c0⟩ :: bl2 ∧ k (bl1 ++ ⟨j, w, born, c⟩ :: bl2) = some r
  | [], _, h => by cases h
  | ⟨j', w, born, c'⟩ :: bl, k, h => by
    unfold updK at h
    cases hb : Nat.beq j' j with
    | true =>
      rw [hb, cond_true] at h
      have := Nat.eq_of_beq_eq_true hb
      subst this
      exact ⟨[], w, born, c', bl, rfl, h⟩
    | false =>
      rw [hb, cond_false] at h
      obtain ⟨bl1, w1, b1, c1, bl2, h1, h2⟩ := updK_ok h
      exact ⟨⟨j', w, born, c'⟩ :: bl1, w1, b1, c1, bl2, by rw [h1]; rfl, h2⟩
theorem delK_ok {j : Nat} : ∀ {bl : BL} {k : BL → Option ρ}, delK bl j k = some r → ∃ bl', k bl' = some r ∧ bl'.Sublist bl ∧ (∀ e ∈ bl, e.j ≠ j → e ∈ bl') ∧ ((bl.map Bk.j).Nodup → ∀ e ∈ bl', e.j ≠ j)
  | [], k, h => ⟨[], h, List.Sublist.refl _, (fun e he => by cases he), fun _ e he => by cases he⟩
  | ⟨j', w, born, c'⟩ :: bl, k, h => by
    unfold delK at h
    cases hb : Nat.beq j' j with
    | true =>
      rw [hb, cond_true] at h
      have := Nat.eq_of_beq_eq_true hb
      subst this
      refine ⟨bl, h, List.sublist_cons_self _ _, fun e he hne => (List.mem_cons.1 he).resolve_left fun e' => hne (by rw [e']), fun hn e he => ?_⟩
      simp only [List.map_cons, List.nodup_cons] at hn
      intro e'
      exact hn.1 (e' ▸ List.mem_map_of_mem he)
    | false =>
      rw [hb, cond_false] at h
      obtain ⟨bl', h1, h2, h4, h3⟩ := delK_ok h
      refine ⟨⟨j', w, born, c'⟩ :: bl', h1, h2.cons_cons _, fun e he hne => (List.mem_cons.1 he).elim (fun e' => e' ▸ List.mem_cons_self) fun he => List.mem_cons_of_mem _ (h4 e he hne), fun hn e he => ?_⟩
      simp only [List.map_cons, List.nodup_cons] at hn
      rcases List.mem_cons.1 he with rfl | he
      · intro e'
        have : j' = j := e'
        subst this
        simp at hb
      · exact h3 hn.2 e he
theorem delsK_ok : ∀ {js : List Nat} {bl : BL} {k : BL → Option ρ}, delsK js bl k = some r → ∃ bl', k bl' = some r ∧ bl'.Sublist bl ∧ (∀ e ∈ bl, e.j ∉ js → e ∈ bl') ∧ ((bl.map Bk.j).Nodup → ∀ e ∈ bl', e.j ∉ js)
  | [], bl, k, h => ⟨bl, h, List.Sublist.refl _, (fun _ he _ => he), fun _ _ _ h => by cases h⟩
  | j :: js, bl, k, h => by
    unfold delsK at h
    obtain ⟨bl1, h1, h2, h2', h3⟩ := delK_ok h
    obtain ⟨bl2, h4, h5, h5', h6⟩ := delsK_ok h1
    refine ⟨bl2, h4, h5.trans h2, fun e he hn => h5' e (h2' e he fun e' => hn (e' ▸ List.mem_cons_self)) fun hm => hn (List.mem_cons_of_mem _ hm), fun hn e he hi => ?_⟩
    rcases List.mem_cons.1 hi with h7 | h7
    · exact h3 hn e (h5.subset he) h7
    · exact h6 ((h2.map _).nodup hn) e he h7
def unborn (e : Bk) : Bk := { e with born := none }
theorem oldK_ok : ∀ {bl : BL} {k : BL → Option ρ}, oldK bl k = some r → k (bl.map unborn) = some r
  | [], _, h => h
  | ⟨j', w, b, c'⟩ :: bl, k, h => oldK_ok (bl := bl) (k := fun bl' => k (⟨j', w, none, c'⟩ :: bl')) h
theorem appK_ok {α : Type} : ∀ {l m : List α} {k : List α → Option ρ}, appK l m k = some r → k (l ++ m) = some r
  | [], _, _, h => h
  | x :: l, m, k, h => appK_ok (l := l) (m := m) (k := fun l' => k (x :: l')) h
theorem takeK_ok {α : Type} : ∀ {l : List α} {n : Nat} {k : List α → Option ρ}, takeK l n k = some r → n ≤ l.length ∧ k (l.take n) = some r
  | l, 0, k, h => ⟨Nat.zero_le _, by unfold takeK at h; simpa using h⟩
  | [], n + 1, _, h => by cases h
  | x :: l, n + 1, k, h => by
    unfold takeK at h
    obtain ⟨h1, h2⟩ := takeK_ok h
    exact ⟨by simp; omega, by simpa using h2⟩
theorem dropK_ok {α : Type} : ∀ {l : List α} {n : Nat} {k : List α → Option ρ}, dropK l n k = some r → n ≤ l.length ∧ k (l.drop n) = some r
  | l, 0, k, h => ⟨Nat.zero_le _, by unfold dropK at h; simpa using h⟩
  | [], n + 1, _, h => by cases h
  | x :: l, n + 1, k, h => by
    unfold dropK at h
    obtain ⟨h1, h2⟩ := dropK_ok h
    exact ⟨by simp; omega, by simpa using h2⟩
theorem setK_ok {α : Type} : ∀ {l : List α} {n : Nat} {ys : List α} {k : List α → Option ρ}, setK l n ys k = some r → n + ys.length ≤ l.length ∧ k (l.take n ++ ys ++ l.drop (n + ys.length)) = some r
  | l, 0, [], k, h => ⟨by simp, by unfold setK at h; simpa using h⟩
  | [], 0, _ :: _, k, h => by cases h
  | [], n + 1, _, k, h => by cases h
  | x :: l, 0, y :: ys, k, h => by
    unfold setK at h
    obtain ⟨h1, h2⟩ := setK_ok h
    simp only [Nat.zero_add] at h1 h2
    refine ⟨by simp; omega, ?_⟩
    simpa using h2
  | x :: l, n + 1, ys, k, h => by
    unfold setK at h
    obtain ⟨h1, h2⟩ := setK_ok h
    refine ⟨by simp; omega, ?_⟩
    rw [show n + 1 + ys.length = (n + ys.length) + 1 by omega]
    simpa using h2
theorem lenK_ok {α : Type} : ∀ {l : List α} {n : Nat}, lenK l n = true → l.length = n
  | [], 0, _ => rfl
  | [], n + 1, h => by cases h
  | _ :: _, 0, h => by cases h
  | _ :: l, n + 1, h => by
    unfold lenK at h
    simp [lenK_ok h]
def reps {α : Type} (z : List α) : Nat → List α
  | 0 => []
  | n + 1 => z ++ reps z n
theorem reps_len {α : Type} (z : List α) : ∀ n, (reps z n).length = n * z.length
  | 0 => by simp [reps]
  | n + 1 => by rw [reps, List.length_append, reps_len z n, Nat.succ_mul]; omega
theorem reps_get {α : Type} (z : List α) (d : α) : ∀ n j, j < n * z.length → (reps z n)[j]? = some (z.getD (j % z.length) d)
  | 0, j, h => by omega
  | n + 1, j, h => by
    rw [reps]
    by_cases hj : j < z.length
    · rw [List.getElem?_append_left hj, Nat.mod_eq_of_lt hj, List.getD_eq_getElem?_getD, List.getElem?_eq_getElem hj]; rfl
    · rw [List.getElem?_append_right (by omega), reps_get z d n (j - z.length) (by rw [Nat.succ_mul] at h; omega)]
      rw [← Nat.mod_eq_sub_mod (by omega)]
theorem zeros_reps (z : List Sc) (n : Nat) : zeros n z = reps z n := by
  apply List.ext_getElem?
  intro j
  unfold zeros
  by_cases hj : j < n * z.length
  · rw [reps_get z default n j hj, List.getElem?_map, List.getElem?_range hj]; rfl
  · rw [List.getElem?_eq_none (by simp; omega), List.getElem?_eq_none (by rw [reps_len]; omega)]
theorem repK_ok {α : Type} {z : List α} : ∀ {n : Nat} {k : List α → Option ρ}, repK z n k = some r → k (reps z n) = some r
  | 0, _, h => h
  | n + 1, k, h => by
    exact appK_ok (repK_ok (n := n) (k := fun l => appK z l k) h)
theorem fillK_ok {place : Nat → Option (Nat × Nat)} {ev : Operand → AV} : ∀ {parts : List (Nat × Operand)} {cs : List Sc} {k : List Sc → Option ρ}, fillK place ev cs parts k = some r → ∃ l, fills place cs (parts.map fun (i, x) => (i, ev x)) = some l ∧ k l = some r
  | [], cs, k, h => ⟨cs, rfl, h⟩
  | (i, x) :: parts, cs, k, h => by
    unfold fillK at h
    split at h
    · rename_i off size hp
      split at h
      · rename_i xs hx
        cases hl : lenK xs size with
        | false => rw [hl] at h; cases h
        | true =>
          rw [hl, cond_true] at h
          obtain ⟨h1, h2⟩ := setK_ok h
          obtain ⟨l, h3, h4⟩ := fillK_ok h2
          have hl := lenK_ok hl
          refine ⟨l, ?_, h4⟩
          simp only [List.map_cons, fills, hp, Option.bind_some, hx]
          rw [if_pos ⟨hl, by omega⟩, ← hl]
          exact h3
      · cases h
    · cases h
theorem mkK_ok {agg : Bool} {l : List Sc} {k : AV → Option ρ} (h : mkK agg l k = some r) : ∃ v, mkAV agg l = some v ∧ k v = some r := by
  unfold mkK at h
  split at h
  · rename_i v e; exact ⟨v, e, h⟩
  · cases h
theorem evsK_ok {p : P} : ∀ {l : List Operand} {k : List AV → Option ρ}, evsK p l k = some r → k (l.map (P.ev p)) = some r
  | [], k, h => h
  | x :: l, k, h => by
    unfold evsK at h
    have := evsK_ok h
    rw [List.map_cons]
    split at this <;> rename_i e <;> rw [e] <;> exact this
theorem capK_ok : ∀ {l : List (Nat × Nat)} {k : List AV → Option ρ}, capK l k = some r → k (l.map fun a => .one (.ptr (some a))) = some r
  | [], k, h => h
  | x :: l, k, h => by
    exact capK_ok (l := l) (k := fun l' => k (.one (.ptr (some x)) :: l')) h
end
theorem memN_iff {n : Nat} : ∀ {l : List Nat}, memN n l = true ↔ n ∈ l
  | [] => by simp [memN]
  | m :: l => by
    unfold memN
    rw [Bool.or_eq_true, memN_iff, List.mem_cons]
    constructor
    · rintro (h | h)
      · exact .inl (Nat.eq_of_beq_eq_true h)
      · exact .inr h
    · rintro (h | h)
      · exact .inl (by subst h; simp)
      · exact .inr h
theorem memN_false {n : Nat} {l : List Nat} (h : memN n l = false) : n ∉ l := fun hm => by rw [memN_iff.2 hm] at h; cases h
theorem memN_append {n : Nat} {l m : List Nat} : memN n (l ++ m) = (memN n l || memN n m) := by
  cases h : memN n (l ++ m) with
  | true =>
    have := memN_iff.1 h
    rcases List.mem_append.1 this with h1 | h1
    · rw [memN_iff.2 h1]; rfl
    · rw [memN_iff.2 h1]; simp
  | false =>
    have := memN_false h
    cases h1 : memN n l with
    | true => exact absurd (List.mem_append_left _ (memN_iff.1 h1)) this
    | false => cases h2 : memN n m with
      | true => exact absurd (List.mem_append_right _ (memN_iff.1 h2)) this
      | false => rfl

/-! ### Blocks -/
def Ent (σ : Sg) (h : H) (e : Bk) : Prop := match σ e.j with
  | some (some b) => (match e.c with | .ex l => ∃ l', h.get b = some l' ∧ LR (RSc σ) l l' | .raw l => h.get b = some l | .res r => r.R b h)
  | some none => e.c = .raw []
  | none => False
def Foot (σ : Sg) (h : H) (e : Bk) (i : Nat) : Prop := match σ e.j with
  | some (some b) => (match e.c with | .res r => r.F b h i | _ => i = b)
  | _ => False

structure BlOK (σ : Sg) (bl : BL) (h : H) : Prop where
  ent : ∀ e ∈ bl, Ent σ h e
  low : ∀ e ∈ bl, ∀ i, Foot σ h e i → i < h.nx
  wr : ∀ e ∈ bl, e.w = true → ∀ i, Foot σ h e i → h.ro ≤ i
  uniq : (bl.map Bk.j).Nodup
  dis : ∀ e ∈ bl, ∀ e' ∈ bl, e.j ≠ e'.j → (e.w = true ∨ e'.w = true) → ∀ i, Foot σ h e i → ¬ Foot σ h e' i
/-- The blocks that a list lets be written. -/
def WrB (σ : Sg) (bl : BL) (h : H) (i : Nat) : Prop := ∃ e ∈ bl, e.w = true ∧ Foot σ h e i

theorem Ent.has {σ : Sg} {h : H} {e : Bk} (x : Ent σ h e) : ∃ r, σ e.j = some r := by
  unfold Ent at x
  split at x
  · exact ⟨_, by assumption⟩
  · exact ⟨_, by assumption⟩
  · exact x.elim
theorem Foot.mono {σ τ : Sg} (hle : σ.le τ) {h : H} {e : Bk} (x : Ent σ h e) (i : Nat) : Foot τ h e i ↔ Foot σ h e i := by
  obtain ⟨r, hr⟩ := x.has
  unfold Foot
  rw [hr, hle _ _ hr]
theorem Ent.mono {σ τ : Sg} (hle : σ.le τ) {h : H} {e : Bk} (x : Ent σ h e) : Ent τ h e := by
  obtain ⟨r, hr⟩ := x.has
  unfold Ent at x ⊢
  rw [hr] at x
  rw [hle _ _ hr]
  cases r with
  | none => exact x
  | some b =>
    dsimp only at x ⊢
    cases hc : e.c with
    | ex l => rw [hc] at x; obtain ⟨l', h1, h2⟩ := x; exact ⟨l', h1, h2.mono fun _ _ => RSc.mono hle⟩
    | raw l => rw [hc] at x; exact x
    | res s => rw [hc] at x; exact x
theorem Ent.frame {σ : Sg} {h h' : H} {e : Bk} (x : Ent σ h e) (hf : ∀ i, Foot σ h e i → h'.get i = h.get i) : Ent σ h' e ∧ ∀ i, Foot σ h' e i ↔ Foot σ h e i := by
  unfold Ent Foot at *
  cases hs : σ e.j with
  | none => rw [hs] at x; exact x.elim
  | some r =>
    cases r with
    | none => rw [hs] at x; exact ⟨x, fun _ => Iff.rfl⟩
    | some b =>
      rw [hs] at x hf
      dsimp only at x hf ⊢
      cases hc : e.c with
      | ex l =>
        rw [hc] at x hf
        obtain ⟨l', h1, h2⟩ := x
        exact ⟨⟨l', (hf b rfl).trans h1, h2⟩, fun _ => Iff.rfl⟩
      | raw l =>
        rw [hc] at x hf
        exact ⟨(hf b rfl).trans x, fun _ => Iff.rfl⟩
      | res s =>
        rw [hc] at x hf
        exact s.loc b h h' x hf
theorem BlOK.frame {σ τ : Sg} (hle : σ.le τ) {bl : BL} {h h' : H} (x : BlOK σ bl h) (hf : ∀ e ∈ bl, ∀ i, Foot σ h e i → h'.get i = h.get i) (hnx : h.nx ≤ h'.nx) (hro : h'.ro = h.ro) : BlOK τ bl h' ∧ ∀ e ∈ bl, ∀ i, Foot τ h' e i ↔ Foot σ h e i := by
  have ff : ∀ e ∈ bl, ∀ i, Foot τ h' e i ↔ Foot σ h e i := fun e he i => by
    obtain ⟨h1, h2⟩ := (x.ent e he).frame (hf e he)
    rw [Foot.mono hle h1, h2]
  refine ⟨⟨fun e he => ((x.ent e he).frame (hf e he)).1.mono hle, fun e he i hi => ?_, fun e he hw i hi => ?_, x.uniq, fun e he e' he' hne hw i hi hi' => ?_⟩, ff⟩
  · exact Nat.lt_of_lt_of_le (x.low e he i ((ff e he i).1 hi)) hnx
  · rw [hro]; exact x.wr e he hw i ((ff e he i).1 hi)
  · exact x.dis e he e' he' hne hw i ((ff e he i).1 hi) ((ff e' he' i).1 hi')
theorem BlOK.sub {σ : Sg} {bl bl' : BL} {h : H} (x : BlOK σ bl h) (hs : bl'.Sublist bl) : BlOK σ bl' h where
  ent e he := x.ent e (hs.subset he)
  low e he := x.low e (hs.subset he)
  wr e he := x.wr e (hs.subset he)
  uniq := (hs.map _).nodup x.uniq
  dis e he e' he' := x.dis e (hs.subset he) e' (hs.subset he')
theorem BlOK.cons {σ : Sg} {bl : BL} {h : H} {e : Bk} (x : BlOK σ bl h) (h1 : Ent σ h e) (h2 : ∀ i, Foot σ h e i → i < h.nx) (h3 : e.w = true → ∀ i, Foot σ h e i → h.ro ≤ i) (h4 : ∀ e' ∈ bl, e'.j ≠ e.j) (h5 : ∀ e' ∈ bl, (e.w = true ∨ e'.w = true) → ∀ i, Foot σ h e i → ¬ Foot σ h e' i) : BlOK σ (e :: bl) h where
  ent e' he := by exact (List.mem_cons.1 he).elim (fun e1 => e1 ▸ h1) fun he => x.ent e' he
  low e' he := by exact (List.mem_cons.1 he).elim (fun e1 => e1 ▸ h2) fun he => x.low e' he
  wr e' he := by exact (List.mem_cons.1 he).elim (fun e1 => e1 ▸ h3) fun he => x.wr e' he
  uniq := by
    simp only [List.map_cons, List.nodup_cons]
    refine ⟨fun hm => ?_, x.uniq⟩
    obtain ⟨e', he', e''⟩ := List.mem_map.1 hm
    exact h4 e' he' e''
  dis e1 he1 e2 he2 hne hw i hi hi' := by
    rcases List.mem_cons.1 he1 with a1 | a1
    · rcases List.mem_cons.1 he2 with a2 | a2
      · exact hne (by rw [a1, a2])
      · rw [a1] at hw hi; exact h5 e2 a2 hw i hi hi'
    · rcases List.mem_cons.1 he2 with a2 | a2
      · rw [a2] at hw hi'; exact h5 e1 a1 hw.symm i hi' hi
      · exact x.dis e1 a1 e2 a2 hne hw i hi hi'
theorem BlOK.same {σ : Sg} {bl : BL} {h : H} (x : BlOK σ bl h) {e e' : Bk} (he : e ∈ bl) (he' : e' ∈ bl) (hj : e.j = e'.j) : e = e' := by
  have := x.uniq
  clear x
  induction bl with
  | nil => cases he
  | cons a bl ih =>
    simp only [List.map_cons, List.nodup_cons] at this
    rcases List.mem_cons.1 he with h1 | h1
    · rcases List.mem_cons.1 he' with h2 | h2
      · rw [h1, h2]
      · exact absurd (by rw [← h1, hj]; exact List.mem_map_of_mem h2) this.1
    · rcases List.mem_cons.1 he' with h2 | h2
      · exact absurd (by rw [← h2, ← hj]; exact List.mem_map_of_mem h1) this.1
      · exact ih h1 h2 this.2
/-- Where nothing is said of who has made them. -/
theorem BlOK.unborn {σ : Sg} {bl : BL} {h : H} (x : BlOK σ bl h) : BlOK σ (bl.map unborn) h where
  ent e he := by obtain ⟨e0, h0, rfl⟩ := List.mem_map.1 he; exact x.ent e0 h0
  low e he := by obtain ⟨e0, h0, rfl⟩ := List.mem_map.1 he; exact x.low e0 h0
  wr e he := by obtain ⟨e0, h0, rfl⟩ := List.mem_map.1 he; exact x.wr e0 h0
  uniq := by rw [List.map_map]; exact x.uniq
  dis e he e' he' := by obtain ⟨e0, h0, rfl⟩ := List.mem_map.1 he; obtain ⟨e1, h1, rfl⟩ := List.mem_map.1 he'; exact x.dis e0 h0 e1 h1

/-! ### States -/
/-- What a walk begins with: the blocks; those that it may write; what its first places mean. -/
structure Gh where
  h : H
  md : Nat → Prop
  σ : Sg
  k : Nat
structure SI (G : Gh) (σ : Sg) (p : P) (bl : BL) (nb : Nat) (f : FF) (h : H) : Prop where
  ag : Ag σ f p
  ok : BlOK σ bl h
  top : ∀ j, nb ≤ j → σ j = none
  nx : G.h.nx ≤ h.nx
  ro : h.ro = G.h.ro
  lo : G.h.ro ≤ G.h.nx
  keep : ∀ i, i < G.h.nx → ¬ G.md i → h.get i = G.h.get i
  own : ∀ e ∈ bl, e.w = true → ∀ i, Foot σ h e i → G.h.nx ≤ i ∨ G.md i
  kn : G.k ≤ nb
  pin : ∀ j, j < G.k → σ j = G.σ j

structure RG (dr : Bool) (c len i : Nat) (σ : Sg) (bl : BL) (h0 h : H) : Prop where
  lo : h0.nx ≤ c
  hi : c + len ≤ h.nx
  fresh : ∀ e ∈ bl, ∀ x, Foot σ h e x → ∀ k, i ≤ k → k < len → x ≠ c + k
  born : dr = true → ∀ e ∈ bl, match e.born with
    | none => ∀ x, Foot σ h e x → x < c ∨ c + len ≤ x
    | some k => ∀ b, σ e.j = some (some b) → b = c + k
theorem RG.next {dr : Bool} {c len i : Nat} {σ : Sg} {bl : BL} {h0 h : H} (x : RG dr c len i σ bl h0 h) : RG dr c len (i + 1) σ bl h0 h := ⟨x.lo, x.hi, fun e he y hy k hk => x.fresh e he y hy k (by omega), x.born⟩

def Sg.upd (σ : Sg) (j : Nat) (r : Option Nat) : Sg := fun i => if i = j then some r else σ i
theorem Sg.upd_le {σ : Sg} {j : Nat} (h : σ j = none) (r : Option Nat) : σ.le (σ.upd j r) := fun i x e => by
  unfold Sg.upd
  by_cases hi : i = j
  · subst hi; rw [h] at e; cases e
  · rw [if_neg hi]; exact e
theorem Sg.upd_at (σ : Sg) (j : Nat) (r : Option Nat) : (σ.upd j r) j = some r := if_pos rfl
theorem Sg.upd_ne {σ : Sg} {i j : Nat} (h : i ≠ j) (r : Option Nat) : (σ.upd j r) i = σ i := if_neg h
theorem Sg.upd_top {σ : Sg} {nb : Nat} (h : ∀ j, nb ≤ j → σ j = none) (r : Option Nat) : ∀ j, nb + 1 ≤ j → (σ.upd nb r) j = none := fun j hj => by
  unfold Sg.upd
  rw [if_neg (by omega)]
  exact h j (by omega)
theorem Ent.ne_top {σ : Sg} {nb : Nat} (h : ∀ j, nb ≤ j → σ j = none) {hh : H} {e : Bk} (x : Ent σ hh e) : e.j < nb := by
  obtain ⟨r, hr⟩ := x.has
  refine Nat.lt_of_not_le fun hle => ?_
  rw [h _ hle] at hr; cases hr

/-! ### What loads and writes have been seen -/
def TkR (σ : Sg) (bl : BL) (h : H) (t : Nat × Nat × Bool) (lo : Lo) : Prop := lo.i = t.1 ∧ (t.2.2 = false → ∃ e ∈ bl, e.j = t.2.1 ∧ Foot σ h e lo.b ∧ h.load lo.b lo.o lo.l.length = some lo.l)
def TsR (σ : Sg) (bl : BL) (h : H) (t : Nat × List Nat) (sn : Sn) : Prop := sn.k = t.1 ∧ ∀ e ∈ bl, memN e.j t.2 = false → ∀ x, Foot σ h e x → sn.h.get x = h.get x
structure Tr2 (C : Cx) (σ : Sg) (bl : BL) (h : H) (sp : Tk) (ss : Ts) (SP : List Lo) (SS : List Sn) : Prop where
  sp : LR (TkR σ bl h) sp SP
  ss : LR (TsR σ bl h) ss SS

theorem load_get2 {h h' : H} {b o n : Nat} {l : List Sc} (e : h'.get b = h.get b) (hl : h.load b o n = some l) : h'.load b o n = some l := by
  unfold H.load at hl ⊢
  rw [e]; exact hl
theorem load_len {h : H} {b o n : Nat} {l : List Sc} (hl : h.load b o n = some l) : l.length = n := by
  unfold H.load at hl
  simp only [Option.bind_eq_some_iff] at hl
  obtain ⟨x, _, hl⟩ := hl
  split at hl
  · rename_i hle
    injection hl with hl
    subst hl
    simp; omega
  · cases hl

/-- A new block, made by operation i. -/
theorem SI.new {G : Gh} {σ : Sg} {p : P} {bl : BL} {nb : Nat} {f : FF} {h : H} (s : SI G σ p bl nb f h) {dr : Bool} {c len i : Nat} (g : RG dr c len i σ bl G.h h) (hi : i < len) {cl : Cl} {l' : List Sc}
    (hc : (∃ l, cl = .ex l ∧ LR (RSc σ) l l') ∨ cl = .raw l') :
    SI G (σ.upd nb (some (c + i))) p (⟨nb, true, some i, cl⟩ :: bl) (nb + 1) f (h.put (c + i) l') ∧ RG dr c len (i + 1) (σ.upd nb (some (c + i))) (⟨nb, true, some i, cl⟩ :: bl) G.h (h.put (c + i) l') ∧ σ.le (σ.upd nb (some (c + i))) ∧
      ∀ e ∈ bl, ∀ x, (Foot (σ.upd nb (some (c + i))) (h.put (c + i) l') e x ↔ Foot σ h e x) ∧ (Foot σ h e x → (h.put (c + i) l').get x = h.get x) := by
  have hle : σ.le (σ.upd nb (some (c + i))) := Sg.upd_le (s.top nb (Nat.le_refl _)) _
  have hget : ∀ e ∈ bl, ∀ x, Foot σ h e x → (h.put (c + i) l').get x = h.get x := fun e he x hx => by
    rw [H.get_put, if_neg (g.fresh e he x hx i (Nat.le_refl _) hi)]
  obtain ⟨hok, hff⟩ := s.ok.frame hle hget (Nat.le_refl _) rfl
  have hfoot : ∀ x, Foot (σ.upd nb (some (c + i))) (h.put (c + i) l') ⟨nb, true, some i, cl⟩ x ↔ x = c + i := fun x => by
    unfold Foot
    rw [show (⟨nb, true, some i, cl⟩ : Bk).j = nb from rfl, Sg.upd_at]
    rcases hc with ⟨l, rfl, _⟩ | rfl <;> exact Iff.rfl
  have hent : Ent (σ.upd nb (some (c + i))) (h.put (c + i) l') ⟨nb, true, some i, cl⟩ := by
    unfold Ent
    rw [show (⟨nb, true, some i, cl⟩ : Bk).j = nb from rfl, Sg.upd_at]
    rcases hc with ⟨l, rfl, hr⟩ | rfl
    · exact ⟨l', by rw [H.get_put, if_pos rfl], hr.mono fun _ _ => RSc.mono hle⟩
    · show (h.put (c + i) l').get (c + i) = some l'
      rw [H.get_put, if_pos rfl]
  have hnx : (h.put (c + i) l').nx = h.nx := rfl
  have hro : (h.put (c + i) l').ro = h.ro := rfl
  have hgh := g.hi
  have hgl := g.lo
  have hlo := s.lo
  have hsro := s.ro
  refine ⟨⟨s.ag.mono hle, hok.cons hent (fun x hx => ?_) (fun _ x hx => ?_) (fun e' he' => ?_) (fun e' he' _ x hx hx' => ?_), Sg.upd_top s.top _, s.nx, s.ro, s.lo, fun x hx hmd => ?_, fun e he hw x hx => ?_, Nat.le_succ_of_le s.kn, fun j hj => (Sg.upd_ne (Nat.ne_of_lt (Nat.lt_of_lt_of_le hj s.kn)) _).trans (s.pin j hj)⟩, ⟨g.lo, g.hi, fun e he x hx k hk hkl => ?_, fun hd e he => ?_⟩, hle, fun e he x => ⟨hff e he x, hget e he x⟩⟩
  · rw [hfoot] at hx; rw [hnx]; omega
  · rw [hfoot] at hx; rw [hro]; omega
  · exact Nat.ne_of_lt ((s.ok.ent e' he').ne_top s.top)
  · rw [hfoot] at hx; rw [hff e' he'] at hx'; exact g.fresh e' he' x hx' i (Nat.le_refl _) hi hx
  · rw [H.get_put, if_neg (by omega)]; exact s.keep x hx hmd
  · rcases List.mem_cons.1 he with rfl | he
    · rw [hfoot] at hx; omega
    · rw [hff e he] at hx; exact s.own e he hw x hx
  · rcases List.mem_cons.1 he with rfl | he
    · rw [hfoot] at hx; omega
    · rw [hff e he] at hx; exact g.fresh e he x hx k (by omega) hkl
  · rcases List.mem_cons.1 he with rfl | he
    · intro b hb
      rw [show (⟨nb, true, some i, cl⟩ : Bk).j = nb from rfl, Sg.upd_at] at hb
      injection hb with hb; injection hb with hb; exact hb.symm
    · have := g.born hd e he
      cases hb : e.born with
      | none => rw [hb] at this; intro x hx; rw [hff e he] at hx; exact this x hx
      | some k =>
        rw [hb] at this
        intro b hb'
        refine this b ?_
        unfold Sg.upd at hb'
        rw [if_neg (Nat.ne_of_lt ((s.ok.ent e he).ne_top s.top))] at hb'
        exact hb'

/-- A block with another content. -/
theorem SI.upd {G : Gh} {σ : Sg} {p : P} {bl1 bl2 : BL} {j : Nat} {born : Option Nat} {c0 cl : Cl} {nb : Nat} {f : FF} {h : H} (s : SI G σ p (bl1 ++ ⟨j, true, born, c0⟩ :: bl2) nb f h) {dr : Bool} {c len i : Nat} (g : RG dr c len i σ (bl1 ++ ⟨j, true, born, c0⟩ :: bl2) G.h h)
    {b : Nat} (hb : σ j = some (some b)) (hnr : ∀ r, c0 ≠ .res r) {l' : List Sc} (hc : (∃ l, cl = .ex l ∧ LR (RSc σ) l l') ∨ cl = .raw l') :
    SI G σ p (bl1 ++ ⟨j, true, born, cl⟩ :: bl2) nb f (h.put b l') ∧ RG dr c len i σ (bl1 ++ ⟨j, true, born, cl⟩ :: bl2) G.h (h.put b l') ∧
      (∀ e ∈ bl1 ++ ⟨j, true, born, cl⟩ :: bl2, e.j ≠ j → e ∈ bl1 ++ ⟨j, true, born, c0⟩ :: bl2 ∧ ∀ x, (Foot σ (h.put b l') e x ↔ Foot σ h e x) ∧ (Foot σ h e x → (h.put b l').get x = h.get x)) ∧
      (∀ e ∈ bl1 ++ ⟨j, true, born, c0⟩ :: bl2, e.j ≠ j → e ∈ bl1 ++ ⟨j, true, born, cl⟩ :: bl2) := by
  have hin : (⟨j, true, born, c0⟩ : Bk) ∈ bl1 ++ ⟨j, true, born, c0⟩ :: bl2 := by simp
  have hf0 : ∀ x, Foot σ h ⟨j, true, born, c0⟩ x ↔ x = b := fun x => by
    unfold Foot
    rw [show (⟨j, true, born, c0⟩ : Bk).j = j from rfl, hb]
    cases c0 with
    | res r => exact absurd rfl (hnr r)
    | _ => exact Iff.rfl
  have hf1 : ∀ x, Foot σ (h.put b l') ⟨j, true, born, cl⟩ x ↔ x = b := fun x => by
    unfold Foot
    rw [show (⟨j, true, born, cl⟩ : Bk).j = j from rfl, hb]
    rcases hc with ⟨l, rfl, _⟩ | rfl <;> exact Iff.rfl
  have hget : ∀ e ∈ bl1 ++ ⟨j, true, born, c0⟩ :: bl2, e.j ≠ j → ∀ x, Foot σ h e x → (h.put b l').get x = h.get x := fun e he hne x hx => by
    rw [H.get_put, if_neg fun e' => ?_]
    exact s.ok.dis e he _ hin hne (.inr rfl) x hx ((hf0 x).2 e')
  have hold : ∀ e ∈ bl1 ++ ⟨j, true, born, cl⟩ :: bl2, e = ⟨j, true, born, cl⟩ ∨ (e.j ≠ j ∧ e ∈ bl1 ++ ⟨j, true, born, c0⟩ :: bl2) := fun e he => by
    have hu := s.ok.uniq
    simp only [List.map_append, List.map_cons, List.nodup_append, List.nodup_cons, List.mem_cons, List.mem_map] at hu
    rcases List.mem_append.1 he with he | he
    · refine .inr ⟨fun e' => ?_, List.mem_append_left _ he⟩
      exact hu.2.2 e.j ⟨e, he, rfl⟩ j (.inl rfl) e'
    · rcases List.mem_cons.1 he with rfl | he
      · exact .inl rfl
      · refine .inr ⟨fun e' => ?_, List.mem_append_right _ (List.mem_cons_of_mem _ he)⟩
        exact hu.2.1.1 ⟨e, he, e'⟩
  have hff : ∀ e ∈ bl1 ++ ⟨j, true, born, c0⟩ :: bl2, e.j ≠ j → Ent σ (h.put b l') e ∧ ∀ x, Foot σ (h.put b l') e x ↔ Foot σ h e x := fun e he hne => (s.ok.ent e he).frame (hget e he hne)
  have hent : Ent σ (h.put b l') ⟨j, true, born, cl⟩ := by
    unfold Ent
    rw [show (⟨j, true, born, cl⟩ : Bk).j = j from rfl, hb]
    rcases hc with ⟨l, rfl, hr⟩ | rfl
    · exact ⟨l', by rw [H.get_put, if_pos rfl], hr⟩
    · show (h.put b l').get b = some l'
      rw [H.get_put, if_pos rfl]
  have hb0 : Foot σ h ⟨j, true, born, c0⟩ b := (hf0 b).2 rfl
  refine ⟨⟨s.ag, ⟨fun e he => ?_, fun e he x hx => ?_, fun e he hw x hx => ?_, ?_, fun e he e' he' hne hw x hx hx' => ?_⟩, s.top, s.nx, s.ro, s.lo, fun x hx hmd => ?_, fun e he hw x hx => ?_, s.kn, s.pin⟩, ⟨g.lo, g.hi, fun e he x hx k hk hkl => ?_, fun hd e he => ?_⟩, fun e he hne => ?_, fun e he hne => ?_⟩
  · rcases hold e he with rfl | ⟨hne, he⟩
    · exact hent
    · exact (hff e he hne).1
  · rcases hold e he with rfl | ⟨hne, he⟩
    · rw [hf1] at hx; subst hx; exact s.ok.low _ hin _ hb0
    · rw [(hff e he hne).2] at hx; exact s.ok.low e he x hx
  · rcases hold e he with rfl | ⟨hne, he⟩
    · rw [hf1] at hx; subst hx; exact s.ok.wr _ hin rfl _ hb0
    · rw [(hff e he hne).2] at hx; exact s.ok.wr e he hw x hx
  · have := s.ok.uniq; simpa using this
  · rcases hold e he with rfl | ⟨hn1, he⟩
    · rcases hold e' he' with rfl | ⟨hn2, he'⟩
      · exact hne rfl
      · rw [hf1] at hx; subst hx; rw [(hff e' he' hn2).2] at hx'
        exact s.ok.dis _ hin e' he' (Ne.symm hn2) (.inl rfl) _ hb0 hx'
    · rcases hold e' he' with rfl | ⟨hn2, he'⟩
      · rw [hf1] at hx'; subst hx'; rw [(hff e he hn1).2] at hx
        exact s.ok.dis e he _ hin hn1 (.inr rfl) _ hx hb0
      · rw [(hff e he hn1).2] at hx; rw [(hff e' he' hn2).2] at hx'
        exact s.ok.dis e he e' he' hne hw x hx hx'
  · rw [H.get_put]
    by_cases hxb : x = b
    · subst hxb
      rcases s.own _ hin rfl _ hb0 with h1 | h1
      · omega
      · exact absurd h1 hmd
    · rw [if_neg hxb]; exact s.keep x hx hmd
  · rcases hold e he with rfl | ⟨hne, he⟩
    · rw [hf1] at hx; subst hx; exact s.own _ hin rfl _ hb0
    · rw [(hff e he hne).2] at hx; exact s.own e he hw x hx
  · rcases hold e he with rfl | ⟨hne, he⟩
    · rw [hf1] at hx; subst hx; exact g.fresh _ hin _ hb0 k hk hkl
    · rw [(hff e he hne).2] at hx; exact g.fresh e he x hx k hk hkl
  · rcases hold e he with rfl | ⟨hne, he⟩
    · have := g.born hd _ hin
      cases born with
      | none => intro x hx; rw [hf1] at hx; subst hx; exact this _ hb0
      | some k => exact this
    · have := g.born hd e he
      cases hb : e.born with
      | none => rw [hb] at this; intro x hx; rw [(hff e he hne).2] at hx; exact this x hx
      | some k => rw [hb] at this; exact this
  · rcases hold e he with rfl | ⟨_, he⟩
    · exact absurd rfl hne
    · exact ⟨he, fun x => ⟨(hff e he hne).2 x, hget e he hne x⟩⟩
  · rcases List.mem_append.1 he with he | he
    · exact List.mem_append_left _ he
    · rcases List.mem_cons.1 he with rfl | he
      · exact absurd rfl hne
      · exact List.mem_append_right _ (List.mem_cons_of_mem _ he)

/-- With fewer blocks known. -/
theorem SI.sub {G : Gh} {σ : Sg} {p : P} {bl bl' : BL} {nb : Nat} {f : FF} {h : H} (s : SI G σ p bl nb f h) (hs : bl'.Sublist bl) : SI G σ p bl' nb f h :=
  ⟨s.ag, s.ok.sub hs, s.top, s.nx, s.ro, s.lo, s.keep, fun e he => s.own e (hs.subset he), s.kn, s.pin⟩
theorem RG.sub {dr : Bool} {c len i : Nat} {σ : Sg} {bl bl' : BL} {h0 h : H} (g : RG dr c len i σ bl h0 h) (hs : bl'.Sublist bl) : RG dr c len i σ bl' h0 h :=
  ⟨g.lo, g.hi, fun e he => g.fresh e (hs.subset he), fun hd e he => g.born hd e (hs.subset he)⟩

end Go.AM
