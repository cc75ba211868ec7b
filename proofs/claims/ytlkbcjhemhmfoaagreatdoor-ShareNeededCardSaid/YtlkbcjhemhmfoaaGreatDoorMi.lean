/- The plain law: flows, cuts and promises. -/
section
/- Sums, flows, cuts; pipes and what is reached: the plain law. No program. -/
set_option linter.unusedSimpArgs false
set_option linter.unusedVariables false
namespace Snow

/-- The sum of f over 0 .. n-1. -/
def S : Nat → (Nat → Int) → Int
  | 0, _ => 0
  | n + 1, f => S n f + f n

theorem S_congr {n : Nat} {f g : Nat → Int} (h : ∀ i, i < n → f i = g i) : S n f = S n g := by
  induction n with
  | zero => rfl
  | succ n ih => simp only [S]; rw [ih fun i hi => h i (by omega), h n (by omega)]

theorem S_le {n : Nat} {f g : Nat → Int} (h : ∀ i, i < n → f i ≤ g i) : S n f ≤ S n g := by
  induction n with
  | zero => exact Int.le_refl _
  | succ n ih => simp only [S]; have := ih fun i hi => h i (by omega); have := h n (by omega); omega

theorem S_add (n : Nat) (f g : Nat → Int) : S n (fun i => f i + g i) = S n f + S n g := by
  induction n with
  | zero => rfl
  | succ n ih => simp only [S, ih]; omega

theorem S_sub (n : Nat) (f g : Nat → Int) : S n (fun i => f i - g i) = S n f - S n g := by
  induction n with
  | zero => rfl
  | succ n ih => simp only [S, ih]; omega

theorem S_zero (n : Nat) : S n (fun _ => 0) = 0 := by
  induction n with
  | zero => rfl
  | succ n ih => simp only [S, ih]; rfl

theorem S_nonneg {n : Nat} {f : Nat → Int} (h : ∀ i, i < n → 0 ≤ f i) : 0 ≤ S n f := by
  have := S_le (n := n) (f := fun _ => 0) (g := f) h
  rwa [S_zero] at this

theorem S_eq_zero {n : Nat} {f : Nat → Int} (h : ∀ i, i < n → f i = 0) : S n f = 0 := by
  rw [S_congr (g := fun _ => 0) h, S_zero]

theorem S_swap (n m : Nat) (f : Nat → Nat → Int) : S n (fun i => S m (fun k => f i k)) = S m (fun k => S n (fun i => f i k)) := by
  induction n with
  | zero => simp only [S]; exact (S_zero m).symm
  | succ n ih => simp only [S]; rw [S_add, ih]

/-- The sum whose first summand is taken off. -/
theorem S_head (n : Nat) (f : Nat → Int) : S (n + 1) f = f 0 + S n (fun i => f (i + 1)) := by
  induction n with
  | zero => simp [S]
  | succ n ih => rw [S, ih]; simp only [S]; omega

theorem S_ge_one {n : Nat} {f : Nat → Int} (h : ∀ i, i < n → 0 ≤ f i) {k : Nat} (hk : k < n) : f k ≤ S n f := by
  induction n with
  | zero => omega
  | succ n ih =>
    simp only [S]
    by_cases e : k = n
    · subst e; have := S_nonneg (n := k) (f := f) fun i hi => h i (by omega); omega
    · have := ih (fun i hi => h i (by omega)) (by omega); have := h n (by omega); omega

/-- If all summands of one sum are at most those of another one and the sums are equal, then so are the summands. -/
theorem S_eq_of_le {n : Nat} {f g : Nat → Int} (h : ∀ i, i < n → f i ≤ g i) (e : S n f = S n g) : ∀ i, i < n → f i = g i := by
  intro i hi
  have h1 := S_ge_one (n := n) (f := fun i => g i - f i) (fun i hi => by have := h i hi; omega) hi
  rw [S_sub] at h1
  have := h i hi
  omega

/-- The sum over all but those below k. -/
theorem S_split (n k : Nat) (h : k ≤ n) (f : Nat → Int) : S n f = S k f + S (n - k) (fun i => f (k + i)) := by
  obtain ⟨d, rfl⟩ : ∃ d, n = k + d := ⟨n - k, by omega⟩
  rw [show k + d - k = d by omega]
  clear h
  induction d with
  | zero => simp [S]
  | succ d ih => rw [show k + (d + 1) = (k + d) + 1 by omega]; simp only [S]; rw [ih]; omega

/-! ### What can be taken -/

/-- A share, told by numbers alone: n supplies and m rights; room i: what can be kept from supply i - 1 for supply i (0 if it does not follow it). -/
structure Inst where
  n : Nat
  m : Nat
  vol : Nat → Int
  room : Nat → Int
  win : Nat → Nat → Bool

/-- How it is shared: a: taken in; c: kept from the supply before; d: drawn. -/
structure Fl where
  a : Nat → Int
  c : Nat → Int
  d : Nat → Nat → Int

def Fl.took (f : Fl) (I : Inst) (k : Nat) : Int := S I.n (fun i => f.d k i)

structure Good (I : Inst) (f : Fl) : Prop where
  a0 : ∀ i, i < I.n → 0 ≤ f.a i
  a1 : ∀ i, i < I.n → f.a i ≤ I.vol i
  c0 : ∀ i, i < I.n → 0 ≤ f.c i
  c1 : ∀ i, i < I.n → f.c i ≤ I.room i
  cf : f.c 0 ≤ 0
  cn : f.c I.n = 0
  d0 : ∀ k i, k < I.m → i < I.n → 0 ≤ f.d k i
  dw : ∀ k i, k < I.m → i < I.n → I.win k i = false → f.d k i = 0
  keep : ∀ i, i < I.n → f.a i + f.c i = S I.m (fun k => f.d k i) + f.c (i + 1)

/-- What a set X of supplies lets in at most. -/
def bound (I : Inst) (X : Nat → Bool) : Int :=
  S I.n fun i => (if X i then I.vol i else 0) + (if 0 < i ∧ X i = true ∧ X (i - 1) = false then I.room i else 0)

def Closed (I : Inst) (X Y : Nat → Bool) : Prop := ∀ k i, k < I.m → i < I.n → Y k = true → I.win k i = true → X i = true

theorem weak {I : Inst} {f : Fl} (g : Good I f) {X Y : Nat → Bool} (h : Closed I X Y) : S I.m (fun k => if Y k then f.took I k else 0) ≤ bound I X := by
  -- what the rights of Y draw comes out of X
  have e1 : S I.m (fun k => if Y k then f.took I k else 0) ≤ S I.n (fun i => if X i then S I.m (fun k => f.d k i) else 0) := by
    have e : S I.m (fun k => if Y k then f.took I k else 0) = S I.n (fun i => S I.m (fun k => if Y k then f.d k i else 0)) := by
      rw [S_swap]
      refine S_congr fun k _ => ?_
      cases hy : Y k
      · simp [S_zero]
      · simp [Fl.took]
    rw [e]
    refine S_le fun i hi => ?_
    cases hx : X i
    · simp only [Bool.false_eq_true, if_false]
      refine Int.le_of_eq (S_eq_zero fun k hk => ?_)
      cases hy : Y k
      · simp
      · simp only [if_true]
        cases hw : I.win k i
        · exact g.dw k i hk hi hw
        · have := h k i hk hi hy hw; simp [hx] at this
    · simp only [if_true]
      refine S_le fun k hk => ?_
      have := g.d0 k i hk hi
      split <;> omega
  have e2 : S I.n (fun i => if X i then S I.m (fun k => f.d k i) else 0) =
      S I.n (fun i => if X i then f.a i else 0) + (S I.n (fun i => if X i then f.c i else 0) - S I.n (fun i => if X i then f.c (i + 1) else 0)) := by
    rw [← S_sub, ← S_add]
    refine S_congr fun i hi => ?_
    have := g.keep i hi
    cases X i <;> simp <;> omega
  have e3 : S I.n (fun i => if X i then f.c i else 0) - S I.n (fun i => if X i then f.c (i + 1) else 0) ≤ S I.n (fun i => if 0 < i ∧ X i = true ∧ X (i - 1) = false then I.room i else 0) := by
    -- both sums over the places between two supplies
    have hn : S I.n (fun i => if X i then f.c (i + 1) else 0) = S I.n (fun i => if 0 < i ∧ X (i - 1) = true then f.c i else 0) := by
      rcases Nat.eq_zero_or_pos I.n with h0 | h0
      · rw [h0]; rfl
      · obtain ⟨N, hN⟩ : ∃ N, I.n = N + 1 := ⟨I.n - 1, by omega⟩
        rw [hN, S_head N (fun i => if 0 < i ∧ X (i - 1) = true then f.c i else 0)]
        simp only [S, Nat.lt_irrefl, false_and, if_false, Nat.add_sub_cancel, Nat.zero_lt_succ, true_and]
        have := g.cn
        rw [hN] at this
        rw [this]
        cases X N <;> simp
    rw [hn, ← S_sub]
    refine S_le fun i hi => ?_
    have h0 := g.c0 i hi
    have h1 := g.c1 i hi
    rcases Nat.eq_zero_or_pos i with e0 | e0
    · subst e0
      have := g.cf
      simp
      split <;> omega
    · have e0' : 0 < i := e0
      cases hx : X i <;> cases hy : X (i - 1) <;> simp [e0'] <;> omega
  have e4 : S I.n (fun i => if X i then f.a i else 0) ≤ S I.n (fun i => if X i then I.vol i else 0) := by
    refine S_le fun i hi => ?_
    have := g.a1 i hi
    split <;> omega
  have e5 : bound I X = S I.n (fun i => if X i then I.vol i else 0) + S I.n (fun i => if 0 < i ∧ X i = true ∧ X (i - 1) = false then I.room i else 0) := S_add _ _ _
  omega

/-- What a cut lets through, if the rights take l at most. -/
def cutOf (I : Inst) (l : Nat → Int) (X Y : Nat → Bool) : Int := bound I X + S I.m (fun k => if Y k then 0 else l k)

/-- v is the most that can be taken, if the rights take l at most: a flow and a cut show it. -/
def IsMax (I : Inst) (l : Nat → Int) (v : Int) : Prop :=
  (∃ f, Good I f ∧ (∀ k, k < I.m → f.took I k ≤ l k) ∧ S I.m (f.took I) = v) ∧ ∃ X Y, Closed I X Y ∧ cutOf I l X Y = v

/-- A flow takes no more than a cut lets through. -/
theorem flow_le_cut {I : Inst} {l : Nat → Int} {f : Fl} (g : Good I f) (hl : ∀ k, k < I.m → f.took I k ≤ l k) {X Y : Nat → Bool} (h : Closed I X Y) : S I.m (f.took I) ≤ cutOf I l X Y := by
  have h1 := weak g h
  have h2 : S I.m (fun k => if Y k then 0 else f.took I k) ≤ S I.m (fun k => if Y k then 0 else l k) := S_le fun k hk => by
    have := hl k hk
    split <;> omega
  have h3 : S I.m (f.took I) = S I.m (fun k => if Y k then f.took I k else 0) + S I.m (fun k => if Y k then 0 else f.took I k) := by
    rw [← S_add]
    exact S_congr fun k _ => by split <;> simp
  unfold cutOf
  omega

theorem IsMax.le_cut {I : Inst} {l : Nat → Int} {v : Int} (h : IsMax I l v) {X Y : Nat → Bool} (c : Closed I X Y) : v ≤ cutOf I l X Y := by
  obtain ⟨⟨f, g, hl, rfl⟩, _⟩ := h
  exact flow_le_cut g hl c

theorem IsMax.ge_flow {I : Inst} {l : Nat → Int} {v : Int} (h : IsMax I l v) {f : Fl} (g : Good I f) (hl : ∀ k, k < I.m → f.took I k ≤ l k) : S I.m (f.took I) ≤ v := by
  obtain ⟨_, X, Y, c, rfl⟩ := h
  exact flow_le_cut g hl c

theorem IsMax.unique {I : Inst} {l : Nat → Int} {v v' : Int} (h : IsMax I l v) (h' : IsMax I l v') : v = v' := by
  obtain ⟨⟨f, g, hl, e⟩, _⟩ := id h
  obtain ⟨⟨f', g', hl', e'⟩, _⟩ := id h'
  have := h'.ge_flow g hl
  have := h.ge_flow g' hl'
  omega

/-- The most is at most what is asked for. -/
theorem IsMax.le_sum {I : Inst} {l : Nat → Int} {v : Int} (h : IsMax I l v) : v ≤ S I.m l := by
  obtain ⟨⟨f, _, hl, rfl⟩, _⟩ := h
  exact S_le hl

/-! ### Uncrossing -/

def orB (X Y : Nat → Bool) (i : Nat) : Bool := X i || Y i
def andB (X Y : Nat → Bool) (i : Nat) : Bool := X i && Y i

theorem Closed.or {I : Inst} {X Y X' Y' : Nat → Bool} (h : Closed I X Y) (h' : Closed I X' Y') : Closed I (orB X X') (orB Y Y') := fun k i hk hi hy hw => by
  unfold orB at hy ⊢
  rcases Bool.or_eq_true_iff.1 hy with e | e
  · rw [h k i hk hi e hw]; rfl
  · rw [h' k i hk hi e hw]; simp

theorem Closed.and {I : Inst} {X Y X' Y' : Nat → Bool} (h : Closed I X Y) (h' : Closed I X' Y') : Closed I (andB X X') (andB Y Y') := fun k i hk hi hy hw => by
  unfold andB at hy ⊢
  obtain ⟨e, e'⟩ := Bool.and_eq_true_iff.1 hy
  rw [h k i hk hi e hw, h' k i hk hi e' hw]; rfl

/-- Two shares alike but for their volumes and rooms. -/
structure Alike (I J : Inst) : Prop where
  n : J.n = I.n
  m : J.m = I.m
  win : J.win = I.win

theorem Alike.closed {I J : Inst} (h : Alike I J) {X Y : Nat → Bool} (c : Closed I X Y) : Closed J X Y := fun k i hk hi => by
  rw [h.win]; exact c k i (h.m ▸ hk) (h.n ▸ hi)

/-- More water, more is let in. -/
theorem bound_mono {I J : Inst} (h : Alike I J) (hv : ∀ i, i < I.n → I.vol i ≤ J.vol i) (hr : ∀ i, i < I.n → I.room i ≤ J.room i) (X : Nat → Bool) : bound I X ≤ bound J X := by
  unfold bound
  rw [h.n]
  refine S_le fun i hi => ?_
  have h1 := hv i hi
  have h2 := hr i hi
  split <;> split <;> omega

/-- The bounds of two sets, one of them in a share with more water, uncrossed. -/
theorem bound_cross {I J : Inst} (h : Alike I J) (hv : ∀ i, i < I.n → I.vol i ≤ J.vol i) (hr : ∀ i, i < I.n → J.room i = I.room i) (hr0 : ∀ i, i < I.n → 0 ≤ I.room i) (X Z : Nat → Bool) :
    bound J (andB X Z) + bound I (orB X Z) ≤ bound J X + bound I Z := by
  unfold bound
  rw [h.n, ← S_add, ← S_add]
  refine S_le fun i hi => ?_
  have h1 := hv i hi
  have h2 := hr i hi
  have h3 := hr0 i hi
  simp only [andB, orB]
  rw [h2]
  have tf : ∀ b : Bool, b = true ∨ b = false := fun b => by cases b <;> simp
  rcases Nat.eq_zero_or_pos i with e0 | e0
  · subst e0
    rcases tf (X 0) with hx | hx <;> rcases tf (Z 0) with hz | hz <;> simp [hx, hz] <;> omega
  · rcases tf (X i) with hx | hx <;> rcases tf (Z i) with hz | hz <;> rcases tf (X (i - 1)) with hx' | hx' <;> rcases tf (Z (i - 1)) with hz' | hz' <;> simp [e0, hx, hz, hx', hz'] <;> omega


/-! ### The most, and what turns with it -/

/-- More water, or more asked for: no less can be taken. -/
theorem IsMax.mono {I J : Inst} {l l' : Nat → Int} {v v' : Int} (a : Alike I J) (hv : ∀ i, i < I.n → I.vol i ≤ J.vol i) (hr : ∀ i, i < I.n → I.room i ≤ J.room i)
    (hl : ∀ k, k < I.m → l k ≤ l' k) (h : IsMax I l v) (h' : IsMax J l' v') : v ≤ v' := by
  obtain ⟨_, X, Y, c, rfl⟩ := h'
  have c' : Closed I X Y := fun k i hk hi hy hw => c k i (a.m ▸ hk) (a.n ▸ hi) hy (by rw [a.win]; exact hw)
  have h1 := h.le_cut c'
  have h2 := bound_mono a hv hr X
  have h3 : S I.m (fun k => if Y k then 0 else l k) ≤ S I.m (fun k => if Y k then 0 else l' k) := S_le fun k hk => by
    have := hl k hk
    split <;> omega
  unfold cutOf at *
  rw [a.m]
  omega

theorem Alike.refl (I : Inst) : Alike I I := ⟨rfl, rfl, rfl⟩

theorem IsMax.congr {I : Inst} {l l' : Nat → Int} {v : Int} (e : ∀ k, k < I.m → l k = l' k) (h : IsMax I l v) : IsMax I l' v := by
  obtain ⟨⟨f, g, hl, rfl⟩, X, Y, c, hc⟩ := h
  refine ⟨⟨f, g, fun k hk => e k hk ▸ hl k hk, rfl⟩, X, Y, c, ?_⟩
  rw [← hc]
  unfold cutOf
  rw [S_congr (f := fun k => if Y k then 0 else l' k) (g := fun k => if Y k then 0 else l k) fun k hk => by rw [e k hk]]

/-- The first k of numbers, 0 behind. -/
def upTo (c : Nat → Int) (k : Nat) (j : Nat) : Int := if j < k then c j else 0

theorem S_upTo (c : Nat → Int) {k m : Nat} (h : k ≤ m) : S m (upTo c k) = S k c := by
  rw [S_split m k h, S_congr (f := upTo c k) (g := c) fun i hi => by simp [upTo, hi]]
  rw [S_eq_zero (n := m - k) (f := fun i => upTo c k (k + i)) fun i _ => by unfold upTo; rw [if_neg (by omega)]]
  omega

/-- What is promised: with the first k claims, for each k, the most is the sum of what the first k rights are promised; and it can be taken together. -/
structure Promised (I : Inst) (c p : Nat → Int) : Prop where
  most : ∀ k, k ≤ I.m → IsMax I (upTo c k) (S k p)
  flow : ∃ f, Good I f ∧ ∀ k, k < I.m → f.took I k = p k

theorem Promised.unique {I : Inst} {c p q : Nat → Int} (h : Promised I c p) (h' : Promised I c q) : ∀ k, k < I.m → p k = q k := by
  intro k hk
  have h1 := (h.most k (by omega)).unique (h'.most k (by omega))
  have h2 := (h.most (k + 1) (by omega)).unique (h'.most (k + 1) (by omega))
  simp only [S] at h2
  omega

theorem Promised.nonneg {I : Inst} {c p : Nat → Int} (h : Promised I c p) : ∀ k, k < I.m → 0 ≤ p k := by
  intro k hk
  obtain ⟨f, g, e⟩ := h.flow
  rw [← e k hk]
  exact S_nonneg fun i hi => g.d0 k i hk hi

theorem Promised.le {I : Inst} {c p : Nat → Int} (h0 : ∀ k, k < I.m → 0 ≤ c k) (h : Promised I c p) : ∀ k, k < I.m → p k ≤ c k := by
  intro k hk
  have h2 := h.most (k + 1) (by omega)
  obtain ⟨_, X, Y, cl, hc⟩ := h.most k (by omega)
  have h3 := h2.le_cut cl
  have h4 : S I.m (fun j => if Y j then 0 else upTo c (k + 1) j) ≤ S I.m (fun j => if Y j then 0 else upTo c k j) + S I.m (fun j => upTo c (k + 1) j - upTo c k j) := by
    rw [← S_add]
    refine S_le fun j hj => ?_
    have := h0 j hj
    simp only [upTo]
    split <;> split <;> split <;> omega
  rw [S_sub, S_upTo c (show k + 1 ≤ I.m by omega), S_upTo c (show k ≤ I.m by omega)] at h4
  unfold cutOf at *
  simp only [S] at *
  omega

/-- With more water no right is promised less. -/
theorem Promised.more {I J : Inst} {c p q : Nat → Int} (h0 : ∀ k, k < I.m → 0 ≤ c k) (a : Alike I J) (hv : ∀ i, i < I.n → I.vol i ≤ J.vol i) (hr : ∀ i, i < I.n → J.room i = I.room i)
    (hr0 : ∀ i, i < I.n → 0 ≤ I.room i) (h : Promised I c p) (h' : Promised J c q) : ∀ k, k < I.m → p k ≤ q k := by
  intro k hk
  obtain ⟨_, X, Y, c1, e1⟩ := h'.most (k + 1) (by rw [a.m]; omega)
  obtain ⟨_, Z, W, c2, e2⟩ := h.most k (by omega)
  have c1' : Closed I X Y := fun k i hk hi hy hw => c1 k i (a.m ▸ hk) (a.n ▸ hi) hy (by rw [a.win]; exact hw)
  have h3 := (h'.most k (by rw [a.m]; omega)).le_cut (a.closed (c1'.and c2))
  have h4 := (h.most (k + 1) (by omega)).le_cut (c1'.or c2)
  have h5 := bound_cross a hv hr hr0 X Z
  have h6 : S I.m (fun j => if andB Y W j then 0 else upTo c k j) + S I.m (fun j => if orB Y W j then 0 else upTo c (k + 1) j) ≤
      S I.m (fun j => if Y j then 0 else upTo c (k + 1) j) + S I.m (fun j => if W j then 0 else upTo c k j) := by
    rw [← S_add, ← S_add]
    refine S_le fun j hj => ?_
    have := h0 j hj
    have : upTo c k j ≤ upTo c (k + 1) j := by unfold upTo; split <;> split <;> omega
    have : 0 ≤ upTo c k j := by unfold upTo; split <;> omega
    have tf : ∀ b : Bool, b = true ∨ b = false := fun b => by cases b <;> simp
    simp only [andB, orB]
    rcases tf (Y j) with hx | hx <;> rcases tf (W j) with hz | hz <;> simp [hx, hz] <;> omega
  unfold cutOf at *
  rw [a.m] at *
  simp only [S] at *
  omega

/-- If one right claims less, no other one is promised less. -/
theorem Promised.less {I : Inst} {c c' p q : Nat → Int} {at_ : Nat} (h0 : ∀ k, k < I.m → 0 ≤ c' k) (hle : ∀ k, k < I.m → c' k ≤ c k) (hne : ∀ k, k < I.m → k ≠ at_ → c' k = c k)
    (hr0 : ∀ i, i < I.n → 0 ≤ I.room i) (h : Promised I c p) (h' : Promised I c' q) : ∀ k, k < I.m → k ≠ at_ → p k ≤ q k := by
  intro k hk hka
  obtain ⟨_, X, Y, c1, e1⟩ := h'.most (k + 1) (by omega)
  obtain ⟨_, Z, W, c2, e2⟩ := h.most k (by omega)
  have h3 := (h'.most k (by omega)).le_cut (c1.and c2)
  have h4 := (h.most (k + 1) (by omega)).le_cut (c1.or c2)
  have h5 := bound_cross (Alike.refl I) (fun i _ => Int.le_refl _) (fun i _ => rfl) hr0 X Z
  have h6 : S I.m (fun j => if andB Y W j then 0 else upTo c' k j) + S I.m (fun j => if orB Y W j then 0 else upTo c (k + 1) j) ≤
      S I.m (fun j => if Y j then 0 else upTo c' (k + 1) j) + S I.m (fun j => if W j then 0 else upTo c k j) := by
    rw [← S_add, ← S_add]
    refine S_le fun j hj => ?_
    have i0 := h0 j hj
    have i1 := hle j hj
    have i2 := hne j hj
    have tf : ∀ b : Bool, b = true ∨ b = false := fun b => by cases b <;> simp
    have i3 : upTo c' k j ≤ upTo c k j := by unfold upTo; split <;> omega
    have i4 : upTo c' k j ≤ upTo c' (k + 1) j := by unfold upTo; split <;> split <;> omega
    have i5 : upTo c (k + 1) j + upTo c' k j ≤ upTo c' (k + 1) j + upTo c k j := by
      unfold upTo
      by_cases e : j = k
      · subst e; have := i2 hka; simp; omega
      · split <;> split <;> omega
    simp only [andB, orB]
    rcases tf (Y j) with hx | hx <;> rcases tf (W j) with hz | hz <;> simp [hx, hz] <;> omega
  unfold cutOf at *
  simp only [S] at *
  omega

/-- Nothing more can be promised to a right without taking from an elder one. -/
theorem Promised.no_more {I : Inst} {c p l : Nat → Int} (h0 : ∀ k, k < I.m → 0 ≤ c k) (h : Promised I c p) {k : Nat} (hk : k < I.m) (hlt : p k < c k) (hl : ∀ j, j < k → l j = p j) (hlk : l k = p k + 1)
    (hl0 : ∀ j, k < j → j < I.m → l j = 0) {v : Int} (hv : IsMax I l v) : v ≠ S I.m l := by
  intro e
  have hp := h.le h0
  have h1 : S I.m l = S (k + 1) p + 1 := by
    rw [S_split I.m (k + 1) (by omega), S_eq_zero (n := I.m - (k + 1)) fun i hi => hl0 _ (by omega) (by omega)]
    simp only [S]
    rw [S_congr hl, hlk]
    omega
  have h2 := IsMax.mono (l' := upTo c (k + 1)) (Alike.refl I) (fun i _ => Int.le_refl _) (fun i _ => Int.le_refl _) (fun j hj => by
    unfold upTo
    split
    · rename_i hjk
      by_cases e : j = k
      · subst e; omega
      · rw [hl j (by omega)]; exact hp j hj
    · rw [hl0 j (by omega) hj]; exact Int.le_refl _) hv (h.most (k + 1) (by omega))
  omega

/-- What is promised can be taken together. -/
theorem Promised.enough {I : Inst} {c p : Nat → Int} (h : Promised I c p) {v : Int} (hv : IsMax I p v) : v = S I.m p := by
  obtain ⟨f, g, e⟩ := h.flow
  have h1 := hv.ge_flow g (fun k hk => Int.le_of_eq (e k hk))
  rw [S_congr e] at h1
  have := hv.le_sum
  omega

/-- Volumes that are nowhere greater than some that can be taken together. -/
theorem IsMax.enough_less {I : Inst} {l l' : Nat → Int} {v' : Int} (h : IsMax I l (S I.m l)) (hle : ∀ k, k < I.m → l' k ≤ l k) (h' : IsMax I l' v') : v' = S I.m l' := by
  obtain ⟨⟨f, g, hf, ef⟩, _⟩ := h
  have e := S_eq_of_le hf ef
  obtain ⟨_, X, Y, c, hc⟩ := id h'
  have h1 := weak g c
  have h2 := h'.le_sum
  have h3 : S I.m (fun k => if Y k then l' k else 0) ≤ S I.m (fun k => if Y k then f.took I k else 0) := S_le fun k hk => by
    have := hle k hk
    have := e k hk
    split <;> omega
  have h4 : S I.m l' = S I.m (fun k => if Y k then l' k else 0) + S I.m (fun k => if Y k then 0 else l' k) := by
    rw [← S_add]
    exact S_congr fun k _ => by split <;> simp
  unfold cutOf at hc
  omega

/-! ### Fewer rights -/

def fewer (I : Inst) (m : Nat) : Inst := { I with m := m }

theorem IsMax.fewer {I : Inst} {m : Nat} (hm : m ≤ I.m) {l : Nat → Int} {v : Int} (h : IsMax (fewer I m) l v) : IsMax I (upTo l m) v := by
  obtain ⟨⟨f, g, hl, ef⟩, X, Y, c, hc⟩ := h
  have key : ∀ (F : Nat → Int), (∀ k, m ≤ k → F k = 0) → S I.m F = S m F := fun F h0 => by
    rw [S_split I.m m hm, S_eq_zero (n := I.m - m) fun i _ => h0 _ (by omega)]
    omega
  refine ⟨⟨⟨f.a, f.c, fun k i => if k < m then f.d k i else 0⟩, ⟨g.a0, g.a1, g.c0, g.c1, g.cf, g.cn, ?_, ?_, ?_⟩, ?_, ?_⟩, X, fun k => decide (k < m) && Y k, ?_, ?_⟩
  · intro k i hk hi
    dsimp only
    split
    · exact g.d0 k i ‹_› hi
    · exact Int.le_refl _
  · intro k i hk hi hw
    dsimp only
    split
    · exact g.dw k i ‹_› hi hw
    · rfl
  · intro i hi
    rw [key _ fun k hk => by dsimp only; rw [if_neg (by omega)]]
    rw [g.keep i hi]
    show S m (fun k => f.d k i) + _ = _
    dsimp only
    rw [S_congr (f := fun k => if k < m then f.d k i else 0) (g := fun k => f.d k i) fun k hk => if_pos hk]
  · intro k hk
    unfold upTo Fl.took
    dsimp only
    split
    · exact hl k ‹_›
    · rw [S_zero]; exact Int.le_refl _
  · rw [key _ fun k hk => by
      unfold Fl.took
      dsimp only
      exact S_eq_zero fun i _ => if_neg (by omega)]
    rw [← ef]
    refine S_congr fun k hk => ?_
    show S I.n _ = S I.n _
    refine S_congr fun i _ => ?_
    dsimp only
    rw [if_pos hk]
  · intro k i hk hi hy hw
    simp only [Bool.and_eq_true, decide_eq_true_eq] at hy
    exact c k i hy.1 hi hy.2 hw
  · rw [← hc]
    unfold cutOf
    rw [key _ fun k hk => by simp [upTo, show ¬ k < m by omega]]
    show bound I X + S m _ = bound I X + S m _
    rw [S_congr (g := fun k => if Y k then 0 else l k) fun k hk => by simp [upTo, hk]]

theorem Promised.fewer {I : Inst} {m : Nat} (hm : m ≤ I.m) {c p q : Nat → Int} (h : Promised I c p) (h' : Promised (fewer I m) c q) : ∀ k, k < m → q k = p k := by
  have e : ∀ k, k ≤ m → S k q = S k p := fun k hk => by
    have h1 := (h'.most k hk).fewer hm
    have h2 : IsMax I (upTo c k) (S k q) := h1.congr fun j _ => by unfold upTo; split <;> split <;> first | rfl | omega
    exact h2.unique (h.most k (by omega))
  intro k hk
  have h1 := e k (by omega)
  have h2 := e (k + 1) (by omega)
  simp only [S] at h2
  omega

/-! ### How much more has to come -/

/-- A supply with so much more. -/
def extra (I : Inst) (at_ : Nat) (x : Int) : Inst := { I with vol := fun i => if i = at_ then I.vol i + x else I.vol i }

theorem extra_alike (I : Inst) (at_ : Nat) (x y : Int) : Alike (extra I at_ x) (extra I at_ y) := ⟨rfl, rfl, rfl⟩

theorem S_one {n : Nat} {k : Nat} (hk : k < n) (x : Int) : S n (fun i => if i = k then x else 0) = x := by
  induction n with
  | zero => omega
  | succ n ih =>
    simp only [S]
    by_cases e : n = k
    · subst e
      rw [S_eq_zero fun i hi => by rw [if_neg (by omega)], if_pos rfl]
      omega
    · rw [ih (by omega), if_neg e]
      omega

/-- More than all claims together doesn't help more than these. -/
theorem IsMax.extra {I : Inst} {at_ : Nat} (hat : at_ < I.n) {l : Nat → Int} {M x : Int} (hM : S I.m l ≤ M) (hx : M ≤ x) (hv0 : ∀ i, i < I.n → 0 ≤ I.vol i) (hr0 : ∀ i, i < I.n → 0 ≤ I.room i)
    (hl0 : ∀ k, k < I.m → 0 ≤ l k) {v v' : Int} (h : IsMax (extra I at_ M) l v) (h' : IsMax (extra I at_ x) l v') : v' = v := by
  have h1 := IsMax.mono (extra_alike I at_ M x) (fun i _ => by dsimp only [Snow.extra]; split <;> omega) (fun i _ => Int.le_refl _) (fun k _ => Int.le_refl _) h h'
  have h2 : v' ≤ v := by
    obtain ⟨_, X, Y, c, rfl⟩ := h
    by_cases hX : X at_ = true
    · have h3 := h'.le_sum
      have h4 : M ≤ bound (Snow.extra I at_ M) X := by
        have h5 : S I.n (fun i => if i = at_ then M else 0) ≤ bound (Snow.extra I at_ M) X := by
          refine S_le fun i hi => ?_
          have := hv0 i hi
          have := hr0 i hi
          dsimp only [Snow.extra]
          by_cases e : i = at_
          · subst e
            simp only [if_true, hX]
            split <;> omega
          · simp only [if_neg e]
            split <;> split <;> omega
        rwa [S_one hat] at h5
      have h6 : 0 ≤ S I.m (fun k => if Y k then 0 else l k) := S_nonneg fun k hk => by
        have := hl0 k hk
        split <;> omega
      have e1 : (Snow.extra I at_ x).m = I.m := rfl
      have e2 : (Snow.extra I at_ M).m = I.m := rfl
      unfold cutOf
      rw [e1] at h3
      rw [e2]
      omega
    · have h3 := h'.le_cut (X := X) (Y := Y) c
      have h4 : bound (Snow.extra I at_ x) X = bound (Snow.extra I at_ M) X := S_congr fun i hi => by
        dsimp only [Snow.extra]
        by_cases e : i = at_
        · subst e; simp [hX]
        · simp only [if_neg e]
      unfold cutOf at *
      rw [h4] at h3
      exact h3
  omega

end Snow
namespace Snow

structure Pipe where
  fr : Nat
  to : Nat
  most : Int
  now : Int

/-- The sum over a list. -/
def LS {α : Type} (l : List α) (f : α → Int) : Int := match l with
  | [] => 0
  | x :: r => f x + LS r f

theorem LS_append {α : Type} (l r : List α) (f : α → Int) : LS (l ++ r) f = LS l f + LS r f := by
  induction l with
  | nil => simp [LS]
  | cons x l ih => simp only [List.cons_append, LS, ih]; omega
theorem LS_congr {α : Type} {l : List α} {f g : α → Int} (h : ∀ x ∈ l, f x = g x) : LS l f = LS l g := by
  induction l with
  | nil => rfl
  | cons x l ih => simp only [LS, h x (by simp), ih fun y hy => h y (by simp [hy])]
theorem LS_le {α : Type} {l : List α} {f g : α → Int} (h : ∀ x ∈ l, f x ≤ g x) : LS l f ≤ LS l g := by
  induction l with
  | nil => simp [LS]
  | cons x l ih =>
    have := h x (by simp); have := ih fun y hy => h y (by simp [hy])
    simp only [LS]; omega
theorem LS_add {α : Type} (l : List α) (f g : α → Int) : LS l (fun x => f x + g x) = LS l f + LS l g := by
  induction l with
  | nil => simp [LS]
  | cons x l ih => simp only [LS, ih]; omega
theorem LS_sub {α : Type} (l : List α) (f g : α → Int) : LS l (fun x => f x - g x) = LS l f - LS l g := by
  induction l with
  | nil => simp [LS]
  | cons x l ih => simp only [LS, ih]; omega
theorem LS_zero {α : Type} {l : List α} {f : α → Int} (h : ∀ x ∈ l, f x = 0) : LS l f = 0 := by
  induction l with
  | nil => rfl
  | cons x l ih => simp only [LS, h x (by simp), ih fun y hy => h y (by simp [hy])]; rfl
theorem LS_nonneg {α : Type} {l : List α} {f : α → Int} (h : ∀ x ∈ l, 0 ≤ f x) : 0 ≤ LS l f := by
  have := LS_le (l := l) (f := fun _ => 0) (g := f) h
  rwa [LS_zero fun _ _ => rfl] at this
theorem LS_map {α β : Type} (l : List α) (g : α → β) (f : β → Int) : LS (l.map g) f = LS l fun x => f (g x) := by
  induction l with
  | nil => rfl
  | cons x l ih => simp only [List.map_cons, LS, ih]
theorem LS_flatMap {α β : Type} (l : List α) (g : α → List β) (f : β → Int) : LS (l.flatMap g) f = LS l fun x => LS (g x) f := by
  induction l with
  | nil => rfl
  | cons x l ih => simp only [List.flatMap_cons, LS_append, LS, ih]
theorem LS_member {α : Type} {l : List α} {f : α → Int} (h : ∀ x ∈ l, 0 ≤ f x) {x : α} (hx : x ∈ l) : f x ≤ LS l f := by
  induction l with
  | nil => cases hx
  | cons y l ih =>
    simp only [LS]
    have h0 := h y (by simp)
    have h1 := LS_nonneg (l := l) (f := f) fun z hz => h z (by simp [hz])
    cases hx with
    | head => omega
    | tail _ hx => have := ih (fun z hz => h z (by simp [hz])) hx; omega
theorem LS_set {α : Type} {l : List α} {i : Nat} {x y : α} (h : l[i]? = some x) (f : α → Int) : LS (l.set i y) f = LS l f - f x + f y := by
  induction l generalizing i with
  | nil => simp at h
  | cons z l ih =>
    cases i with
    | zero => simp only [List.getElem?_cons_zero, Option.some.injEq] at h; subst h; simp only [List.set_cons_zero, LS]; omega
    | succ i => simp only [List.getElem?_cons_succ] at h; simp only [List.set_cons_succ, LS, ih h]; omega

/-- What flows out of a place, less what flows in. -/
def net (ps : List Pipe) (v : Nat) : Int := LS ps fun p => (if p.fr = v then p.now else 0) - (if p.to = v then p.now else 0)

structure Flows (s t : Nat) (ps : List Pipe) : Prop where
  low : ∀ p ∈ ps, 0 ≤ p.now
  high : ∀ p ∈ ps, p.now ≤ p.most
  keep : ∀ v, v ≠ s → v ≠ t → net ps v = 0

/-- More through one pipe, in its direction or against it. -/
def more (ps : List Pipe) (i : Nat) (x : Int) : List Pipe := match ps[i]? with
  | some p => ps.set i { p with now := p.now + x }
  | none => ps
theorem net_more {ps : List Pipe} {i : Nat} {p : Pipe} (h : ps[i]? = some p) (x : Int) (v : Nat) : net (more ps i x) v = net ps v + ((if p.fr = v then x else 0) - (if p.to = v then x else 0)) := by
  unfold more net
  rw [h]
  dsimp only
  rw [LS_set h]
  dsimp only
  split <;> split <;> omega

/-- The same pipes: only what flows differs. -/
def Alike2 (ps qs : List Pipe) : Prop := qs.length = ps.length ∧ ∀ (i : Nat) (p q : Pipe), ps[i]? = some p → qs[i]? = some q → q.fr = p.fr ∧ q.to = p.to ∧ q.most = p.most
theorem Alike2.refl (ps : List Pipe) : Alike2 ps ps := ⟨rfl, fun i p q hp hq => by rw [hp] at hq; injection hq with hq; subst hq; exact ⟨rfl, rfl, rfl⟩⟩
theorem Alike2.trans {ps qs rs : List Pipe} (a : Alike2 ps qs) (b : Alike2 qs rs) : Alike2 ps rs := ⟨b.1.trans a.1, fun i p r hp hr => by
  have hi : i < qs.length := by
    rw [a.1]
    exact (List.getElem?_eq_some_iff.mp hp).1
  have h1 := a.2 i p qs[i] hp (List.getElem?_eq_getElem hi)
  have h2 := b.2 i qs[i] r (List.getElem?_eq_getElem hi) hr
  exact ⟨h2.1.trans h1.1, h2.2.1.trans h1.2.1, h2.2.2.trans h1.2.2⟩⟩
theorem more_get {ps : List Pipe} {i : Nat} {p : Pipe} (h : ps[i]? = some p) (x : Int) (j : Nat) : (more ps i x)[j]? = if j = i then some { p with now := p.now + x } else ps[j]? := by
  unfold more
  rw [h]
  dsimp only
  rw [List.getElem?_set]
  by_cases e : j = i
  · subst e; rw [if_pos rfl, if_pos rfl, if_pos (List.getElem?_eq_some_iff.mp h).1]
  · rw [if_neg (fun a => e a.symm), if_neg e]
theorem Alike2.more {ps : List Pipe} {i : Nat} {p : Pipe} (h : ps[i]? = some p) (x : Int) : Alike2 ps (more ps i x) := by
  refine ⟨by unfold Snow.more; rw [h]; simp, fun j a b ha hb => ?_⟩
  rw [more_get h] at hb
  by_cases e : j = i
  · subst e
    rw [if_pos rfl] at hb
    injection hb with hb
    rw [h] at ha
    injection ha with ha
    subst ha; subst hb
    exact ⟨rfl, rfl, rfl⟩
  · rw [if_neg e, ha] at hb
    injection hb with hb
    subst hb
    exact ⟨rfl, rfl, rfl⟩

def Fits (ps : List Pipe) : Prop := ∀ p ∈ ps, 0 ≤ p.now ∧ p.now ≤ p.most
theorem Fits.more {ps : List Pipe} (f : Fits ps) {i : Nat} {p : Pipe} (h : ps[i]? = some p) {x : Int} (h0 : 0 ≤ p.now + x) (h1 : p.now + x ≤ p.most) : Fits (more ps i x) := fun q hq => by
  obtain ⟨j, hj⟩ := List.getElem?_of_mem hq
  rw [more_get h] at hj
  by_cases e : j = i
  · rw [if_pos e] at hj; injection hj with hj; subst hj; exact ⟨h0, h1⟩
  · rw [if_neg e] at hj; exact f q (List.mem_of_getElem? hj)

/-- From u to t x more goes. -/
structure Sent (u t : Nat) (x : Int) (ps qs : List Pipe) : Prop where
  net : ∀ v, net qs v = net ps v + ((if u = v then x else 0) - (if t = v then x else 0))
  like : Alike2 ps qs
theorem Sent.refl (t : Nat) (x : Int) (ps : List Pipe) : Sent t t x ps ps := ⟨fun v => by omega, .refl _⟩
/-- One pipe further, in its direction. -/
theorem Sent.fwd {u t : Nat} {x : Int} {ps qs : List Pipe} (s : Sent u t x ps qs) {i : Nat} {p : Pipe} (h : qs[i]? = some p) (hto : p.to = u) : Sent p.fr t x ps (more qs i x) := ⟨fun v => by
  rw [net_more h, s.net, hto]; omega, s.like.trans (.more h x)⟩
/-- One pipe further, against its direction. -/
theorem Sent.bwd {u t : Nat} {x : Int} {ps qs : List Pipe} (s : Sent u t x ps qs) {i : Nat} {p : Pipe} (h : qs[i]? = some p) (hfr : p.fr = u) : Sent p.to t x ps (more qs i (-x)) := ⟨fun v => by
  rw [net_more h, s.net, hfr]; split <;> split <;> split <;> omega, s.like.trans (.more h (-x))⟩

end Snow
namespace Snow

theorem LS_S {α : Type} (l : List α) (m : Nat) (g : α → Nat → Int) : LS l (fun x => S m (g x)) = S m fun k => LS l fun x => g x k := by
  induction l with
  | nil => simp only [LS]; exact (S_zero m).symm
  | cons x l ih => simp only [LS, ih]; rw [← S_add]

def am (ps : List Pipe) (u v : Nat) : Int := LS ps fun p => if p.fr = u ∧ p.to = v then p.now else 0
def cap (ps : List Pipe) (u v : Nat) : Int := LS ps fun p => if p.fr = u ∧ p.to = v then p.most else 0

/-- The pipes of a share: s, t: where water comes from and goes; sg + i: supply i; sg + n + k: right k. -/
structure Laid (I : Inst) (s t sg : Nat) (l : Nat → Int) (ps : List Pipe) : Prop where
  hs : s < sg
  ht : t ≠ s ∧ (t < sg ∨ sg + I.n + I.m ≤ t)
  kinds : ∀ p ∈ ps, (∃ i, i < I.n ∧ p.fr = s ∧ p.to = sg + i) ∨ (∃ i, i + 1 < I.n ∧ p.fr = sg + i ∧ p.to = sg + i + 1) ∨
    (∃ i k, i < I.n ∧ k < I.m ∧ I.win k i = true ∧ p.fr = sg + i ∧ p.to = sg + I.n + k) ∨ (∃ k, k < I.m ∧ p.fr = sg + I.n + k ∧ p.to = t)
  cs : ∀ i, i < I.n → cap ps s (sg + i) = I.vol i
  cr : ∀ i, i + 1 < I.n → cap ps (sg + i) (sg + i + 1) = I.room (i + 1)
  ct : ∀ k, k < I.m → cap ps (sg + I.n + k) t = l k
  cw : ∀ i k, i < I.n → k < I.m → I.win k i = true → ∃ p ∈ ps, p.fr = sg + i ∧ p.to = sg + I.n + k ∧ l k ≤ p.most
  r0 : ∀ i, i < I.n → 0 ≤ I.room i

def flOf (I : Inst) (s sg : Nat) (ps : List Pipe) : Fl where
  a i := am ps s (sg + i)
  c i := if 0 < i ∧ i < I.n then am ps (sg + i - 1) (sg + i) else 0
  d k i := am ps (sg + i) (sg + I.n + k)

theorem am_low {ps : List Pipe} (f : Fits ps) (u v : Nat) : 0 ≤ am ps u v := LS_nonneg fun p hp => by
  have := f p hp
  split <;> omega
theorem am_cap {ps : List Pipe} (f : Fits ps) (u v : Nat) : am ps u v ≤ cap ps u v := LS_le fun p hp => by
  have := f p hp
  split <;> omega

theorem S_pick {n : Nat} {k : Nat} (hk : k < n) (f : Nat → Int) (h : ∀ i, i < n → i ≠ k → f i = 0) : S n f = f k := by
  have : S n f = S n (fun i => if i = k then f k else 0) := S_congr fun i hi => by
    by_cases e : i = k
    · subst e; rw [if_pos rfl]
    · rw [if_neg e]; exact h i hi e
  rw [this, S_one hk]

section
variable {I : Inst} {s t sg : Nat} {l : Nat → Int} {ps : List Pipe}

/-- What comes into a supply. -/
theorem Laid.into (L : Laid I s t sg l ps) {i : Nat} (hi : i < I.n) : LS ps (fun p => if p.to = sg + i then p.now else 0) = (flOf I s sg ps).a i + (flOf I s sg ps).c i := by
  show _ = am ps s (sg + i) + (if 0 < i ∧ i < I.n then am ps (sg + i - 1) (sg + i) else 0)
  have hs := L.hs
  have ht := L.ht
  by_cases h0 : 0 < i
  · rw [if_pos ⟨h0, hi⟩]
    unfold am
    rw [← LS_add]
    refine LS_congr fun p hp => ?_
    rcases L.kinds p hp with ⟨j, hj, e1, e2⟩ | ⟨j, hj, e1, e2⟩ | ⟨j, k, hj, hk, hw, e1, e2⟩ | ⟨k, hk, e1, e2⟩ <;> rw [e1, e2] <;> (repeat' split) <;> omega
  · rw [if_neg (fun a => h0 a.1)]
    have e : i = 0 := by omega
    subst e
    unfold am
    rw [Int.add_zero]
    refine LS_congr fun p hp => ?_
    rcases L.kinds p hp with ⟨j, hj, e1, e2⟩ | ⟨j, hj, e1, e2⟩ | ⟨j, k, hj, hk, hw, e1, e2⟩ | ⟨k, hk, e1, e2⟩ <;> rw [e1, e2] <;> (repeat' split) <;> omega
/-- What leaves a supply. -/
theorem Laid.outof (L : Laid I s t sg l ps) {i : Nat} (hi : i < I.n) : LS ps (fun p => if p.fr = sg + i then p.now else 0) = S I.m (fun k => (flOf I s sg ps).d k i) + (flOf I s sg ps).c (i + 1) := by
  show _ = S I.m (fun k => am ps (sg + i) (sg + I.n + k)) + (if 0 < i + 1 ∧ i + 1 < I.n then am ps (sg + (i + 1) - 1) (sg + (i + 1)) else 0)
  have hs := L.hs
  have ht := L.ht
  unfold am
  rw [← LS_S]
  have e : (if 0 < i + 1 ∧ i + 1 < I.n then LS ps (fun p => if p.fr = sg + (i + 1) - 1 ∧ p.to = sg + (i + 1) then p.now else 0) else 0) = LS ps (fun p => if i + 1 < I.n ∧ p.fr = sg + i ∧ p.to = sg + i + 1 then p.now else 0) := by
    by_cases h : i + 1 < I.n
    · rw [if_pos ⟨by omega, h⟩]
      refine LS_congr fun p hp => ?_
      (repeat' split) <;> omega
    · rw [if_neg (fun a => h a.2)]
      exact (LS_zero fun p hp => if_neg fun a => h a.1).symm
  rw [e, ← LS_add]
  refine LS_congr fun p hp => ?_
  rcases L.kinds p hp with ⟨j, hj, e1, e2⟩ | ⟨j, hj, e1, e2⟩ | ⟨j, k, hj, hk, hw, e1, e2⟩ | ⟨k, hk, e1, e2⟩
  · rw [S_eq_zero fun k' hk' => by rw [if_neg (by omega)]]
    (repeat' split) <;> omega
  · rw [S_eq_zero fun k' hk' => by rw [if_neg (by omega)]]
    (repeat' split) <;> omega
  · rw [S_pick hk _ fun k' hk' hne => by rw [if_neg (by omega)]]
    (repeat' split) <;> omega
  · rw [S_eq_zero fun k' hk' => by rw [if_neg (by omega)]]
    (repeat' split) <;> omega
/-- What comes to a right. -/
theorem Laid.took (L : Laid I s t sg l ps) {k : Nat} (hk : k < I.m) : LS ps (fun p => if p.to = sg + I.n + k then p.now else 0) = (flOf I s sg ps).took I k := by
  show _ = S I.n (fun i => am ps (sg + i) (sg + I.n + k))
  have hs := L.hs
  have ht := L.ht
  unfold am
  rw [← LS_S]
  refine LS_congr fun p hp => ?_
  rcases L.kinds p hp with ⟨j, hj, e1, e2⟩ | ⟨j, hj, e1, e2⟩ | ⟨j, k', hj, hk', hw, e1, e2⟩ | ⟨k', hk', e1, e2⟩
  · rw [S_eq_zero fun i' hi' => by rw [if_neg (by omega)]]
    (repeat' split) <;> omega
  · rw [S_eq_zero fun i' hi' => by rw [if_neg (by omega)]]
    (repeat' split) <;> omega
  · rw [S_pick hj _ fun i' hi' hne => by rw [if_neg (by omega)]]
    (repeat' split) <;> omega
  · rw [S_eq_zero fun i' hi' => by rw [if_neg (by omega)]]
    (repeat' split) <;> omega
/-- What leaves a right. -/
theorem Laid.end_ (L : Laid I s t sg l ps) {k : Nat} (hk : k < I.m) : LS ps (fun p => if p.fr = sg + I.n + k then p.now else 0) = am ps (sg + I.n + k) t := by
  have hs := L.hs
  have ht := L.ht
  unfold am
  refine LS_congr fun p hp => ?_
  rcases L.kinds p hp with ⟨j, hj, e1, e2⟩ | ⟨j, hj, e1, e2⟩ | ⟨j, k', hj, hk', hw, e1, e2⟩ | ⟨k', hk', e1, e2⟩ <;> (repeat' split) <;> omega
theorem net_split (ps : List Pipe) (v : Nat) : net ps v = LS ps (fun p => if p.fr = v then p.now else 0) - LS ps (fun p => if p.to = v then p.now else 0) := LS_sub _ _ _
theorem Laid.keep (L : Laid I s t sg l ps) (f : Flows s t ps) {i : Nat} (hi : i < I.n) : (flOf I s sg ps).a i + (flOf I s sg ps).c i = S I.m (fun k => (flOf I s sg ps).d k i) + (flOf I s sg ps).c (i + 1) := by
  have hs := L.hs
  have ht := L.ht
  have h := f.keep (sg + i) (by omega) (by omega)
  rw [net_split, L.into hi, L.outof hi] at h
  omega
theorem Laid.tookEnd (L : Laid I s t sg l ps) (f : Flows s t ps) {k : Nat} (hk : k < I.m) : (flOf I s sg ps).took I k = am ps (sg + I.n + k) t := by
  have hs := L.hs
  have ht := L.ht
  have h := f.keep (sg + I.n + k) (by omega) (by omega)
  rw [net_split, L.took hk, L.end_ hk] at h
  omega
theorem Flows.fits (f : Flows s t ps) : Fits ps := fun p hp => ⟨f.low p hp, f.high p hp⟩
theorem Laid.good (L : Laid I s t sg l ps) (f : Flows s t ps) : Good I (flOf I s sg ps) where
  a0 i _ := am_low f.fits _ _
  a1 i hi := L.cs i hi ▸ am_cap f.fits _ _
  c0 i _ := by
    show 0 ≤ (if 0 < i ∧ i < I.n then am ps (sg + i - 1) (sg + i) else 0)
    split
    · exact am_low f.fits _ _
    · omega
  c1 i hi := by
    show (if 0 < i ∧ i < I.n then am ps (sg + i - 1) (sg + i) else 0) ≤ I.room i
    split
    · rename_i h
      have h1 := L.cr (i - 1) (by omega)
      have h2 := am_cap f.fits (sg + (i - 1)) (sg + (i - 1) + 1)
      rw [h1] at h2
      rw [show sg + i - 1 = sg + (i - 1) by omega]
      rw [show sg + (i - 1) + 1 = sg + i by omega, show i - 1 + 1 = i by omega] at h2
      exact h2
    · exact L.r0 i hi
  cf := by
    show (if 0 < 0 ∧ 0 < I.n then am ps (sg + 0 - 1) (sg + 0) else 0) ≤ 0
    rw [if_neg (by omega)]
    omega
  cn := by
    show (if 0 < I.n ∧ I.n < I.n then am ps (sg + I.n - 1) (sg + I.n) else 0) = 0
    rw [if_neg (by omega)]
  d0 k i _ _ := am_low f.fits _ _
  dw k i hk hi hw := by
    have hs := L.hs
    have ht := L.ht
    refine LS_zero fun p hp => ?_
    rcases L.kinds p hp with ⟨j, hj, e1, e2⟩ | ⟨j, hj, e1, e2⟩ | ⟨j, k', hj, hk', hw', e1, e2⟩ | ⟨k', hk', e1, e2⟩
    · rw [if_neg (by omega)]
    · rw [if_neg (by omega)]
    · rw [if_neg fun h => by
        have a : j = i := by omega
        have b : k' = k := by omega
        subst a; subst b; rw [hw] at hw'; cases hw']
    · rw [if_neg (by omega)]
  keep i hi := L.keep f hi
theorem Laid.le (L : Laid I s t sg l ps) (f : Flows s t ps) {k : Nat} (hk : k < I.m) : (flOf I s sg ps).took I k ≤ l k := by
  rw [L.tookEnd f hk, ← L.ct k hk]
  exact am_cap f.fits _ _
end
end Snow
namespace Snow

theorem S_two {n : Nat} {f : Nat → Int} (h : ∀ i, i < n → 0 ≤ f i) {i j : Nat} (hi : i < n) (hj : j < n) (hne : j ≠ i) : f i + f j ≤ S n f := by
  have e : S n f = S n (fun x => if x = i then f x else 0) + S n (fun x => if x = i then 0 else f x) := by
    rw [← S_add]
    exact S_congr fun x _ => by split <;> omega
  have h1 : S n (fun x => if x = i then f x else 0) = f i := by
    rw [S_pick hi _ fun x _ hx => if_neg hx, if_pos rfl]
  have h2 := S_ge_one (n := n) (f := fun x => if x = i then 0 else f x) (fun x hx => by
    have := h x hx
    split <;> omega) hj
  rw [if_neg hne] at h2
  omega

/-- The places R are what is reached: what leaves them is full, what comes into them is empty. -/
structure Reached (s t : Nat) (R : Nat → Bool) (ps : List Pipe) : Prop where
  s : R s = true
  t : R t = false
  full : ∀ p ∈ ps, R p.fr = true → R p.to = false → p.now = p.most
  none : ∀ p ∈ ps, R p.fr = false → R p.to = true → p.now = 0

section
variable {I : Inst} {s t sg : Nat} {l : Nat → Int} {ps : List Pipe} {R : Nat → Bool}
theorem Reached.sat (r : Reached s t R ps) {u v : Nat} (hu : R u = true) (hv : R v = false) : am ps u v = cap ps u v := LS_congr fun p hp => by
  split
  · rename_i h
    exact r.full p hp (h.1 ▸ hu) (h.2 ▸ hv)
  · rfl
theorem Reached.zero (r : Reached s t R ps) {u v : Nat} (hu : R u = false) (hv : R v = true) : am ps u v = 0 := LS_zero fun p hp => by
  split
  · rename_i h
    exact r.none p hp (h.1 ▸ hu) (h.2 ▸ hv)
  · rfl

def cutX (R : Nat → Bool) (sg : Nat) (i : Nat) : Bool := !R (sg + i)
open Classical in
noncomputable def cutY (I : Inst) (R : Nat → Bool) (sg : Nat) (k : Nat) : Bool := decide (∀ i, i < I.n → I.win k i = true → cutX R sg i = true)
theorem cutY_t {k : Nat} (h : cutY I R sg k = true) : ∀ i, i < I.n → I.win k i = true → cutX R sg i = true := of_decide_eq_true h
theorem cutY_f {k : Nat} (h : cutY I R sg k = false) : ∃ i, i < I.n ∧ I.win k i = true ∧ R (sg + i) = true := by
  have h := of_decide_eq_false h
  refine Classical.byContradiction fun g => h fun i hi hw => ?_
  show (!R (sg + i)) = true
  cases e : R (sg + i) with
  | false => rfl
  | true => exact absurd ⟨i, hi, hw, e⟩ g

/-- A flow that leaves the sink unreached is the greatest one. -/
theorem Laid.cut (L : Laid I s t sg l ps) (f : Flows s t ps) (r : Reached s t R ps) : Closed I (cutX R sg) (cutY I R sg) ∧ cutOf I l (cutX R sg) (cutY I R sg) = S I.m ((flOf I s sg ps).took I) := by
  have G := L.good f
  refine ⟨fun k i hk hi hy hw => cutY_t hy i hi hw, ?_⟩
  have xt : ∀ {i}, cutX R sg i = true → R (sg + i) = false := fun {i} h => by
    unfold cutX at h
    cases e : R (sg + i) with
    | false => rfl
    | true => rw [e] at h; cases h
  have xf : ∀ {i}, cutX R sg i = false → R (sg + i) = true := fun {i} h => by
    unfold cutX at h
    cases e : R (sg + i) with
    | true => rfl
    | false => rw [e] at h; cases h
  -- a right that is not among Y takes all
  have big : ∀ k, k < I.m → cutY I R sg k = false → R (sg + I.n + k) = false → ∃ i, i < I.n ∧ cutX R sg i = false ∧ l k ≤ (flOf I s sg ps).d k i := fun k hk hy hr => by
    obtain ⟨i, hi, hw, hR⟩ := cutY_f hy
    obtain ⟨p, hp, e1, e2, hm⟩ := L.cw i k hi hk hw
    have h1 := r.full p hp (by rw [e1]; exact hR) (by rw [e2]; exact hr)
    have h2 : (if p.fr = sg + i ∧ p.to = sg + I.n + k then p.now else 0) ≤ am ps (sg + i) (sg + I.n + k) := LS_member (f := fun p => if p.fr = sg + i ∧ p.to = sg + I.n + k then p.now else 0) (fun q hq => by
      have := f.low q hq
      split <;> omega) hp
    rw [if_pos ⟨e1, e2⟩] at h2
    exact ⟨i, hi, by unfold cutX; rw [hR]; rfl, show l k ≤ am ps (sg + i) (sg + I.n + k) by omega⟩
  have A : ∀ k, k < I.m → cutY I R sg k = false → (flOf I s sg ps).took I k = l k := fun k hk hy => by
    cases hr : R (sg + I.n + k) with
    | true => rw [L.tookEnd f hk, r.sat hr r.t, L.ct k hk]
    | false =>
      obtain ⟨i, hi, _, hd⟩ := big k hk hy hr
      have h1 := L.le f hk
      have h2 : (flOf I s sg ps).d k i ≤ (flOf I s sg ps).took I k := S_ge_one (f := fun i => (flOf I s sg ps).d k i) (fun i hi => G.d0 k i hk hi) hi
      omega
  have B : ∀ k i, k < I.m → i < I.n → cutY I R sg k = false → cutX R sg i = true → (flOf I s sg ps).d k i = 0 := fun k i hk hi hy hx => by
    cases hr : R (sg + I.n + k) with
    | true => exact r.zero (xt hx) hr
    | false =>
      obtain ⟨j, hj, hxj, hd⟩ := big k hk hy hr
      have h1 := L.le f hk
      have hne : i ≠ j := fun e => by subst e; rw [hx] at hxj; cases hxj
      have h2 : (flOf I s sg ps).d k j + (flOf I s sg ps).d k i ≤ (flOf I s sg ps).took I k := S_two (f := fun i => (flOf I s sg ps).d k i) (fun i hi => G.d0 k i hk hi) hj hi hne
      have h3 := G.d0 k i hk hi
      omega
  have C : ∀ k, k < I.m → (if cutY I R sg k then (flOf I s sg ps).took I k else 0) = S I.n (fun i => if cutX R sg i then (flOf I s sg ps).d k i else 0) := fun k hk => by
    cases hy : cutY I R sg k with
    | true =>
      rw [if_pos rfl]
      refine S_congr fun i hi => ?_
      cases hw : I.win k i with
      | true => rw [if_pos (cutY_t hy i hi hw)]
      | false => rw [G.dw k i hk hi hw]; split <;> rfl
    | false =>
      rw [if_neg (by simp)]
      refine (S_eq_zero fun i hi => ?_).symm
      cases hx : cutX R sg i with
      | true => rw [if_pos rfl]; exact B k i hk hi hy hx
      | false => rw [if_neg (by simp)]
  have D : S I.m ((flOf I s sg ps).took I) = S I.m (fun k => if cutY I R sg k then (flOf I s sg ps).took I k else 0) + S I.m (fun k => if cutY I R sg k then 0 else l k) := by
    rw [← S_add]
    refine S_congr fun k hk => ?_
    cases hy : cutY I R sg k with
    | true => simp
    | false => simp [A k hk hy]
  have E : S I.m (fun k => if cutY I R sg k then (flOf I s sg ps).took I k else 0) = bound I (cutX R sg) := by
    rw [S_congr C, ← S_swap I.n I.m (fun i k => if cutX R sg i then (flOf I s sg ps).d k i else 0)]
    let c := (flOf I s sg ps).c
    let g : Nat → Int := fun i => if 0 < i ∧ cutX R sg (i - 1) = true then c i else 0
    have h1 : S I.n (fun i => S I.m (fun k => if cutX R sg i then (flOf I s sg ps).d k i else 0)) = S I.n (fun i => (if cutX R sg i then I.vol i else 0) + ((if cutX R sg i then c i else 0) - g (i + 1))) := S_congr fun i hi => by
      show _ = (if cutX R sg i then I.vol i else 0) + ((if cutX R sg i then c i else 0) - (if 0 < i + 1 ∧ cutX R sg (i + 1 - 1) = true then c (i + 1) else 0))
      cases hx : cutX R sg i with
      | false =>
        rw [S_eq_zero fun k hk => by simp]
        simp [hx]
      | true =>
        have h2 := L.keep f hi
        have h3 : (flOf I s sg ps).a i = I.vol i := by
          show am ps s (sg + i) = _
          rw [r.sat r.s (xt hx), L.cs i hi]
        simp only [hx, if_true, Nat.add_sub_cancel, and_true, Nat.zero_lt_succ]
        show _ = I.vol i + ((flOf I s sg ps).c i - (flOf I s sg ps).c (i + 1))
        omega
    have h4 : S I.n (fun i => g (i + 1)) = S I.n g := by
      have a := S_head I.n g
      have b : S (I.n + 1) g = S I.n g + g I.n := rfl
      have c0 : g 0 = 0 := by show (if 0 < 0 ∧ _ then _ else _) = _; rw [if_neg (by omega)]
      have cn : g I.n = 0 := by
        show (if 0 < I.n ∧ cutX R sg (I.n - 1) = true then (flOf I s sg ps).c I.n else 0) = 0
        rw [G.cn]; split <;> rfl
      omega
    rw [h1, S_add, S_sub, h4, ← S_sub, ← S_add]
    unfold bound
    refine S_congr fun i hi => ?_
    have h5 : (if cutX R sg i then c i else 0) - g i = (if 0 < i ∧ cutX R sg i = true ∧ cutX R sg (i - 1) = false then I.room i else 0) := by
      show (if cutX R sg i then c i else 0) - (if 0 < i ∧ cutX R sg (i - 1) = true then c i else 0) = _
      by_cases h0 : 0 < i
      · have hc : c i = am ps (sg + (i - 1)) (sg + i) := by
          show (if 0 < i ∧ i < I.n then am ps (sg + i - 1) (sg + i) else 0) = _
          rw [if_pos ⟨h0, hi⟩, show sg + i - 1 = sg + (i - 1) by omega]
        cases hx : cutX R sg i with
        | true =>
          cases hp : cutX R sg (i - 1) with
          | true => simp [h0]
          | false =>
            have h6 : c i = I.room i := by
              rw [hc, r.sat (xf hp) (xt hx)]
              have := L.cr (i - 1) (by omega)
              rw [show sg + (i - 1) + 1 = sg + i by omega, show i - 1 + 1 = i by omega] at this
              exact this
            simp [h0, h6]
        | false =>
          cases hp : cutX R sg (i - 1) with
          | true =>
            have h6 : c i = 0 := by rw [hc, r.zero (xt hp) (xf hx)]
            simp [h6]
          | false => simp
      · have e : i = 0 := by omega
        subst e
        have : c 0 = 0 := by
          show (if 0 < 0 ∧ 0 < I.n then am ps (sg + 0 - 1) (sg + 0) else 0) = 0
          rw [if_neg (by omega)]
        simp [this]
    omega
  unfold cutOf
  omega
/-- Also if some rights that are not asked could take more. -/
theorem Laid.isMax2 (L : Laid I s t sg l ps) (f : Flows s t ps) (r : Reached s t R ps) {l' : Nat → Int} (hle : ∀ k, k < I.m → l k ≤ l' k) (he : ∀ k, k < I.m → cutY I R sg k = false → l' k = l k) : IsMax I l' (S I.m ((flOf I s sg ps).took I)) := by
  obtain ⟨c1, c2⟩ := L.cut f r
  refine ⟨⟨flOf I s sg ps, L.good f, fun k hk => Int.le_trans (L.le f hk) (hle k hk), rfl⟩, cutX R sg, cutY I R sg, c1, ?_⟩
  rw [← c2]
  unfold cutOf
  congr 1
  refine S_congr fun k hk => ?_
  cases hy : cutY I R sg k with
  | true => simp
  | false => simp [he k hk hy]
theorem Laid.isMax (L : Laid I s t sg l ps) (f : Flows s t ps) (r : Reached s t R ps) : IsMax I l (S I.m ((flOf I s sg ps).took I)) := L.isMax2 f r (fun _ _ => Int.le_refl _) fun _ _ _ => rfl
/-- What comes to the sink is what the rights take. -/
theorem Laid.value (L : Laid I s t sg l ps) (f : Flows s t ps) : net ps t = - S I.m ((flOf I s sg ps).took I) := by
  have hs := L.hs
  have ht := L.ht
  have e : S I.m ((flOf I s sg ps).took I) = S I.m fun k => am ps (sg + I.n + k) t := S_congr fun k hk => L.tookEnd f hk
  rw [net_split, e]
  unfold am
  rw [← LS_S]
  have h1 : LS ps (fun p => if p.fr = t then p.now else 0) = 0 := LS_zero fun p hp => by
    rcases L.kinds p hp with ⟨j, hj, e1, e2⟩ | ⟨j, hj, e1, e2⟩ | ⟨j, k', hj, hk', hw, e1, e2⟩ | ⟨k', hk', e1, e2⟩ <;> rw [if_neg (by omega)]
  have h2 : LS ps (fun p => if p.to = t then p.now else 0) = LS ps (fun p => S I.m fun k => if p.fr = sg + I.n + k ∧ p.to = t then p.now else 0) := LS_congr fun p hp => by
    rcases L.kinds p hp with ⟨j, hj, e1, e2⟩ | ⟨j, hj, e1, e2⟩ | ⟨j, k', hj, hk', hw, e1, e2⟩ | ⟨k', hk', e1, e2⟩
    · rw [S_eq_zero fun k hk => by rw [if_neg (by omega)], if_neg (by omega)]
    · rw [S_eq_zero fun k hk => by rw [if_neg (by omega)], if_neg (by omega)]
    · rw [S_eq_zero fun k hk => by rw [if_neg (by omega)], if_neg (by omega)]
    · rw [S_pick hk' _ fun k hk hne => by rw [if_neg (by omega)], if_pos e2, if_pos ⟨e1, e2⟩]
  omega
end
end Snow
end

section
/- The pipes that are laid; arcs and sending: the plain law. No program. -/
set_option linter.unusedSimpArgs false
set_option linter.unusedVariables false
namespace Snow

theorem LS_range (n : Nat) (f : Nat → Int) : LS (List.range n) f = S n f := by
  induction n with
  | zero => rfl
  | succ n ih => rw [List.range_succ, LS_append, ih]; simp [LS, S]
theorem LS_filter {α : Type} (l : List α) (q : α → Bool) (f : α → Int) : LS (l.filter q) f = LS l fun x => if q x then f x else 0 := by
  induction l with
  | nil => rfl
  | cons x l ih =>
    cases h : q x with
    | true => rw [List.filter_cons_of_pos h]; simp [LS, ih, h]
    | false => rw [List.filter_cons_of_neg (by simp [h])]; simp [LS, ih, h]

/-- The pipes that the specification lays. -/
def refPipes (I : Inst) (fol : Nat → Bool) (l : Nat → Int) : List Pipe :=
  (List.range I.n).flatMap (fun i => [⟨0, 1 + i, I.vol i, 0⟩] ++ (if i + 1 < I.n ∧ fol (i + 1) = true then [⟨1 + i, 1 + i + 1, I.room (i + 1), 0⟩] else []) ++
    ((List.range I.m).filter (fun k => I.win k i)).map fun k => ⟨1 + i, 1 + I.n + k, l k, 0⟩) ++
  (List.range I.m).map fun k => ⟨1 + I.n + k, 1 + I.n + I.m, l k, 0⟩

theorem ref_laid {I : Inst} {fol : Nat → Bool} {l : Nat → Int} (h0 : ∀ i, i < I.n → 0 ≤ I.room i) (hf : ∀ i, i + 1 < I.n → fol (i + 1) = false → I.room (i + 1) = 0) : Laid I 0 (1 + I.n + I.m) 1 l (refPipes I fol l) where
  hs := by omega
  ht := by omega
  kinds p hp := by
    unfold refPipes at hp
    simp only [List.mem_append, List.mem_flatMap, List.mem_map, List.mem_filter, List.mem_range, List.mem_singleton] at hp
    rcases hp with ⟨i, hi, (rfl | hp) | ⟨k, ⟨hk, hw⟩, rfl⟩⟩ | ⟨k, hk, rfl⟩
    · exact .inl ⟨i, hi, rfl, rfl⟩
    · split at hp
      · rename_i h
        rw [List.mem_singleton] at hp
        subst hp
        exact .inr (.inl ⟨i, h.1, rfl, rfl⟩)
      · cases hp
    · exact .inr (.inr (.inl ⟨i, k, hi, hk, hw, rfl, rfl⟩))
    · exact .inr (.inr (.inr ⟨k, hk, rfl, rfl⟩))
  cs i hi := by
    unfold cap refPipes
    rw [LS_append, LS_flatMap, LS_range, LS_map, LS_range, S_pick hi, S_eq_zero fun k hk => by rw [if_neg (by dsimp only; omega)]]
    · rw [LS_append, LS_append, LS_map, LS_zero (l := List.filter _ _) fun k hk => by rw [if_neg (by dsimp only; omega)]]
      split <;> simp [LS] <;> omega
    · intro j hj hne
      rw [LS_append, LS_append, LS_map, LS_zero (l := List.filter _ _) fun k hk => by rw [if_neg (by dsimp only; omega)]]
      split <;> simp [LS] <;> omega
  cr i hi := by
    unfold cap refPipes
    rw [LS_append, LS_flatMap, LS_range, LS_map, LS_range, S_pick (show i < I.n by omega), S_eq_zero fun k hk => by rw [if_neg (by dsimp only; omega)]]
    · rw [LS_append, LS_append, LS_map, LS_zero (l := List.filter _ _) fun k hk => by rw [if_neg (by dsimp only; omega)]]
      split
      · simp [LS]
      · rename_i h
        have : I.room (i + 1) = 0 := hf i hi (by cases e : fol (i + 1) with
          | false => rfl
          | true => exact absurd ⟨hi, e⟩ h)
        simp [LS, this]
    · intro j hj hne
      rw [LS_append, LS_append, LS_map, LS_zero (l := List.filter _ _) fun k hk => by rw [if_neg (by dsimp only; omega)]]
      split <;> simp [LS] <;> omega
  ct k hk := by
    unfold cap refPipes
    rw [LS_append, LS_flatMap, LS_range, LS_map, LS_range, S_eq_zero fun i hi => ?_, S_pick hk]
    · simp
    · intro j hj hne
      rw [if_neg (by dsimp only; omega)]
    · rw [LS_append, LS_append, LS_map, LS_zero (l := List.filter _ _) fun k hk => by rw [if_neg (by dsimp only; omega)]]
      split <;> simp [LS] <;> omega
  cw i k hi hk hw := ⟨⟨1 + i, 1 + I.n + k, l k, 0⟩, by
    unfold refPipes
    simp only [List.mem_append, List.mem_flatMap, List.mem_map, List.mem_filter, List.mem_range, List.mem_singleton]
    exact .inl ⟨i, hi, .inr ⟨k, ⟨hk, hw⟩, rfl⟩⟩, rfl, rfl, Int.le_refl _⟩
  r0 := h0
end Snow
namespace Snow

/-- The pipes that the program lays. -/
def ourPipes (I : Inst) (fol : Nat → Bool) (l : Nat → Int) (E : Int) : List Pipe :=
  (List.range I.n).flatMap (fun i => [⟨0, 2 + i, I.vol i, 0⟩] ++ (if fol i = true then [⟨1 + i, 2 + i, I.room i, 0⟩] else [])) ++
  (List.range I.m).flatMap fun k => (((List.range I.n).filter (fun i => I.win k i)).map fun i => ⟨2 + i, 2 + I.n + k, E, 0⟩) ++ [⟨2 + I.n + k, 1, l k, 0⟩]

theorem our_laid {I : Inst} {fol : Nat → Bool} {l : Nat → Int} {E : Int} (h0 : ∀ i, i < I.n → 0 ≤ I.room i) (hf0 : fol 0 = false) (hf : ∀ i, i < I.n → fol i = false → I.room i = 0) (hE : ∀ k, k < I.m → l k ≤ E) : Laid I 0 1 2 l (ourPipes I fol l E) where
  hs := by omega
  ht := by omega
  kinds p hp := by
    unfold ourPipes at hp
    simp only [List.mem_append, List.mem_flatMap, List.mem_map, List.mem_filter, List.mem_range, List.mem_singleton] at hp
    rcases hp with ⟨i, hi, rfl | hp⟩ | ⟨k, hk, ⟨i, ⟨hi, hw⟩, rfl⟩ | rfl⟩
    · exact .inl ⟨i, hi, rfl, rfl⟩
    · split at hp
      · rename_i h
        rw [List.mem_singleton] at hp
        subst hp
        cases i with
        | zero => rw [hf0] at h; cases h
        | succ i => exact .inr (.inl ⟨i, hi, by dsimp only; omega, by dsimp only; omega⟩)
      · cases hp
    · exact .inr (.inr (.inl ⟨i, k, hi, hk, hw, rfl, rfl⟩))
    · exact .inr (.inr (.inr ⟨k, hk, rfl, rfl⟩))
  cs i hi := by
    unfold cap ourPipes
    rw [LS_append, LS_flatMap, LS_range, LS_flatMap, LS_range, S_pick hi, S_eq_zero fun k hk => ?_]
    · rw [LS_append]
      split <;> simp [LS] <;> omega
    · rw [LS_append, LS_map, LS_zero (l := List.filter _ _) fun j hj => by rw [if_neg (by dsimp only; omega)]]
      simp [LS] <;> omega
    · intro j hj hne
      rw [LS_append]
      split <;> simp [LS] <;> omega
  cr i hi := by
    unfold cap ourPipes
    rw [LS_append, LS_flatMap, LS_range, LS_flatMap, LS_range, S_pick hi, S_eq_zero fun k hk => ?_]
    · rw [LS_append]
      split
      · simp [LS] <;> omega
      · rename_i h
        have : I.room (i + 1) = 0 := hf _ hi (by cases e : fol (i + 1) with
          | false => rfl
          | true => exact absurd e h)
        simp [LS, this] <;> omega
    · rw [LS_append, LS_map, LS_zero (l := List.filter _ _) fun j hj => by rw [if_neg (by dsimp only; have := (List.mem_filter.mp hj).1; rw [List.mem_range] at this; omega)]]
      simp [LS] <;> omega
    · intro j hj hne
      rw [LS_append]
      split <;> simp [LS] <;> omega
  ct k hk := by
    unfold cap ourPipes
    rw [LS_append, LS_flatMap, LS_range, LS_flatMap, LS_range, S_eq_zero fun i hi => ?_, S_pick hk]
    · rw [LS_append, LS_map, LS_zero (l := List.filter _ _) fun j hj => by rw [if_neg (by dsimp only; omega)]]
      simp [LS]
    · intro j hj hne
      rw [LS_append, LS_map, LS_zero (l := List.filter _ _) fun j hj => by rw [if_neg (by dsimp only; omega)]]
      simp [LS] <;> omega
    · rw [LS_append]
      split <;> simp [LS] <;> omega
  cw i k hi hk hw := ⟨⟨2 + i, 2 + I.n + k, E, 0⟩, by
    unfold ourPipes
    simp only [List.mem_append, List.mem_flatMap, List.mem_map, List.mem_filter, List.mem_range, List.mem_singleton]
    exact .inr ⟨k, hk, .inl ⟨i, ⟨hi, hw⟩, rfl⟩⟩, rfl, rfl, hE k hk⟩
  r0 := h0
end Snow
namespace Snow

/-! ### Arcs: the two sides of the pipes -/
structure Arc where
  to : Nat
  room : Int
  back : Nat

def arcsFrom : Nat → List Pipe → List Arc
  | _, [] => []
  | j, p :: ps => ⟨p.to, p.most - p.now, 2 * j + 1⟩ :: ⟨p.fr, p.now, 2 * j⟩ :: arcsFrom (j + 1) ps
def arcsOf (ps : List Pipe) : List Arc := arcsFrom 0 ps
theorem arcsFrom_even : ∀ (ps : List Pipe) (j i : Nat), (arcsFrom j ps)[2 * i]? = (ps[i]?).map fun p => ⟨p.to, p.most - p.now, 2 * (j + i) + 1⟩
  | [], j, i => by simp [arcsFrom]
  | p :: ps, j, 0 => by simp [arcsFrom]
  | p :: ps, j, i + 1 => by
    rw [arcsFrom, show 2 * (i + 1) = 2 * i + 1 + 1 by omega, List.getElem?_cons_succ, List.getElem?_cons_succ, arcsFrom_even ps (j + 1) i, List.getElem?_cons_succ]
    congr 1; funext p; congr 1; omega
theorem arcsFrom_odd : ∀ (ps : List Pipe) (j i : Nat), (arcsFrom j ps)[2 * i + 1]? = (ps[i]?).map fun p => ⟨p.fr, p.now, 2 * (j + i)⟩
  | [], j, i => by simp [arcsFrom]
  | p :: ps, j, 0 => by simp [arcsFrom]
  | p :: ps, j, i + 1 => by
    rw [arcsFrom, show 2 * (i + 1) + 1 = 2 * i + 1 + 1 + 1 by omega, List.getElem?_cons_succ, List.getElem?_cons_succ, arcsFrom_odd ps (j + 1) i, List.getElem?_cons_succ]
    congr 1; funext p; congr 1; omega
theorem arcs_even (ps : List Pipe) (i : Nat) : (arcsOf ps)[2 * i]? = (ps[i]?).map fun p => ⟨p.to, p.most - p.now, 2 * i + 1⟩ := by
  unfold arcsOf; rw [arcsFrom_even]; simp
theorem arcs_odd (ps : List Pipe) (i : Nat) : (arcsOf ps)[2 * i + 1]? = (ps[i]?).map fun p => ⟨p.fr, p.now, 2 * i⟩ := by
  unfold arcsOf; rw [arcsFrom_odd]; simp
theorem arcsFrom_len : ∀ (ps : List Pipe) (j : Nat), (arcsFrom j ps).length = 2 * ps.length
  | [], _ => rfl
  | p :: ps, j => by simp [arcsFrom, arcsFrom_len ps (j + 1)]; omega
theorem arcs_len (ps : List Pipe) : (arcsOf ps).length = 2 * ps.length := arcsFrom_len ps 0
theorem arcsFrom_append : ∀ (ps qs : List Pipe) (j : Nat), arcsFrom j (ps ++ qs) = arcsFrom j ps ++ arcsFrom (j + ps.length) qs
  | [], qs, j => by simp [arcsFrom]
  | p :: ps, qs, j => by
    simp only [List.cons_append, arcsFrom, arcsFrom_append ps qs (j + 1), List.length_cons]
    rw [show j + 1 + ps.length = j + (ps.length + 1) by omega]
theorem arcs_snoc (ps : List Pipe) (p : Pipe) : arcsOf (ps ++ [p]) = arcsOf ps ++ [⟨p.to, p.most - p.now, 2 * ps.length + 1⟩, ⟨p.fr, p.now, 2 * ps.length⟩] := by
  unfold arcsOf
  rw [arcsFrom_append, Nat.zero_add]; rfl

/-- Which arc it is. -/
theorem arc_cases {ps : List Pipe} {k : Nat} {a : Arc} (h : (arcsOf ps)[k]? = some a) : ∃ i p, ps[i]? = some p ∧ ((k = 2 * i ∧ a = ⟨p.to, p.most - p.now, 2 * i + 1⟩) ∨ (k = 2 * i + 1 ∧ a = ⟨p.fr, p.now, 2 * i⟩)) := by
  rcases Nat.mod_two_eq_zero_or_one k with e | e
  · obtain ⟨i, rfl⟩ : ∃ i, k = 2 * i := ⟨k / 2, by omega⟩
    rw [arcs_even] at h
    cases hp : ps[i]? with
    | none => rw [hp] at h; cases h
    | some p => rw [hp] at h; injection h with h; exact ⟨i, p, hp, .inl ⟨rfl, h.symm⟩⟩
  · obtain ⟨i, rfl⟩ : ∃ i, k = 2 * i + 1 := ⟨k / 2, by omega⟩
    rw [arcs_odd] at h
    cases hp : ps[i]? with
    | none => rw [hp] at h; cases h
    | some p => rw [hp] at h; injection h with h; exact ⟨i, p, hp, .inr ⟨rfl, h.symm⟩⟩

/-- A pipe with more in it, at the arcs. -/
theorem arcs_more {ps : List Pipe} {i : Nat} {p : Pipe} (h : ps[i]? = some p) (x : Int) :
    arcsOf (more ps i x) = ((arcsOf ps).set (2 * i) ⟨p.to, p.most - p.now - x, 2 * i + 1⟩).set (2 * i + 1) ⟨p.fr, p.now + x, 2 * i⟩ := by
  have hi := (List.getElem?_eq_some_iff.mp h).1
  apply List.ext_getElem?
  intro k
  rw [List.getElem?_set, List.getElem?_set, List.length_set, arcs_len]
  rcases Nat.mod_two_eq_zero_or_one k with e | e
  · obtain ⟨m, rfl⟩ : ∃ m, k = 2 * m := ⟨k / 2, by omega⟩
    rw [if_neg (show ¬ 2 * i + 1 = 2 * m by omega), arcs_even, more_get h]
    by_cases hm : m = i
    · subst hm
      rw [if_pos rfl, if_pos rfl, if_pos (by omega)]
      simp; omega
    · rw [if_neg hm, if_neg (by omega), arcs_even]
  · obtain ⟨m, rfl⟩ : ∃ m, k = 2 * m + 1 := ⟨k / 2, by omega⟩
    rw [arcs_odd, more_get h]
    by_cases hm : m = i
    · subst hm
      rw [if_pos rfl, if_pos rfl, if_pos (by omega)]
      simp
    · rw [if_neg hm, if_neg (by omega), if_neg (by omega), arcs_odd]

/-! ### Sending -/
/-- Numbers that the program's arithmetic leaves as they are. -/
def Wr (w : Int → Int) : Prop := ∀ x, -9223372036854775808 ≤ x → x < 9223372036854775808 → w x = x

/-- What a call of send does: u: where; m: how much at most; from (arcs, next) to g and (arcs', next'). -/
inductive Send (w : Int → Int) (out : List (List Nat)) (lev : List Int) : Nat → Int → List Arc → List Nat → Int → List Arc → List Nat → Prop
  | sink {m : Int} {arcs : List Arc} {next : List Nat} : Send w out lev 1 m arcs next m arcs next
  | done {u : Nat} {m : Int} {arcs : List Arc} {next row : List Nat} {n : Nat} : u ≠ 1 → next[u]? = some n → out[u]? = some row → row.length ≤ n → Send w out lev u m arcs next 0 arcs next
  | skip {u : Nat} {m : Int} {arcs arcs' : List Arc} {next next' row : List Nat} {n k : Nat} {a : Arc} {la lt g : Int} : u ≠ 1 → next[u]? = some n → out[u]? = some row → row[n]? = some k → arcs[k]? = some a → lev[u]? = some la → lev[a.to]? = some lt →
      (a.room = 0 ∨ lt ≠ w (la + 1)) → Send w out lev u m arcs (next.set u (n + 1)) g arcs' next' → Send w out lev u m arcs next g arcs' next'
  | fail {u : Nat} {m : Int} {arcs arcs1 arcs' : List Arc} {next next1 next' row : List Nat} {n n1 k : Nat} {a : Arc} {la lt g1 g : Int} : u ≠ 1 → next[u]? = some n → out[u]? = some row → row[n]? = some k → arcs[k]? = some a → lev[u]? = some la → lev[a.to]? = some lt →
      a.room ≠ 0 → lt = w (la + 1) → Send w out lev a.to (min m a.room) arcs next g1 arcs1 next1 → ¬ 0 < g1 → next1[u]? = some n1 → Send w out lev u m arcs1 (next1.set u (n1 + 1)) g arcs' next' → Send w out lev u m arcs next g arcs' next'
  | hit {u : Nat} {m : Int} {arcs arcs1 : List Arc} {next next1 row : List Nat} {n k : Nat} {a b c : Arc} {la lt g1 : Int} : u ≠ 1 → next[u]? = some n → out[u]? = some row → row[n]? = some k → arcs[k]? = some a → lev[u]? = some la → lev[a.to]? = some lt →
      a.room ≠ 0 → lt = w (la + 1) → Send w out lev a.to (min m a.room) arcs next g1 arcs1 next1 → 0 < g1 → arcs1[k]? = some b → (arcs1.set k ⟨b.to, w (b.room - g1), b.back⟩)[a.back]? = some c →
      Send w out lev u m arcs next g1 ((arcs1.set k ⟨b.to, w (b.room - g1), b.back⟩).set a.back ⟨c.to, w (c.room + g1), c.back⟩) next1

/-- The rows tell of each place its arcs. -/
def Rows (ps : List Pipe) (out : List (List Nat)) : Prop := ∀ (v : Nat) (row : List Nat), out[v]? = some row → ∀ k, k ∈ row ↔ ∃ i p, ps[i]? = some p ∧ ((k = 2 * i ∧ p.fr = v) ∨ (k = 2 * i + 1 ∧ p.to = v))
def Small (ps : List Pipe) : Prop := ∀ p ∈ ps, p.most ≤ 1152921504606846976
/-- Nothing can go out of W, but to the sink. -/
def Shut (W : Nat → Prop) (ps : List Pipe) : Prop := ∀ p ∈ ps, (W p.fr → ¬ W p.to → p.to ≠ 1 → p.now = p.most) ∧ (W p.to → ¬ W p.fr → p.fr ≠ 1 → p.now = 0)
/-- Levels are small numbers. -/
def LevB (lev : List Int) : Prop := ∀ (v : Nat) (x : Int), lev[v]? = some x → -1 ≤ x ∧ x < 4611686018427387904

theorem Alike2.get {ps qs : List Pipe} (a : Alike2 ps qs) {i : Nat} {p : Pipe} (h : ps[i]? = some p) : ∃ q, qs[i]? = some q ∧ q.fr = p.fr ∧ q.to = p.to ∧ q.most = p.most := by
  have hi : i < qs.length := by rw [a.1]; exact (List.getElem?_eq_some_iff.mp h).1
  exact ⟨qs[i], List.getElem?_eq_getElem hi, a.2 i p _ h (List.getElem?_eq_getElem hi)⟩
theorem Alike2.symm {ps qs : List Pipe} (a : Alike2 ps qs) : Alike2 qs ps := ⟨a.1.symm, fun i p q hp hq => by
  obtain ⟨h1, h2, h3⟩ := a.2 i q p hq hp
  exact ⟨h1.symm, h2.symm, h3.symm⟩⟩
theorem Rows.alike {ps qs : List Pipe} {out : List (List Nat)} (h : Rows ps out) (a : Alike2 ps qs) : Rows qs out := fun v row hr k => by
  rw [h v row hr k]
  constructor
  · rintro ⟨i, p, hp, hk⟩
    obtain ⟨q, hq, h1, h2, _⟩ := a.get hp
    exact ⟨i, q, hq, by rw [h1, h2]; exact hk⟩
  · rintro ⟨i, q, hq, hk⟩
    obtain ⟨p, hp, h1, h2, _⟩ := a.symm.get hq
    exact ⟨i, p, hp, by rw [h1, h2]; exact hk⟩
theorem Small.alike {ps qs : List Pipe} (h : Small ps) (a : Alike2 ps qs) : Small qs := fun q hq => by
  obtain ⟨i, hi⟩ := List.getElem?_of_mem hq
  obtain ⟨p, hp, _, _, h3⟩ := a.symm.get hi
  have := h p (List.mem_of_getElem? hp)
  omega

/-- What a sending comes to. -/
structure SendOK (lev : List Int) (u : Nat) (m : Int) (ps : List Pipe) (g : Int) (qs : List Pipe) : Prop where
  g0 : 0 ≤ g
  gm : g ≤ m
  fits : Fits qs
  sent : Sent u 1 g ps qs
  same : g = 0 → qs = ps
  low : ∀ lu : Int, lev[u]? = some lu → ∀ (i : Nat) (p : Pipe) (x : Int), ps[i]? = some p → (lev[p.fr]? = some x ∨ lev[p.to]? = some x) → x < lu → qs[i]? = some p
  shut : ∀ W : Nat → Prop, Shut W ps → W u → ¬ W 1 → Shut W qs
  up : ∀ (i : Nat) (p q : Pipe), ps[i]? = some p → qs[i]? = some q → p.to = 1 → p.now ≤ q.now
  at1 : u = 1 → qs = ps

theorem up_refl {ps : List Pipe} : ∀ (i : Nat) (p q : Pipe), ps[i]? = some p → ps[i]? = some q → p.to = 1 → p.now ≤ q.now := fun i p q h1 h2 _ => by
  rw [h1] at h2; injection h2 with h2; subst h2; exact Int.le_refl _
theorem Shut.more {W : Nat → Prop} {ps : List Pipe} (h : Shut W ps) {i : Nat} {p : Pipe} (hp : ps[i]? = some p) (x : Int) (h1 : W p.fr → ¬ W p.to → p.to ≠ 1 → False) (h2 : W p.to → ¬ W p.fr → p.fr ≠ 1 → False) : Shut W (more ps i x) := fun q hq => by
  obtain ⟨j, hj⟩ := List.getElem?_of_mem hq
  rw [more_get hp] at hj
  by_cases e : j = i
  · rw [if_pos e] at hj
    injection hj with hj
    subst hj
    exact ⟨fun a b c => (h1 a b c).elim, fun a b c => (h2 a b c).elim⟩
  · rw [if_neg e] at hj
    exact h q (List.mem_of_getElem? hj)

theorem Send.ok {w : Int → Int} (hw : Wr w) {out : List (List Nat)} {lev : List Int} (hlev : LevB lev) {u : Nat} {m g : Int} {arcs arcs' : List Arc} {next next' : List Nat} (s : Send w out lev u m arcs next g arcs' next') :
    ∀ ps, arcs = arcsOf ps → Fits ps → Small ps → Rows ps out → 0 ≤ m → ∃ qs, arcs' = arcsOf qs ∧ SendOK lev u m ps g qs := by
  induction s with
  | sink =>
    intro ps ha hf hs hr hm
    exact ⟨ps, ha, hm, Int.le_refl _, hf, .refl _ _ _, fun _ => rfl, fun _ _ _ _ _ h _ _ => h, fun _ h _ _ => h, up_refl, fun _ => rfl⟩
  | done h1 h2 h3 h4 =>
    intro ps ha hf hs hr hm
    exact ⟨ps, ha, Int.le_refl _, hm, hf, ⟨fun v => by split <;> split <;> omega, .refl _⟩, fun _ => rfl, fun _ _ _ _ _ h _ _ => h, fun _ h _ _ => h, up_refl, fun h => absurd h h1⟩
  | skip h1 h2 h3 h4 h5 h6 h7 h8 s ih =>
    intro ps ha hf hs hr hm
    exact ih ps ha hf hs hr hm
  | fail h1 h2 h3 h4 h5 h6 h7 h8 h9 s1 h10 h11 s2 ih1 ih2 =>
    intro ps ha hf hs hr hm
    rename_i u m arcs arcs1 arcs' next next1 next' row n n1 k a la lt g1 g
    have hroom : 0 ≤ a.room := by
      subst ha
      obtain ⟨i, p, hp, hk⟩ := arc_cases h5
      have := hf p (List.mem_of_getElem? hp)
      rcases hk with ⟨_, e⟩ | ⟨_, e⟩ <;> rw [e] <;> dsimp only <;> omega
    obtain ⟨qs, e1, ok⟩ := ih1 ps ha hf hs hr (by omega)
    have hg := ok.g0
    have := ok.same (by omega)
    subst this
    exact ih2 qs e1 hf hs hr hm
  | hit h1 h2 h3 h4 h5 h6 h7 h8 h9 s1 h10 h11 h12 ih =>
    intro ps ha hf hs hr hm
    rename_i u m arcs arcs1 next next1 row n k a b c la lt g1
    subst ha
    obtain ⟨i, p, hp, hk⟩ := arc_cases h5
    have hpf := hf p (List.mem_of_getElem? hp)
    have hps := hs p (List.mem_of_getElem? hp)
    have hroom : 0 ≤ a.room := by rcases hk with ⟨_, e⟩ | ⟨_, e⟩ <;> rw [e] <;> dsimp only <;> omega
    obtain ⟨qs, e1, ok⟩ := ih ps rfl hf hs hr (by omega)
    subst e1
    obtain ⟨l1, l2⟩ := hlev u la h6
    have hlt : lt = la + 1 := by rw [h9, hw _ (by omega) (by omega)]
    have hgm := ok.gm
    obtain ⟨i', p', hp', hk'⟩ := (hr u row h3 k).1 (List.mem_of_getElem? h4)
    have hia : i' = i := by rcases hk with ⟨e, _⟩ | ⟨e, _⟩ <;> rcases hk' with ⟨e', _⟩ | ⟨e', _⟩ <;> omega
    subst hia
    rw [hp] at hp'
    injection hp' with hp'
    subst hp'
    rcases hk with ⟨ek, ea⟩ | ⟨ek, ea⟩
    · -- in its direction
      have hfr : p.fr = u := by rcases hk' with ⟨_, e⟩ | ⟨e, _⟩ <;> omega
      subst ek ea
      dsimp only at *
      have hq : qs[i']? = some p := ok.low lt h7 i' p la hp (.inl (by rw [hfr]; exact h6)) (by omega)
      rw [arcs_even, hq] at h11
      injection h11 with h11
      subst h11
      have hlen := (List.getElem?_eq_some_iff.mp hq).1
      rw [List.getElem?_set, if_neg (by omega), arcs_odd, hq] at h12
      injection h12 with h12
      subst h12
      dsimp only
      refine ⟨Snow.more qs i' g1, ?_, ok.g0, by omega, ok.fits.more hq (by omega) (by omega), ?_, fun h => by omega, ?_, ?_, ?_, fun h => absurd h h1⟩
      · rw [arcs_more hq, hw _ (by omega) (by omega), hw _ (by omega) (by omega)]
      · have := ok.sent.fwd hq rfl
        rw [hfr] at this
        exact this
      · intro lu hlu j pj x hj hx hlt2
        rw [h6] at hlu
        injection hlu with hlu
        subst hlu
        have hne : j ≠ i' := fun e => by
          subst e
          rw [hp] at hj
          injection hj with hj
          subst hj
          rcases hx with hx | hx
          · rw [hfr, h6] at hx; injection hx with hx; omega
          · rw [h7] at hx; injection hx with hx; omega
        rw [more_get hq, if_neg hne]
        exact ok.low lt h7 j pj x hj hx (by omega)
      · intro W hW hu hn
        have hto : W p.to ∨ p.to = 1 := by
          refine Classical.byContradiction fun hc => ?_
          have := (hW p (List.mem_of_getElem? hp)).1 (hfr ▸ hu) (fun h => hc (.inl h)) (fun h => hc (.inr h))
          omega
        rcases hto with hto | hto
        · exact (ok.shut W hW hto hn).more hq _ (fun _ h _ => h hto) (fun _ h _ => h (hfr ▸ hu))
        · have e := ok.at1 hto
          subst e
          exact hW.more hp _ (fun _ _ h => h hto) (fun _ h _ => h (hfr ▸ hu))
      · intro j pj qj hj hqj ht
        rw [more_get hq] at hqj
        split at hqj
        · rename_i e
          subst e
          injection hqj with hqj
          rw [hp] at hj; injection hj with hj
          subst hj; subst hqj
          dsimp only; omega
        · exact ok.up j pj qj hj hqj ht
    · -- against it
      have hto : p.to = u := by rcases hk' with ⟨e, _⟩ | ⟨_, e⟩ <;> omega
      subst ek ea
      dsimp only at *
      have hq : qs[i']? = some p := ok.low lt h7 i' p la hp (.inr (by rw [hto]; exact h6)) (by omega)
      rw [arcs_odd, hq] at h11
      injection h11 with h11
      subst h11
      have hlen := (List.getElem?_eq_some_iff.mp hq).1
      rw [List.getElem?_set, if_neg (by omega), arcs_even, hq] at h12
      injection h12 with h12
      subst h12
      dsimp only
      refine ⟨Snow.more qs i' (-g1), ?_, ok.g0, by omega, ok.fits.more hq (by omega) (by omega), ?_, fun h => by omega, ?_, ?_, ?_, fun h => absurd h h1⟩
      · rw [arcs_more hq, hw _ (by omega) (by omega), hw _ (by omega) (by omega), List.set_comm _ _ (by omega)]
        congr 2
        · congr 1; omega
      · have := ok.sent.bwd hq rfl
        rw [hto] at this
        exact this
      · intro lu hlu j pj x hj hx hlt2
        rw [h6] at hlu
        injection hlu with hlu
        subst hlu
        have hne : j ≠ i' := fun e => by
          subst e
          rw [hp] at hj
          injection hj with hj
          subst hj
          rcases hx with hx | hx
          · rw [h7] at hx; injection hx with hx; omega
          · rw [hto, h6] at hx; injection hx with hx; omega
        rw [more_get hq, if_neg hne]
        exact ok.low lt h7 j pj x hj hx (by omega)
      · intro W hW hu hn
        have hfr : W p.fr ∨ p.fr = 1 := by
          refine Classical.byContradiction fun hc => ?_
          have := (hW p (List.mem_of_getElem? hp)).2 (hto ▸ hu) (fun h => hc (.inl h)) (fun h => hc (.inr h))
          omega
        rcases hfr with hfr | hfr
        · exact (ok.shut W hW hfr hn).more hq _ (fun _ h _ => h (hto ▸ hu)) (fun _ h _ => h hfr)
        · have e := ok.at1 hfr
          subst e
          exact hW.more hp _ (fun _ h _ => h (hto ▸ hu)) (fun _ _ h => h hfr)
      · intro j pj qj hj hqj ht
        rw [more_get hq] at hqj
        split at hqj
        · rename_i e
          subst e
          rw [hp] at hj; injection hj with hj
          subst hj
          exact absurd (hto.symm.trans ht) h1
        · exact ok.up j pj qj hj hqj ht

/-! ### A sending that fails -/
theorem Send.len {w : Int → Int} {out : List (List Nat)} {lev : List Int} {u : Nat} {m g : Int} {arcs arcs' : List Arc} {next next' : List Nat} (s : Send w out lev u m arcs next g arcs' next') : arcs'.length = arcs.length ∧ next'.length = next.length := by
  induction s with
  | sink => exact ⟨rfl, rfl⟩
  | done => exact ⟨rfl, rfl⟩
  | skip _ _ _ _ _ _ _ _ _ ih => simpa using ih
  | fail _ _ _ _ _ _ _ _ _ _ _ _ _ ih1 ih2 => simp at ih2; exact ⟨ih2.1.trans ih1.1, ih2.2.trans ih1.2⟩
  | hit _ _ _ _ _ _ _ _ _ _ _ _ _ ih => simpa using ih
/-- Where the arcs lead, and which are opposite, stays. -/
theorem Send.shape {w : Int → Int} {out : List (List Nat)} {lev : List Int} {u : Nat} {m g : Int} {arcs arcs' : List Arc} {next next' : List Nat} (s : Send w out lev u m arcs next g arcs' next') : ∀ k : Nat, (arcs'[k]?).map (fun a => (a.to, a.back)) = (arcs[k]?).map fun a => (a.to, a.back) := by
  induction s with
  | sink => exact fun _ => rfl
  | done => exact fun _ => rfl
  | skip _ _ _ _ _ _ _ _ _ ih => exact ih
  | fail _ _ _ _ _ _ _ _ _ _ _ _ _ ih1 ih2 => exact fun k => (ih2 k).trans (ih1 k)
  | hit h1 h2 h3 h4 h5 h6 h7 h8 h9 s1 h10 h11 h12 ih =>
    intro k
    rename_i u m arcs arcs1 next next1 row n k0 a b c la lt g1
    have set1 : ∀ {l : List Arc} {i : Nat} {x : Arc} (r : Int), l[i]? = some x → ∀ k : Nat, ((l.set i ⟨x.to, r, x.back⟩)[k]?).map (fun a => (a.to, a.back)) = (l[k]?).map fun a => (a.to, a.back) := fun {l i x} r h k => by
      rw [List.getElem?_set]
      split
      · rename_i e
        subst e
        rw [if_pos (List.getElem?_eq_some_iff.mp h).1, h]; rfl
      · rfl
    rw [← ih k, set1 _ h12, set1 _ h11]
theorem Send.mono {w : Int → Int} {out : List (List Nat)} {lev : List Int} {u : Nat} {m g : Int} {arcs arcs' : List Arc} {next next' : List Nat} (s : Send w out lev u m arcs next g arcs' next') : ∀ (v n : Nat), next[v]? = some n → ∃ n', next'[v]? = some n' ∧ n ≤ n' := by
  have one : ∀ {next : List Nat} {u n1 : Nat}, next[u]? = some n1 → ∀ (v n : Nat), next[v]? = some n → ∃ n', (next.set u (n1 + 1))[v]? = some n' ∧ n ≤ n' := by
    intro next u n1 h v n hv
    rw [List.getElem?_set]
    split
    · rename_i e
      subst e
      rw [h] at hv
      injection hv with hv
      rw [if_pos (List.getElem?_eq_some_iff.mp h).1]
      exact ⟨_, rfl, by omega⟩
    · exact ⟨n, hv, Nat.le_refl _⟩
  induction s with
  | sink => exact fun v n h => ⟨n, h, Nat.le_refl _⟩
  | done => exact fun v n h => ⟨n, h, Nat.le_refl _⟩
  | skip _ h2 _ _ _ _ _ _ _ ih =>
    intro v n h
    obtain ⟨n1, h1, hle⟩ := one h2 v n h
    obtain ⟨n2, h3, hle2⟩ := ih v n1 h1
    exact ⟨n2, h3, by omega⟩
  | fail _ _ _ _ _ _ _ _ _ _ _ h11 _ ih1 ih2 =>
    intro v n h
    obtain ⟨n1, h1, hle⟩ := ih1 v n h
    obtain ⟨n2, h2, hle2⟩ := one h11 v n1 h1
    obtain ⟨n3, h3, hle3⟩ := ih2 v n2 h2
    exact ⟨n3, h3, by omega⟩
  | hit _ _ _ _ _ _ _ _ _ _ _ _ _ ih => exact ih
/-- What lies at lower levels is not looked at again. -/
theorem Send.lowN {w : Int → Int} (hw : Wr w) {out : List (List Nat)} {lev : List Int} (hlev : LevB lev) {u : Nat} {m g : Int} {arcs arcs' : List Arc} {next next' : List Nat} (s : Send w out lev u m arcs next g arcs' next') : ∀ (v : Nat) (x lu : Int), lev[v]? = some x → lev[u]? = some lu → x < lu → next'[v]? = next[v]? := by
  have ne : ∀ {u v : Nat} {x lu : Int}, lev[v]? = some x → lev[u]? = some lu → x < lu → u ≠ v := fun h1 h2 h3 e => by
    subst e; rw [h1] at h2; injection h2; omega
  induction s with
  | sink => exact fun _ _ _ _ _ _ => rfl
  | done => exact fun _ _ _ _ _ _ => rfl
  | skip _ _ _ _ _ _ _ _ _ ih =>
    intro v x lu h1 h2 h3
    rw [ih v x lu h1 h2 h3, List.getElem?_set_ne (ne h1 h2 h3)]
  | fail g1 g2 g3 g4 g5 h6 h7 g8 h9 g10 g11 g12 g13 ih1 ih2 =>
    intro v x lu h1 h2 h3
    rename_i la lt _ _
    rw [h6] at h2; injection h2 with h2; subst h2
    have hb := hlev _ _ h6
    have hlt : lt = la + 1 := by rw [h9, hw _ (by omega) (by omega)]
    rw [ih2 v x _ h1 h6 h3, List.getElem?_set_ne (ne h1 h6 h3), ih1 v x lt h1 h7 (by omega)]
  | hit g1 g2 g3 g4 g5 h6 h7 g8 h9 g10 g11 g12 g13 ih =>
    intro v x lu h1 h2 h3
    rename_i la lt _
    rw [h6] at h2; injection h2 with h2; subst h2
    have hb := hlev _ _ h6
    have hlt : lt = la + 1 := by rw [h9, hw _ (by omega) (by omega)]
    exact ih v x lt h1 h7 (by omega)

def Full (out : List (List Nat)) (next : List Nat) (v : Nat) : Prop := ∃ n row, next[v]? = some n ∧ out[v]? = some row ∧ row.length ≤ n
/-- What has been passed leads nowhere. -/
def Passed (w : Int → Int) (out : List (List Nat)) (lev : List Int) (arcs : List Arc) (next : List Nat) : Prop :=
  ∀ (v n : Nat) (row : List Nat) (j k : Nat) (a : Arc) (la lt : Int), next[v]? = some n → out[v]? = some row → j < n → row[j]? = some k → arcs[k]? = some a → lev[v]? = some la → lev[a.to]? = some lt → a.room = 0 ∨ lt ≠ w (la + 1) ∨ (a.to ≠ 1 ∧ Full out next a.to)
theorem Full.set {out : List (List Nat)} {next : List Nat} {u n1 : Nat} (h : next[u]? = some n1) {v : Nat} (f : Full out next v) : Full out (next.set u (n1 + 1)) v := by
  obtain ⟨n, row, h1, h2, h3⟩ := f
  unfold Full
  rw [List.getElem?_set]
  split
  · rename_i e
    subst e
    rw [h] at h1; injection h1 with h1
    rw [if_pos (List.getElem?_eq_some_iff.mp h).1]
    exact ⟨_, row, rfl, h2, by omega⟩
  · exact ⟨n, row, h1, h2, h3⟩
theorem Passed.set {w : Int → Int} {out : List (List Nat)} {lev : List Int} {arcs : List Arc} {next : List Nat} (p : Passed w out lev arcs next) {u n1 : Nat} (h : next[u]? = some n1)
    (hn : ∀ (row : List Nat) (k : Nat) (a : Arc) (la lt : Int), out[u]? = some row → row[n1]? = some k → arcs[k]? = some a → lev[u]? = some la → lev[a.to]? = some lt → a.room = 0 ∨ lt ≠ w (la + 1) ∨ (a.to ≠ 1 ∧ Full out next a.to)) : Passed w out lev arcs (next.set u (n1 + 1)) := by
  intro v n row j k a la lt h1 h2 h3 h4 h5 h6 h7
  have key : a.room = 0 ∨ lt ≠ w (la + 1) ∨ (a.to ≠ 1 ∧ Full out next a.to) := by
    rw [List.getElem?_set] at h1
    split at h1
    · rename_i e
      subst e
      rw [if_pos (List.getElem?_eq_some_iff.mp h).1] at h1
      injection h1 with h1
      subst h1
      by_cases e : j = n1
      · subst e; exact hn row k a la lt h2 h4 h5 h6 h7
      · exact p u n1 row j k a la lt h h2 (by omega) h4 h5 h6 h7
    · exact p v n row j k a la lt h1 h2 h3 h4 h5 h6 h7
  rcases key with e | e | ⟨e1, e2⟩
  · exact .inl e
  · exact .inr (.inl e)
  · exact .inr (.inr ⟨e1, e2.set h⟩)

theorem Send.dead {w : Int → Int} (hw : Wr w) {out : List (List Nat)} {lev : List Int} (hlev : LevB lev) {u : Nat} {m g : Int} {arcs arcs' : List Arc} {next next' : List Nat} (s : Send w out lev u m arcs next g arcs' next') :
    ∀ ps, arcs = arcsOf ps → Fits ps → Small ps → Rows ps out → 0 < m → g = 0 → Passed w out lev arcs next → u ≠ 1 ∧ Full out next' u ∧ Passed w out lev arcs next' := by
  induction s with
  | sink => intro ps ha hf hs hr hm hg; omega
  | done h1 h2 h3 h4 => intro ps ha hf hs hr hm hg hp; exact ⟨h1, ⟨_, _, h2, h3, h4⟩, hp⟩
  | skip h1 h2 h3 h4 h5 h6 h7 h8 s ih =>
    intro ps ha hf hs hr hm hg hp
    refine ih ps ha hf hs hr hm hg (hp.set h2 fun row k a la lt e1 e2 e3 e4 e5 => ?_)
    rw [h3] at e1; injection e1 with e1; subst e1
    rw [h4] at e2; injection e2 with e2; subst e2
    rw [h5] at e3; injection e3 with e3; subst e3
    rw [h6] at e4; injection e4 with e4; subst e4
    rw [h7] at e5; injection e5 with e5; subst e5
    rcases h8 with h8 | h8
    · exact .inl h8
    · exact .inr (.inl h8)
  | fail h1 h2 h3 h4 h5 h6 h7 h8 h9 s1 h10 h11 s2 ih1 ih2 =>
    intro ps ha hf hs hr hm hg hp
    rename_i u m arcs arcs1 arcs' next next1 next' row n n1 k a la lt g1 g
    have hroom : 0 < a.room := by
      subst ha
      obtain ⟨i, p, hp, hk⟩ := arc_cases h5
      have := hf p (List.mem_of_getElem? hp)
      rcases hk with ⟨_, e⟩ | ⟨_, e⟩ <;> rw [e] at h8 ⊢ <;> dsimp only at * <;> omega
    obtain ⟨qs, e1, ok⟩ := s1.ok hw hlev ps ha hf hs hr (by omega)
    have hg0 := ok.g0
    have := ok.same (by omega)
    subst this
    rw [← ha] at e1
    subst e1
    obtain ⟨d1, d2, d3⟩ := ih1 qs ha hf hs hr (by omega) (by omega) hp
    have hb := hlev _ _ h6
    have hlt : lt = la + 1 := by rw [h9, hw _ (by omega) (by omega)]
    have hn1 := s1.lowN hw hlev u la lt h6 h7 (by omega)
    rw [h11, h2] at hn1
    injection hn1 with hn1
    subst hn1
    refine ih2 qs ha hf hs hr hm hg (d3.set h11 fun row' k' a' la' lt' e1 e2 e3 e4 e5 => ?_)
    rw [h3] at e1; injection e1 with e1; subst e1
    rw [h4] at e2; injection e2 with e2; subst e2
    rw [h5] at e3; injection e3 with e3; subst e3
    exact .inr (.inr ⟨d1, d2⟩)
  | hit h1 h2 h3 h4 h5 h6 h7 h8 h9 s1 h10 h11 h12 ih =>
    intro ps ha hf hs hr hm hg
    omega

/-! ### Levels -/
/-- What levels tell: how far the places are that are reached. -/
structure LevOK (out : List (List Nat)) (arcs : List Arc) (lev : List Int) : Prop where
  len : lev.length = out.length
  src : lev[0]? = some 0
  hi : ∀ (v : Nat) (x : Int), lev[v]? = some x → -1 ≤ x ∧ x < out.length
  pred : ∀ (v : Nat) (x : Int), lev[v]? = some x → 0 ≤ x → v ≠ 0 → ∃ (u : Nat) (row : List Nat) (k : Nat) (a : Arc), lev[u]? = some (x - 1) ∧ 0 ≤ x - 1 ∧ out[u]? = some row ∧ k ∈ row ∧ arcs[k]? = some a ∧ a.room ≠ 0 ∧ a.to = v
  closed : ∀ s : Int, lev[1]? = some s → s < 0 → ∀ (v : Nat) (x : Int) (row : List Nat) (k : Nat) (a : Arc) (y : Int), lev[v]? = some x → 0 ≤ x → out[v]? = some row → k ∈ row → arcs[k]? = some a → a.room ≠ 0 → lev[a.to]? = some y → 0 ≤ y

/-- If the sink is reached, then something can be sent. -/
theorem Send.first {w : Int → Int} (hw : Wr w) {out : List (List Nat)} {lev : List Int} {m g : Int} {arcs' : List Arc} {next next' : List Nat} {ps : List Pipe} (s : Send w out lev 0 m (arcsOf ps) next g arcs' next') (hf : Fits ps) (hs : Small ps) (hr : Rows ps out) (hm : 0 < m)
    (hL : LevOK out (arcsOf ps) lev) (hlen : (out.length : Int) ≤ 4611686018427387904) (hz : ∀ v n : Nat, next[v]? = some n → n = 0) {x : Int} (hx : lev[1]? = some x) (hx0 : 0 ≤ x) : 0 < g := by
  have hB : LevB lev := fun v x h => by have := hL.hi v x h; omega
  obtain ⟨qs, _, ok⟩ := s.ok hw hB ps rfl hf hs hr (by omega)
  have hg := ok.g0
  refine Classical.byContradiction fun hn => ?_
  have d := s.dead hw hB ps rfl hf hs hr hm (by omega) (fun v n row j k a la lt h1 _ h3 _ _ _ _ => by have := hz v n h1; omega)
  have all : ∀ (d v : Nat) (y : Int), lev[v]? = some y → 0 ≤ y → y.toNat = d → v ≠ 1 ∧ Full out next' v := by
    intro n
    induction n with
    | zero =>
      intro v y hv hy hd
      by_cases e : v = 0
      · subst e; exact ⟨d.1, d.2.1⟩
      · obtain ⟨u, row, k, a, _, h2, _⟩ := hL.pred v y hv hy e
        omega
    | succ n ih =>
      intro v y hv hy hd
      by_cases e : v = 0
      · subst e; exact ⟨d.1, d.2.1⟩
      · obtain ⟨u, row, k, a, h1, h2, h3, h4, h5, h6, h7⟩ := hL.pred v y hv hy e
        obtain ⟨_, nn, row', f1, f2, f3⟩ := ih u (y - 1) h1 h2 (by omega)
        rw [h3] at f2; injection f2 with f2; subst f2
        obtain ⟨j, hj⟩ := List.getElem?_of_mem h4
        have hjl := (List.getElem?_eq_some_iff.mp hj).1
        subst h7
        have hyb := hL.hi _ _ hv
        rcases d.2.2 u nn row j k a (y - 1) y f1 h3 (by omega) hj h5 h1 hv with r | r | r
        · exact absurd r h6
        · exact absurd (by rw [hw _ (by omega) (by omega)]; omega) r
        · exact r
  exact (all _ 1 x hx hx0 rfl).1 rfl
end Snow
end

section
/- Levels, the search of the specification, promises: the plain law. No program. -/
set_option linter.unusedSimpArgs false
set_option linter.unusedVariables false
namespace Snow

/-! ### How far the places are: the search -/
/-- How many places are not reached. -/
def unv (lev : List Int) : Nat := lev.countP (fun x => decide (x < 0))
theorem unv_set : ∀ {lev : List Int} {v : Nat} {y z : Int}, lev[v]? = some y → y < 0 → 0 ≤ z → unv (lev.set v z) + 1 = unv lev
  | [], v, y, z, h, _, _ => by simp at h
  | x :: l, 0, y, z, h, hy, hz => by
    simp at h; subst h
    unfold unv
    rw [List.set_cons_zero, List.countP_cons_of_neg (by simpa using hz), List.countP_cons_of_pos (by simpa using hy)]
  | x :: l, v + 1, y, z, h, hy, hz => by
    have := unv_set (lev := l) (v := v) (by simpa using h) hy hz
    unfold unv at this ⊢
    rw [List.set_cons_succ, List.countP_cons, List.countP_cons]
    omega
def ClosedTo (arcs : List Arc) (lev : List Int) (row : List Nat) (i : Nat) : Prop := ∀ (j k : Nat) (a : Arc) (y : Int), j < i → row[j]? = some k → arcs[k]? = some a → a.room ≠ 0 → lev[a.to]? = some y → 0 ≤ y
structure Bf (out : List (List Nat)) (arcs : List Arc) (lev : List Int) (Q : List Nat) (ex : Nat → Prop) : Prop where
  len : lev.length = out.length
  src : lev[0]? = some 0
  hi : ∀ (v : Nat) (x : Int), lev[v]? = some x → -1 ≤ x ∧ x + unv lev < out.length
  pred : ∀ (v : Nat) (x : Int), lev[v]? = some x → 0 ≤ x → v ≠ 0 → ∃ (u : Nat) (row : List Nat) (k : Nat) (a : Arc), lev[u]? = some (x - 1) ∧ 0 ≤ x - 1 ∧ out[u]? = some row ∧ k ∈ row ∧ arcs[k]? = some a ∧ a.room ≠ 0 ∧ a.to = v
  q : ∀ v ∈ Q, ∃ x : Int, lev[v]? = some x ∧ 0 ≤ x
  snk : ∀ x : Int, lev[1]? = some x → x < 0
  cl : ∀ (v : Nat) (x : Int), lev[v]? = some x → 0 ≤ x → v ∈ Q ∨ ex v ∨ ∀ row : List Nat, out[v]? = some row → ClosedTo arcs lev row row.length

theorem Bf.start {out : List (List Nat)} {arcs : List Arc} (h : 1 < out.length) : Bf out arcs ((List.replicate out.length (-1)).set 0 0) [0] (fun _ => False) := by
  obtain ⟨n, hn⟩ : ∃ n, out.length = n + 1 := ⟨out.length - 1, by omega⟩
  have hu : unv ((List.replicate out.length (-1)).set 0 0) = n := by
    rw [hn, List.replicate_succ, List.set_cons_zero]
    unfold unv
    rw [List.countP_cons_of_neg (by simp), List.countP_replicate]
    simp
  generalize hun : unv ((List.replicate out.length (-1)).set 0 0) = U at hu
  have hg : ∀ (v : Nat) (x : Int), ((List.replicate out.length (-1 : Int)).set 0 0)[v]? = some x → (v = 0 ∧ x = 0) ∨ (v ≠ 0 ∧ x = -1) := fun v x h => by
    rw [List.getElem?_set] at h
    split at h
    · rename_i e
      split at h
      · injection h with h; exact .inl ⟨e.symm, h.symm⟩
      · cases h
    · rename_i e
      rw [List.getElem?_replicate] at h
      split at h
      · injection h with h; exact .inr ⟨fun c => e c.symm, h.symm⟩
      · cases h
  refine ⟨by simp, by rw [List.getElem?_set, if_pos rfl, if_pos (by rw [List.length_replicate]; omega)], fun v x h => ?_, fun v x h hx hv => ?_, fun v hv => ⟨0, ?_, Int.le_refl _⟩, fun x h => ?_, fun v x h hx => ?_⟩
  · rw [hun, hu, hn]
    rcases hg v x h with ⟨_, e⟩ | ⟨_, e⟩ <;> omega
  · rcases hg v x h with ⟨e, _⟩ | ⟨_, e⟩ <;> omega
  · have : v = 0 := by simpa using hv
    subst this
    rw [List.getElem?_set, if_pos rfl, if_pos (by rw [List.length_replicate]; omega)]
  · rcases hg 1 x h with ⟨e, _⟩ | ⟨_, e⟩ <;> omega
  · rcases hg v x h with ⟨e, _⟩ | ⟨_, e⟩
    · subst e; exact .inl (by simp)
    · omega
theorem Bf.pop {out : List (List Nat)} {arcs : List Arc} {lev : List Int} {Q : List Nat} {u : Nat} (b : Bf out arcs lev (u :: Q) (fun _ => False)) : Bf out arcs lev Q (· = u) :=
  { b with
    q := fun v hv => b.q v (List.mem_cons_of_mem _ hv)
    cl := fun v x h hx => by
      rcases b.cl v x h hx with e | e | e
      · rcases List.mem_cons.1 e with e | e
        · exact .inr (.inl e)
        · exact .inl e
      · exact e.elim
      · exact .inr (.inr e) }
theorem Bf.full {out : List (List Nat)} {arcs : List Arc} {lev : List Int} {Q : List Nat} {u : Nat} (b : Bf out arcs lev Q (· = u)) {row : List Nat} (hr : out[u]? = some row) (c : ClosedTo arcs lev row row.length) : Bf out arcs lev Q (fun _ => False) :=
  { b with
    cl := fun v x h hx => by
      rcases b.cl v x h hx with e | e | e
      · exact .inl e
      · refine .inr (.inr fun row' hr' => ?_)
        have e : v = u := e
        subst e
        rw [hr] at hr'; injection hr' with hr'; subst hr'; exact c
      · exact .inr (.inr e) }
theorem Bf.done {out : List (List Nat)} {arcs : List Arc} {lev : List Int} (b : Bf out arcs lev [] (fun _ => False)) : LevOK out arcs lev where
  len := b.len
  src := b.src
  hi v x h := by have := b.hi v x h; omega
  pred := b.pred
  closed s _ _ v x row k a y h1 h2 h3 h4 h5 h6 h7 := by
    rcases b.cl v x h1 h2 with e | e | e
    · cases e
    · exact e.elim
    · obtain ⟨j, hj⟩ := List.getElem?_of_mem h4
      exact e row h3 j k a y (List.getElem?_eq_some_iff.mp hj).1 hj h5 h6 h7
theorem ClosedTo.next {arcs : List Arc} {lev : List Int} {row : List Nat} {i : Nat} (c : ClosedTo arcs lev row i) {k : Nat} {a : Arc} (hk : row[i]? = some k) (ha : arcs[k]? = some a) (h : a.room = 0 ∨ ∀ y : Int, lev[a.to]? = some y → 0 ≤ y) : ClosedTo arcs lev row (i + 1) := by
  intro j k' a' y hj h1 h2 h3 h4
  by_cases e : j = i
  · subst e
    rw [hk] at h1; injection h1 with h1; subst h1
    rw [ha] at h2; injection h2 with h2; subst h2
    rcases h with h | h
    · exact absurd h h3
    · exact h y h4
  · exact c j k' a' y (by omega) h1 h2 h3 h4
theorem ClosedTo.set {arcs : List Arc} {lev : List Int} {row : List Nat} {i : Nat} (c : ClosedTo arcs lev row i) (v : Nat) {z : Int} (hz : 0 ≤ z) : ClosedTo arcs (lev.set v z) row i := by
  intro j k a y hj h1 h2 h3 h4
  rw [List.getElem?_set] at h4
  split at h4
  · split at h4
    · injection h4 with h4; omega
    · cases h4
  · exact c j k a y hj h1 h2 h3 h4

section
variable {out : List (List Nat)} {arcs : List Arc} {lev : List Int} {Q : List Nat} {u : Nat} {row : List Nat} {i k : Nat} {a : Arc} {la y : Int}
theorem Bf.found (b : Bf out arcs lev Q (· = u)) (hr : out[u]? = some row) (hk : row[i]? = some k) (ha : arcs[k]? = some a) (hu : lev[u]? = some la) (hu0 : 0 ≤ la) (hy : lev[a.to]? = some y) (hy0 : y < 0) (hroom : a.room ≠ 0) :
    (lev.set a.to (la + 1)).length = out.length ∧ (lev.set a.to (la + 1))[0]? = some 0 ∧ (∀ (v : Nat) (x : Int), (lev.set a.to (la + 1))[v]? = some x → -1 ≤ x ∧ x + unv (lev.set a.to (la + 1)) < out.length) ∧
    (∀ (v : Nat) (x : Int), (lev.set a.to (la + 1))[v]? = some x → 0 ≤ x → v ≠ 0 → ∃ (u : Nat) (row : List Nat) (k : Nat) (b : Arc), (lev.set a.to (la + 1))[u]? = some (x - 1) ∧ 0 ≤ x - 1 ∧ out[u]? = some row ∧ k ∈ row ∧ arcs[k]? = some b ∧ b.room ≠ 0 ∧ b.to = v) := by
  have hne : ∀ (v : Nat) (x : Int), lev[v]? = some x → 0 ≤ x → a.to ≠ v := fun v x h hx e => by subst e; rw [hy] at h; injection h; omega
  have hlt := (List.getElem?_eq_some_iff.mp hy).1
  have hun := unv_set (z := la + 1) hy hy0 (by omega)
  refine ⟨by rw [List.length_set]; exact b.len, by rw [List.getElem?_set_ne (hne 0 0 b.src (Int.le_refl _))]; exact b.src, fun v x h => ?_, fun v x h hx hv => ?_⟩
  · rw [List.getElem?_set] at h
    split at h
    · try rw [if_pos hlt] at h
      injection h with h
      have := b.hi u la hu
      omega
    · have := b.hi v x h
      omega
  · rw [List.getElem?_set] at h
    split at h
    · rename_i e
      try rw [if_pos hlt] at h
      injection h with h
      refine ⟨u, row, k, a, ?_, by omega, hr, List.mem_of_getElem? hk, ha, hroom, e⟩
      rw [List.getElem?_set_ne (hne u la hu hu0), hu]
      congr 1; omega
    · obtain ⟨u', row', k', b', h1, h2, h3⟩ := b.pred v x h hx hv
      exact ⟨u', row', k', b', by rw [List.getElem?_set_ne (hne u' _ h1 h2)]; exact h1, h2, h3⟩
theorem Bf.enq (b : Bf out arcs lev Q (· = u)) (hr : out[u]? = some row) (hk : row[i]? = some k) (ha : arcs[k]? = some a) (hu : lev[u]? = some la) (hu0 : 0 ≤ la) (hy : lev[a.to]? = some y) (hy0 : y < 0) (hroom : a.room ≠ 0) (h1 : a.to ≠ 1) :
    Bf out arcs (lev.set a.to (la + 1)) (Q ++ [a.to]) (· = u) := by
  obtain ⟨e1, e2, e3, e4⟩ := b.found hr hk ha hu hu0 hy hy0 hroom
  have hlt := (List.getElem?_eq_some_iff.mp hy).1
  refine ⟨e1, e2, e3, e4, fun v hv => ?_, fun x h => ?_, fun v x h hx => ?_⟩
  · rcases List.mem_append.1 hv with h | h
    · obtain ⟨x, h2, h3⟩ := b.q v h
      by_cases e : a.to = v
      · exact ⟨la + 1, by rw [List.getElem?_set, if_pos e, if_pos (e ▸ hlt)], by omega⟩
      · exact ⟨x, by rw [List.getElem?_set_ne e]; exact h2, h3⟩
    · have : v = a.to := by simpa using h
      subst this
      exact ⟨la + 1, by rw [List.getElem?_set, if_pos rfl, if_pos hlt], by omega⟩
  · rw [List.getElem?_set_ne h1] at h
    exact b.snk x h
  · rw [List.getElem?_set] at h
    split at h
    · rename_i e
      exact .inl (List.mem_append_right _ (by rw [e]; simp))
    · rcases b.cl v x h hx with e | e | e
      · exact .inl (List.mem_append_left _ e)
      · exact .inr (.inl e)
      · exact .inr (.inr fun row hr => (e row hr).set _ (by omega))
theorem Bf.hit (b : Bf out arcs lev Q (· = u)) (hr : out[u]? = some row) (hk : row[i]? = some k) (ha : arcs[k]? = some a) (hu : lev[u]? = some la) (hu0 : 0 ≤ la) (hy : lev[a.to]? = some y) (hy0 : y < 0) (hroom : a.room ≠ 0) (h1 : a.to = 1) :
    LevOK out arcs (lev.set a.to (la + 1)) := by
  obtain ⟨e1, e2, e3, e4⟩ := b.found hr hk ha hu hu0 hy hy0 hroom
  have hlt := (List.getElem?_eq_some_iff.mp hy).1
  refine ⟨e1, e2, fun v x h => by have := e3 v x h; omega, e4, fun s hs hs0 => ?_⟩
  rw [List.getElem?_set, if_pos h1, if_pos (h1 ▸ hlt)] at hs
  injection hs with hs
  omega
end

/-! ### What is reached in the end -/
theorem LevOK.reached {out : List (List Nat)} {ps : List Pipe} {lev : List Int} (L : LevOK out (arcsOf ps) lev) (hr : Rows ps out) (hin : ∀ p ∈ ps, p.fr < out.length ∧ p.to < out.length) (hf : Fits ps) (h1 : 1 < out.length) {s : Int} (hs : lev[1]? = some s) (h0 : s < 0) :
    Reached 0 1 (fun v => decide (0 ≤ lev.getD v (-1))) ps := by
  have get : ∀ v : Nat, v < out.length → ∃ x, lev[v]? = some x := fun v hv => ⟨lev[v]'(by rw [L.len]; exact hv), List.getElem?_eq_getElem _⟩
  have gd : ∀ {v : Nat} {x : Int}, lev[v]? = some x → lev.getD v (-1) = x := fun {v x} h => by rw [List.getD_eq_getElem?_getD, h]; rfl
  have go : ∀ (u v : Nat) (i k : Nat) (p : Pipe) (a : Arc), p ∈ ps → u < out.length → v < out.length → ps[i]? = some p → (arcsOf ps)[k]? = some a → a.to = v → ((k = 2 * i ∧ p.fr = u) ∨ (k = 2 * i + 1 ∧ p.to = u)) → decide (0 ≤ lev.getD u (-1)) = true → decide (0 ≤ lev.getD v (-1)) = false → a.room = 0 := by
    intro u v i k p a hp hu hv hi hk ha hor du dv
    obtain ⟨x, hx⟩ := get u hu
    obtain ⟨y, hy⟩ := get v hv
    rw [gd hx] at du
    rw [gd hy] at dv
    have du : 0 ≤ x := by simpa using du
    have dv : ¬ 0 ≤ y := by simpa using dv
    refine Classical.byContradiction fun hn => dv ?_
    have hrow : out[u]? = some out[u] := List.getElem?_eq_getElem hu
    exact L.closed s hs h0 u x _ k a y hx du hrow ((hr u _ hrow k).2 ⟨i, p, hi, hor⟩) hk hn (by rw [ha]; exact hy)
  refine ⟨by rw [gd L.src]; rfl, by rw [gd hs]; simpa using h0, fun p hp du dv => ?_, fun p hp du dv => ?_⟩
  · obtain ⟨i, hi⟩ := List.getElem?_of_mem hp
    have hk := arcs_even ps i
    rw [hi, Option.map_some] at hk
    obtain ⟨b1, b2⟩ := hin p hp
    have := go p.fr p.to i (2 * i) p _ hp b1 b2 hi hk rfl (.inl ⟨rfl, rfl⟩) du dv
    dsimp only at this
    omega
  · obtain ⟨i, hi⟩ := List.getElem?_of_mem hp
    have hk := arcs_odd ps i
    rw [hi, Option.map_some] at hk
    obtain ⟨b1, b2⟩ := hin p hp
    have := go p.to p.fr i (2 * i + 1) p _ hp b2 b1 hi hk rfl (.inr ⟨rfl, rfl⟩) dv du
    exact this

/-! ### A whole push -/
def capOut (ps : List Pipe) : Int := LS ps fun p => if p.fr = 0 then p.most else 0
theorem LS_alike {ps qs : List Pipe} (a : Alike2 ps qs) (f : Pipe → Int) (hf : ∀ p q : Pipe, q.fr = p.fr → q.to = p.to → q.most = p.most → f q = f p) : LS qs f = LS ps f := by
  induction ps generalizing qs with
  | nil =>
    have : qs = [] := List.eq_nil_of_length_eq_zero (by rw [a.1]; rfl)
    rw [this]
  | cons p ps ih =>
    cases qs with
    | nil => have := a.1; simp at this
    | cons q qs =>
      simp only [LS]
      have h0 := a.2 0 p q rfl rfl
      rw [hf p q h0.1 h0.2.1 h0.2.2, ih ⟨by have := a.1; simpa using this, fun i p' q' h1 h2 => a.2 (i + 1) p' q' (by simpa using h1) (by simpa using h2)⟩]
theorem net_le_cap {ps : List Pipe} (hf : Fits ps) : net ps 0 ≤ capOut ps := LS_le fun p hp => by
  have := hf p hp
  split <;> split <;> omega
theorem Alike2.mem {ps qs : List Pipe} (a : Alike2 ps qs) {q : Pipe} (h : q ∈ qs) : ∃ p ∈ ps, q.fr = p.fr ∧ q.to = p.to ∧ q.most = p.most := by
  obtain ⟨i, hi⟩ := List.getElem?_of_mem h
  obtain ⟨p, hp, h1, h2, h3⟩ := a.symm.get hi
  exact ⟨p, List.mem_of_getElem? hp, h1.symm, h2.symm, h3.symm⟩
/-- What has been pushed so far. -/
structure Pushed (ps : List Pipe) (t : Int) (qs : List Pipe) : Prop where
  t0 : 0 ≤ t
  fits : Fits qs
  sent : Sent 0 1 t ps qs
  up : ∀ (i : Nat) (p q : Pipe), ps[i]? = some p → qs[i]? = some q → p.to = 1 → p.now ≤ q.now
  shut : ∀ W : Nat → Prop, Shut W ps → W 0 → ¬ W 1 → Shut W qs
theorem Pushed.refl {ps : List Pipe} (hf : Fits ps) : Pushed ps 0 ps := ⟨Int.le_refl _, hf, ⟨fun v => by split <;> split <;> omega, .refl _⟩, fun i p q h1 h2 _ => by rw [h1] at h2; injection h2 with h2; subst h2; exact Int.le_refl _, fun _ h _ _ => h⟩
theorem Pushed.next {ps qs rs : List Pipe} {t g m : Int} {lev : List Int} (h : Pushed ps t qs) (s : SendOK lev 0 m qs g rs) : Pushed ps (t + g) rs where
  t0 := by have := h.t0; have := s.g0; omega
  fits := s.fits
  sent := ⟨fun v => by
    rw [s.sent.net, h.sent.net]
    (repeat' split) <;> omega, h.sent.like.trans s.sent.like⟩
  up i p r h1 h2 h3 := by
    obtain ⟨q, hq, _, h4, _⟩ := h.sent.like.get h1
    have a := h.up i p q h1 hq h3
    have b := s.up i q r hq h2 (h4.trans h3)
    omega
  shut W h1 h2 h3 := s.shut W (h.shut W h1 h2 h3) h2 h3
theorem Alike2.capOut {ps qs : List Pipe} (a : Alike2 ps qs) : capOut qs = capOut ps := LS_alike a _ fun p q h1 _ h3 => by rw [h1, h3]
theorem Pushed.bound {ps qs : List Pipe} {t : Int} (h : Pushed ps t qs) : t ≤ capOut ps - net ps 0 := by
  have h1 := net_le_cap h.fits
  rw [h.sent.like.capOut, h.sent.net] at h1
  simp at h1
  omega
end Snow
namespace Snow

/-! ### The specification's search -/
/-- How many places are not found. -/
def unf (none : Int) (byl : List Int) : Nat := byl.countP (fun x => decide (x = none))
theorem unf_set {none : Int} : ∀ {byl : List Int} {v : Nat} {z : Int}, byl[v]? = some none → z ≠ none → unf none (byl.set v z) + 1 = unf none byl
  | [], v, z, h, _ => by simp at h
  | x :: l, 0, z, h, hz => by
    simp at h; subst h
    unfold unf
    rw [List.set_cons_zero, List.countP_cons_of_neg (by simpa using hz), List.countP_cons_of_pos (by simp)]
  | x :: l, v + 1, z, h, hz => by
    have := unf_set (byl := l) (v := v) (by simpa using h) hz
    unfold unf at this ⊢
    rw [List.set_cons_succ, List.countP_cons, List.countP_cons]
    omega
/-- By which pipe a place is found, out of a place found before. -/
def ByP (ps : List Pipe) (byl : List Int) (line : List Nat) (r v : Nat) : Prop := ∃ (i : Nat) (p : Pipe) (r' : Nat), ps[i]? = some p ∧ r' < r ∧
  ((byl[v]? = some (i : Int) ∧ p.to = v ∧ p.now < p.most ∧ line[r']? = some p.fr) ∨ (byl[v]? = some (-1 - (i : Int)) ∧ p.fr = v ∧ 0 < p.now ∧ line[r']? = some p.to))
/-- From a place nothing leads to one that is not found (of the first i pipes). -/
def ShutAt (ps : List Pipe) (line : List Nat) (u i : Nat) : Prop := ∀ (j : Nat) (p : Pipe), j < i → ps[j]? = some p → (p.fr = u → p.now < p.most → p.to ∈ line) ∧ (p.to = u → 0 < p.now → p.fr ∈ line)
structure Fd (ps : List Pipe) (n : Nat) (byl : List Int) (line : List Nat) : Prop where
  len : byl.length = n
  cnt : unf (-1 - (ps.length : Int)) byl + line.length = n
  mem : ∀ (v : Nat) (x : Int), byl[v]? = some x → (v ∈ line ↔ x ≠ -1 - (ps.length : Int))
  lt : ∀ v ∈ line, v < n
  zero : byl[0]? = some (ps.length : Int)
  z2 : line[0]? = some 0
  nd : line.Nodup
  src : ∀ r v : Nat, line[r]? = some v → r ≠ 0 → ByP ps byl line r v

theorem Fd.start {ps : List Pipe} {n : Nat} (hn : 0 < n) : Fd ps n ((List.replicate n (-1 - (ps.length : Int))).set 0 (ps.length : Int)) [0] := by
  obtain ⟨m, rfl⟩ : ∃ m, n = m + 1 := ⟨n - 1, by omega⟩
  refine ⟨by simp, ?_, fun v x h => ?_, fun v hv => ?_, by simp [List.replicate_succ], rfl, by simp, fun r v h hr => ?_⟩
  · rw [List.replicate_succ, List.set_cons_zero]
    unfold unf
    rw [List.countP_cons_of_neg (by simp; omega), List.countP_replicate]
    simp
  · rw [List.getElem?_set] at h
    split at h
    · rename_i e
      split at h
      · injection h with h
        subst h; subst e
        simp; omega
      · cases h
    · rename_i e
      rw [List.getElem?_replicate] at h
      split at h
      · injection h with h
        subst h
        simp; omega
      · cases h
  · have : v = 0 := by simpa using hv
    omega
  · cases r with
    | zero => exact absurd rfl hr
    | succ r => simp at h
/-- One place more. -/
theorem Fd.add {ps : List Pipe} {n : Nat} {byl : List Int} {line : List Nat} (f : Fd ps n byl line) {v : Nat} {z : Int} (hv : byl[v]? = some (-1 - (ps.length : Int))) (hz : z ≠ -1 - (ps.length : Int)) (hb : ByP ps (byl.set v z) line line.length v) : Fd ps n (byl.set v z) (line ++ [v]) := by
  have hvl := (List.getElem?_eq_some_iff.mp hv).1
  have hnm : v ∉ line := fun h => ((f.mem v _ hv).1 h) rfl
  have hline : ∀ {r u : Nat}, line[r]? = some u → (line ++ [v])[r]? = some u := fun {r u} h => by
    rw [List.getElem?_append_left (List.getElem?_eq_some_iff.mp h).1]; exact h
  refine ⟨by rw [List.length_set]; exact f.len, ?_, fun u x h => ?_, fun u hu => ?_, ?_, hline f.z2, ?_, fun r u h hr => ?_⟩
  · have := unf_set hv hz
    have := f.cnt
    simp; omega
  · rw [List.getElem?_set] at h
    split at h
    · rename_i e
      subst e
      try rw [if_pos hvl] at h
      injection h with h
      subst h
      simp [hz]
    · rename_i e
      rw [← f.mem u x h]
      have hne : u ≠ v := fun c => e c.symm
      simp [hne]
  · rcases List.mem_append.1 hu with h | h
    · exact f.lt u h
    · have : u = v := by simpa using h
      rw [this, ← f.len]; exact hvl
  · rw [List.getElem?_set_ne fun e => by subst e; rw [f.zero] at hv; injection hv; omega]
    exact f.zero
  · rw [List.nodup_append]
    exact ⟨f.nd, by simp, fun a ha b hb e => by
      have : b = v := by simpa using hb
      subst this; subst e; exact hnm ha⟩
  · rcases Nat.lt_or_ge r line.length with h1 | h1
    · rw [List.getElem?_append_left h1] at h
      have hne : v ≠ u := fun e => hnm (e ▸ List.mem_of_getElem? h)
      obtain ⟨i, p, r', h2, h3, h4⟩ := f.src r u h hr
      refine ⟨i, p, r', h2, h3, ?_⟩
      rw [List.getElem?_set_ne hne]
      rcases h4 with ⟨a, b, c, d⟩ | ⟨a, b, c, d⟩
      · exact .inl ⟨a, b, c, hline d⟩
      · exact .inr ⟨a, b, c, hline d⟩
    · rw [List.getElem?_append_right h1] at h
      have hr0 : r = line.length := by
        have := (List.getElem?_eq_some_iff.mp h).1
        simp at this; omega
      subst hr0
      have : u = v := by simpa using h.symm
      subst this
      obtain ⟨i, p, r', h2, h3, h4⟩ := hb
      refine ⟨i, p, r', h2, h3, ?_⟩
      rcases h4 with ⟨a, b, c, d⟩ | ⟨a, b, c, d⟩
      · exact .inl ⟨a, b, c, hline d⟩
      · exact .inr ⟨a, b, c, hline d⟩
theorem ShutAt.mono {ps : List Pipe} {line line' : List Nat} {u i : Nat} (h : ShutAt ps line u i) (hs : ∀ v ∈ line, v ∈ line') : ShutAt ps line' u i := fun j p hj hp => by
  obtain ⟨a, b⟩ := h j p hj hp
  exact ⟨fun x y => hs _ (a x y), fun x y => hs _ (b x y)⟩
theorem ShutAt.next {ps : List Pipe} {line : List Nat} {u i : Nat} (h : ShutAt ps line u i) {p : Pipe} (hp : ps[i]? = some p) (h1 : p.fr = u → p.now < p.most → p.to ∈ line) (h2 : p.to = u → 0 < p.now → p.fr ∈ line) : ShutAt ps line u (i + 1) := fun j q hj hq => by
  by_cases e : j = i
  · subst e
    rw [hp] at hq; injection hq with hq; subst hq
    exact ⟨h1, h2⟩
  · exact h j q (by omega) hq
/-- All that is found. -/
structure FdOK (ps : List Pipe) (n : Nat) (byl : List Int) (line : List Nat) : Prop extends Fd ps n byl line where
  shut : ∀ u ∈ line, ShutAt ps line u ps.length

theorem FdOK.reached {ps : List Pipe} {n : Nat} {byl : List Int} {line : List Nat} (f : FdOK ps n byl line) (hf : Fits ps) (hin : ∀ p ∈ ps, p.fr < n ∧ p.to < n) {t : Nat} (ht : byl[t]? = some (-1 - (ps.length : Int))) : Reached 0 t (fun v => decide (v ∈ line)) ps where
  s := by simpa using List.mem_of_getElem? f.z2
  t := by simpa using fun h => (f.mem t _ ht).1 h rfl
  full p hp h1 h2 := by
    have h1 : p.fr ∈ line := by simpa using h1
    have h2 : p.to ∉ line := by simpa using h2
    obtain ⟨i, hi⟩ := List.getElem?_of_mem hp
    have := (f.shut _ h1 i p (List.getElem?_eq_some_iff.mp hi).1 hi).1 rfl
    have := hf p hp
    refine Classical.byContradiction fun hc => h2 (‹p.now < p.most → _› (by omega))
  none p hp h1 h2 := by
    have h1 : p.fr ∉ line := by simpa using h1
    have h2 : p.to ∈ line := by simpa using h2
    obtain ⟨i, hi⟩ := List.getElem?_of_mem hp
    have := (f.shut _ h2 i p (List.getElem?_eq_some_iff.mp hi).1 hi).2 rfl
    have := hf p hp
    refine Classical.byContradiction fun hc => h1 (‹0 < p.now → _› (by omega))

/-! ### The way to a place -/
/-- The pipes from place 0 to v, the last one first; true: in its direction. -/
inductive Way (ps : List Pipe) (byl : List Int) : Nat → List (Nat × Bool) → Prop
  | nil : Way ps byl 0 []
  | fwd {v i : Nat} {p : Pipe} {l : List (Nat × Bool)} : v ≠ 0 → byl[v]? = some (i : Int) → ps[i]? = some p → p.to = v → p.now < p.most → Way ps byl p.fr l → Way ps byl v ((i, true) :: l)
  | bwd {v i : Nat} {p : Pipe} {l : List (Nat × Bool)} : v ≠ 0 → byl[v]? = some (-1 - (i : Int)) → ps[i]? = some p → p.fr = v → 0 < p.now → Way ps byl p.to l → Way ps byl v ((i, false) :: l)

theorem _root_.List.Nodup.getElem?_inj' {l : List Nat} (h : l.Nodup) : ∀ {a b v : Nat}, l[a]? = some v → l[b]? = some v → a = b := by
  induction l with
  | nil => intro a b v h1; simp at h1
  | cons x l ih =>
    rw [List.nodup_cons] at h
    intro a b v h1 h2
    cases a with
    | zero => cases b with
      | zero => rfl
      | succ b =>
        simp at h1 h2
        subst h1
        exact absurd (List.mem_of_getElem? h2) h.1
    | succ a => cases b with
      | zero =>
        simp at h1 h2
        subst h2
        exact absurd (List.mem_of_getElem? h1) h.1
      | succ b => rw [ih h.2 (a := a) (b := b) (v := v) (by simpa using h1) (by simpa using h2)]
theorem Fd.way {ps : List Pipe} {n : Nat} {byl : List Int} {line : List Nat} (f : Fd ps n byl line) : ∀ (d r v : Nat), r ≤ d → line[r]? = some v → ∃ l, Way ps byl v l ∧ (l.map Prod.fst).Nodup ∧ ∀ i ∈ l.map Prod.fst, ∃ p, ps[i]? = some p ∧ ∃ r1 r2, r1 ≤ r ∧ r2 ≤ r ∧ line[r1]? = some p.fr ∧ line[r2]? = some p.to := by
  have inj : ∀ {a b v : Nat}, line[a]? = some v → line[b]? = some v → a = b := fun {a b v} h1 h2 => by
    exact f.nd.getElem?_inj' h1 h2
  intro d
  induction d with
  | zero =>
    intro r v hr h
    have : r = 0 := by omega
    subst this
    rw [f.z2] at h; injection h with h; subst h
    exact ⟨[], .nil, by simp, by simp⟩
  | succ d ih =>
    intro r v hr h
    by_cases e : r = 0
    · subst e
      rw [f.z2] at h; injection h with h; subst h
      exact ⟨[], .nil, by simp, by simp⟩
    · have hv0 : v ≠ 0 := fun c => by subst c; exact e (inj h f.z2)
      obtain ⟨i, p, r', h1, h2, h3⟩ := f.src r v h e
      rcases h3 with ⟨a, b, c, k⟩ | ⟨a, b, c, k⟩
      · obtain ⟨l, w, n1, n2⟩ := ih r' p.fr (by omega) k
        refine ⟨(i, true) :: l, .fwd hv0 a h1 b c w, ?_, ?_⟩
        · rw [List.map_cons, List.nodup_cons]
          refine ⟨fun hm => ?_, n1⟩
          obtain ⟨q, hq, r1, r2, g1, g2, g3, g4⟩ := n2 i hm
          rw [h1] at hq; injection hq with hq; subst hq
          rw [b] at g4
          have := inj g4 h
          omega
        · intro j hj
          rw [List.map_cons] at hj
          rcases List.mem_cons.1 hj with hj | hj
          · have hj : j = i := hj
            subst hj
            exact ⟨p, h1, r', r, by omega, Nat.le_refl _, k, by rw [b]; exact h⟩
          · obtain ⟨q, hq, r1, r2, g1, g2, g3, g4⟩ := n2 j hj
            exact ⟨q, hq, r1, r2, by omega, by omega, g3, g4⟩
      · obtain ⟨l, w, n1, n2⟩ := ih r' p.to (by omega) k
        refine ⟨(i, false) :: l, .bwd hv0 a h1 b c w, ?_, ?_⟩
        · rw [List.map_cons, List.nodup_cons]
          refine ⟨fun hm => ?_, n1⟩
          obtain ⟨q, hq, r1, r2, g1, g2, g3, g4⟩ := n2 i hm
          rw [h1] at hq; injection hq with hq; subst hq
          rw [b] at g3
          have := inj g3 h
          omega
        · intro j hj
          rw [List.map_cons] at hj
          rcases List.mem_cons.1 hj with hj | hj
          · have hj : j = i := hj
            subst hj
            exact ⟨p, h1, r, r', Nat.le_refl _, by omega, by rw [b]; exact h, k⟩
          · obtain ⟨q, hq, r1, r2, g1, g2, g3, g4⟩ := n2 j hj
            exact ⟨q, hq, r1, r2, by omega, by omega, g3, g4⟩

/-- How much more can go through a pipe. -/
def resid (ps : List Pipe) (e : Nat × Bool) : Int := match ps[e.1]? with
  | some p => if e.2 then p.most - p.now else p.now
  | none => 0
/-- The least of what can go, and m. -/
def least (ps : List Pipe) : Int → List (Nat × Bool) → Int
  | m, [] => m
  | m, e :: l => least ps (min m (resid ps e)) l
theorem least_le (ps : List Pipe) : ∀ (l : List (Nat × Bool)) (m : Int), least ps m l ≤ m ∧ ∀ e ∈ l, least ps m l ≤ resid ps e
  | [], m => ⟨Int.le_refl _, by simp⟩
  | e :: l, m => by
    obtain ⟨h1, h2⟩ := least_le ps l (min m (resid ps e))
    refine ⟨by unfold least; omega, fun x hx => ?_⟩
    rcases List.mem_cons.1 hx with hx | hx
    · subst hx; unfold least; omega
    · exact h2 x hx
theorem least_pos (ps : List Pipe) : ∀ (l : List (Nat × Bool)) (m : Int), 0 < m → (∀ e ∈ l, 0 < resid ps e) → 0 < least ps m l
  | [], m, h, _ => h
  | e :: l, m, h, hl => by
    have := hl e List.mem_cons_self
    exact least_pos ps l _ (by omega) fun x hx => hl x (List.mem_cons_of_mem _ hx)
theorem Way.resid_pos {ps : List Pipe} {byl : List Int} {v : Nat} {l : List (Nat × Bool)} (w : Way ps byl v l) : ∀ e ∈ l, 0 < resid ps e := by
  induction w with
  | nil => simp
  | fwd _ _ hp _ hlt _ ih =>
    intro e he
    rcases List.mem_cons.1 he with he | he
    · subst he; unfold resid; simp [hp]; omega
    · exact ih e he
  | bwd _ _ hp _ hlt _ ih =>
    intro e he
    rcases List.mem_cons.1 he with he | he
    · subst he; unfold resid; simp [hp]; omega
    · exact ih e he

/-- What has been sent along the way, from its end to the place at which it goes on. -/
structure Along (t : Nat) (m : Int) (ps qs : List Pipe) (v : Nat) (l : List (Nat × Bool)) : Prop where
  fits : Fits qs
  sent : Sent v t m ps qs
  rest : ∀ e ∈ l, qs[e.1]? = ps[e.1]?
theorem Along.fwd {t v i : Nat} {m : Int} {ps qs : List Pipe} {p : Pipe} {l : List (Nat × Bool)} (a : Along t m ps qs v ((i, true) :: l)) (hp : ps[i]? = some p) (hto : p.to = v) (hm0 : 0 ≤ m) (hm : m ≤ resid ps (i, true)) (hf : Fits ps) (hnd : (((i, true) :: l).map Prod.fst).Nodup) :
    Along t m ps (more qs i m) p.fr l := by
  have hq := a.rest (i, true) List.mem_cons_self
  dsimp only at hq
  rw [hp] at hq
  have hfp := hf p (List.mem_of_getElem? hp)
  unfold resid at hm
  rw [hp] at hm
  simp at hm
  refine ⟨a.fits.more hq (by omega) (by omega), a.sent.fwd hq hto, fun e he => ?_⟩
  rw [more_get hq, if_neg]
  · exact a.rest e (List.mem_cons_of_mem _ he)
  · intro c
    rw [List.map_cons, List.nodup_cons] at hnd
    exact hnd.1 (c ▸ (List.mem_map_of_mem (f := Prod.fst) he : e.1 ∈ l.map Prod.fst))
theorem Along.bwd {t v i : Nat} {m : Int} {ps qs : List Pipe} {p : Pipe} {l : List (Nat × Bool)} (a : Along t m ps qs v ((i, false) :: l)) (hp : ps[i]? = some p) (hfr : p.fr = v) (hm0 : 0 ≤ m) (hm : m ≤ resid ps (i, false)) (hf : Fits ps) (hnd : (((i, false) :: l).map Prod.fst).Nodup) :
    Along t m ps (more qs i (-m)) p.to l := by
  have hq := a.rest (i, false) List.mem_cons_self
  dsimp only at hq
  rw [hp] at hq
  have hfp := hf p (List.mem_of_getElem? hp)
  unfold resid at hm
  rw [hp] at hm
  simp at hm
  refine ⟨a.fits.more hq (by omega) (by omega), a.sent.bwd hq hfr, fun e he => ?_⟩
  rw [more_get hq, if_neg]
  · exact a.rest e (List.mem_cons_of_mem _ he)
  · intro c
    rw [List.map_cons, List.nodup_cons] at hnd
    exact hnd.1 (c ▸ (List.mem_map_of_mem (f := Prod.fst) he : e.1 ∈ l.map Prod.fst))
end Snow
namespace Snow

/-! ### Promises: one right after the other -/
/-- A pipe with another room. -/
def setMost (ps : List Pipe) (j : Nat) (x : Int) : List Pipe := match ps[j]? with
  | some p => ps.set j { p with most := x }
  | none => ps
theorem setMost_get {ps : List Pipe} {j : Nat} {p : Pipe} (h : ps[j]? = some p) (x : Int) (i : Nat) : (setMost ps j x)[i]? = if i = j then some { p with most := x } else ps[i]? := by
  unfold setMost
  rw [h]
  dsimp only
  rw [List.getElem?_set]
  by_cases e : i = j
  · subst e; rw [if_pos rfl, if_pos rfl, if_pos (List.getElem?_eq_some_iff.mp h).1]
  · rw [if_neg (fun a => e a.symm), if_neg e]
theorem setMost_LS {ps : List Pipe} {j : Nat} {p : Pipe} (h : ps[j]? = some p) (x : Int) (f : Pipe → Int) : LS (setMost ps j x) f = LS ps f - f p + f { p with most := x } := by
  unfold setMost
  rw [h]
  exact LS_set h f
theorem setMost_mem {ps : List Pipe} {j : Nat} {p : Pipe} (h : ps[j]? = some p) {x : Int} {q : Pipe} (hq : q ∈ setMost ps j x) : q = { p with most := x } ∨ q ∈ ps := by
  obtain ⟨i, hi⟩ := List.getElem?_of_mem hq
  rw [setMost_get h] at hi
  split at hi
  · injection hi with hi; exact .inl hi.symm
  · exact .inr (List.mem_of_getElem? hi)
theorem setMost_net {ps : List Pipe} {j : Nat} {p : Pipe} (h : ps[j]? = some p) (x : Int) (v : Nat) : net (setMost ps j x) v = net ps v := by
  unfold net
  rw [setMost_LS h]
  dsimp only; omega
theorem setMost_am {ps : List Pipe} {j : Nat} {p : Pipe} (h : ps[j]? = some p) (x : Int) (u v : Nat) : am (setMost ps j x) u v = am ps u v := by
  unfold am
  rw [setMost_LS h]
  dsimp only; omega
theorem setMost_fits {ps : List Pipe} {j : Nat} {p : Pipe} (hf : Fits ps) (h : ps[j]? = some p) {x : Int} (hx : p.now ≤ x) : Fits (setMost ps j x) := fun q hq => by
  rcases setMost_mem h hq with e | e
  · subst e
    have := hf p (List.mem_of_getElem? h)
    exact ⟨this.1, hx⟩
  · exact hf q e
theorem setMost_flows {s t : Nat} {ps : List Pipe} {j : Nat} {p : Pipe} (hf : Flows s t ps) (h : ps[j]? = some p) {x : Int} (hx : p.now ≤ x) : Flows s t (setMost ps j x) := by
  have := setMost_fits hf.fits h hx
  exact ⟨fun q hq => (this q hq).1, fun q hq => (this q hq).2, fun v h1 h2 => by rw [setMost_net h]; exact hf.keep v h1 h2⟩
theorem setMost_small {ps : List Pipe} {j : Nat} {p : Pipe} (hs : Small ps) (h : ps[j]? = some p) {x : Int} (hx : x ≤ 1152921504606846976) : Small (setMost ps j x) := fun q hq => by
  rcases setMost_mem h hq with e | e
  · subst e; exact hx
  · exact hs q e
theorem setMost_rows {ps : List Pipe} {out : List (List Nat)} {j : Nat} {p : Pipe} (hr : Rows ps out) (h : ps[j]? = some p) (x : Int) : Rows (setMost ps j x) out := fun v row hv k => by
  rw [hr v row hv k]
  constructor
  · rintro ⟨i, q, hq, hk⟩
    by_cases e : i = j
    · subst e
      rw [h] at hq; injection hq with hq; subst hq
      exact ⟨i, { p with most := x }, by rw [setMost_get h, if_pos rfl], hk⟩
    · exact ⟨i, q, by rw [setMost_get h, if_neg e]; exact hq, hk⟩
  · rintro ⟨i, q, hq, hk⟩
    rw [setMost_get h] at hq
    split at hq
    · rename_i e
      subst e
      injection hq with hq
      subst hq
      exact ⟨i, p, h, hk⟩
    · exact ⟨i, q, hq, hk⟩
theorem setMost_shut {W : Nat → Prop} {ps : List Pipe} {j : Nat} {p : Pipe} (hs : Shut W ps) (h : ps[j]? = some p) (h1 : p.to = 1) (h2 : ¬ W 1) (x : Int) : Shut W (setMost ps j x) := fun q hq => by
  rcases setMost_mem h hq with e | e
  · subst e
    exact ⟨fun _ _ a => absurd h1 a, fun a => absurd (h1 ▸ a) h2⟩
  · exact hs q e
theorem arcs_setMost {ps : List Pipe} {j : Nat} {p : Pipe} (h : ps[j]? = some p) (x : Int) : arcsOf (setMost ps j x) = (arcsOf ps).set (2 * j) ⟨p.to, x - p.now, 2 * j + 1⟩ := by
  have hj := (List.getElem?_eq_some_iff.mp h).1
  apply List.ext_getElem?
  intro k
  rw [List.getElem?_set, arcs_len]
  rcases Nat.mod_two_eq_zero_or_one k with e | e
  · obtain ⟨m, rfl⟩ : ∃ m, k = 2 * m := ⟨k / 2, by omega⟩
    rw [arcs_even, setMost_get h]
    by_cases hm : m = j
    · subst hm
      rw [if_pos rfl, if_pos rfl, if_pos (by omega)]
      simp
    · rw [if_neg hm, if_neg (by omega), arcs_even]
  · obtain ⟨m, rfl⟩ : ∃ m, k = 2 * m + 1 := ⟨k / 2, by omega⟩
    rw [if_neg (show ¬ 2 * j = 2 * m + 1 by omega), arcs_odd, arcs_odd, setMost_get h]
    by_cases hm : m = j
    · subst hm
      rw [if_pos rfl, h]
      rfl
    · rw [if_neg hm]

/-- The laid pipes, with the ends of the rights known. -/
structure LaidE (I : Inst) (l : Nat → Int) (E : Int) (ends : List Nat) (ps : List Pipe) : Prop where
  laid : Laid I 0 1 2 l ps
  wide : ∀ i k, i < I.n → k < I.m → I.win k i = true → ∃ p ∈ ps, p.fr = 2 + i ∧ p.to = 2 + I.n + k ∧ E ≤ p.most
  ends : ∀ k, k < I.m → ∃ j p, ends[k]? = some (2 * j) ∧ ps[j]? = some p ∧ p.fr = 2 + I.n + k ∧ p.to = 1 ∧ p.most = l k
  lE : ∀ k, k < I.m → l k ≤ E

theorem cap_alike {ps qs : List Pipe} (a : Alike2 ps qs) (u v : Nat) : cap qs u v = cap ps u v := LS_alike a _ fun p q h1 h2 h3 => by rw [h1, h2, h3]
theorem Laid.alike {I : Inst} {s t sg : Nat} {l : Nat → Int} {ps qs : List Pipe} (L : Laid I s t sg l ps) (a : Alike2 ps qs) : Laid I s t sg l qs where
  hs := L.hs
  ht := L.ht
  kinds q hq := by
    obtain ⟨p, hp, h1, h2, _⟩ := a.mem hq
    rw [h1, h2]
    exact L.kinds p hp
  cs i hi := by rw [cap_alike a]; exact L.cs i hi
  cr i hi := by rw [cap_alike a]; exact L.cr i hi
  ct k hk := by rw [cap_alike a]; exact L.ct k hk
  cw i k hi hk hw := by
    obtain ⟨p, hp, h1, h2, h3⟩ := L.cw i k hi hk hw
    obtain ⟨j, hj⟩ := List.getElem?_of_mem hp
    obtain ⟨q, hq, g1, g2, g3⟩ := a.get hj
    exact ⟨q, List.mem_of_getElem? hq, by rw [g1, h1], by rw [g2, h2], by rw [g3]; exact h3⟩
  r0 := L.r0
theorem LaidE.alike {I : Inst} {l : Nat → Int} {E : Int} {ends : List Nat} {ps qs : List Pipe} (L : LaidE I l E ends ps) (a : Alike2 ps qs) : LaidE I l E ends qs where
  laid := L.laid.alike a
  wide i k hi hk hw := by
    obtain ⟨p, hp, h1, h2, h3⟩ := L.wide i k hi hk hw
    obtain ⟨j, hj⟩ := List.getElem?_of_mem hp
    obtain ⟨q, hq, g1, g2, g3⟩ := a.get hj
    exact ⟨q, List.mem_of_getElem? hq, by rw [g1, h1], by rw [g2, h2], by rw [g3]; exact h3⟩
  ends k hk := by
    obtain ⟨j, p, h1, h2, h3, h4, h5⟩ := L.ends k hk
    obtain ⟨q, hq, g1, g2, g3⟩ := a.get h2
    exact ⟨j, q, h1, hq, by rw [g1, h3], by rw [g2, h4], by rw [g3, h5]⟩
  lE := L.lE
def upd (l : Nat → Int) (k : Nat) (x : Int) : Nat → Int := fun j => if j = k then x else l j
/-- The end of a right with another room. -/
theorem LaidE.setMost {I : Inst} {l : Nat → Int} {E : Int} {ends : List Nat} {ps : List Pipe} (L : LaidE I l E ends ps) {k j : Nat} {p : Pipe} (hk : k < I.m) (hj : ends[k]? = some (2 * j)) (hp : ps[j]? = some p) {x : Int} (hx : x ≤ E) : LaidE I (upd l k x) E ends (setMost ps j x) := by
  have hs := L.laid.hs
  have ht := L.laid.ht
  obtain ⟨j', p', e1, e2, e3, e4, e5⟩ := L.ends k hk
  have : j' = j := by rw [hj] at e1; injection e1; omega
  subst this
  rw [hp] at e2; injection e2 with e2; subst e2
  have other : ∀ q ∈ ps, (q.fr ≠ 2 + I.n + k ∨ q.to ≠ 1) → q ∈ Snow.setMost ps j' x := fun q hq hne => by
    obtain ⟨i, hi⟩ := List.getElem?_of_mem hq
    have : i ≠ j' := fun c => by
      subst c
      rw [hp] at hi; injection hi with hi; subst hi
      rcases hne with h | h
      · exact h e3
      · exact h e4
    exact List.mem_of_getElem? (i := i) (by rw [setMost_get hp, if_neg this]; exact hi)
  have capne : ∀ u v, (p.fr ≠ u ∨ p.to ≠ v) → cap (Snow.setMost ps j' x) u v = cap ps u v := fun u v h => by
    unfold cap
    rw [setMost_LS hp, if_neg (fun c => by rcases h with h | h; exact h c.1; exact h c.2), if_neg (fun c => by rcases h with h | h; exact h c.1; exact h c.2)]
    omega
  refine ⟨⟨hs, ht, fun q hq => ?_, fun i hi => ?_, fun i hi => ?_, fun k' hk' => ?_, fun i k' hi hk' hw => ?_, L.laid.r0⟩, fun i k' hi hk' hw => ?_, fun k' hk' => ?_, fun k' hk' => ?_⟩
  · rcases setMost_mem hp hq with e | e
    · subst e; exact L.laid.kinds p (List.mem_of_getElem? hp)
    · exact L.laid.kinds q e
  · rw [capne _ _ (.inl (by omega))]; exact L.laid.cs i hi
  · rw [capne _ _ (.inl (by omega))]; exact L.laid.cr i hi
  · unfold upd
    by_cases e : k' = k
    · subst e
      rw [if_pos rfl]
      have := L.laid.ct k' hk'
      unfold cap at this ⊢
      rw [setMost_LS hp, this, if_pos ⟨e3, e4⟩, if_pos ⟨e3, e4⟩]
      dsimp only; omega
    · rw [if_neg e, capne _ _ (.inl (by omega))]; exact L.laid.ct k' hk'
  · obtain ⟨q, hq, h1, h2, h3⟩ := L.wide i k' hi hk' hw
    refine ⟨q, other q hq (.inl (by omega)), h1, h2, ?_⟩
    unfold upd
    split
    · omega
    · have := L.lE k' hk'; omega
  · obtain ⟨q, hq, h1, h2, h3⟩ := L.wide i k' hi hk' hw
    exact ⟨q, other q hq (.inl (by omega)), h1, h2, h3⟩
  · obtain ⟨i, q, h1, h2, h3, h4, h5⟩ := L.ends k' hk'
    by_cases e : k' = k
    · subst e
      have : i = j' := by rw [hj] at h1; injection h1; omega
      subst this
      exact ⟨i, { p with most := x }, h1, by rw [setMost_get hp, if_pos rfl], e3, e4, by simp [upd]⟩
    · have : i ≠ j' := fun c => by
        subst c
        rw [hp] at h2; injection h2 with h2; subst h2
        omega
      exact ⟨i, q, h1, by rw [setMost_get hp, if_neg this]; exact h2, h3, h4, by simp [upd, e, h5]⟩
  · unfold upd
    split
    · exact hx
    · exact L.lE k' hk'
/-- The only pipe from a right to the sink. -/
theorem LaidE.end_now {I : Inst} {l : Nat → Int} {E : Int} {ends : List Nat} {ps : List Pipe} (L : LaidE I l E ends ps) (hf : Fits ps) {k j : Nat} {p : Pipe} (hk : k < I.m) (hj : ends[k]? = some (2 * j)) (hp : ps[j]? = some p) : p.fr = 2 + I.n + k ∧ p.to = 1 ∧ p.most = l k ∧ am ps (2 + I.n + k) 1 = p.now := by
  obtain ⟨j', p', e1, e2, e3, e4, e5⟩ := L.ends k hk
  have : j' = j := by rw [hj] at e1; injection e1; omega
  subst this
  rw [hp] at e2; injection e2 with e2; subst e2
  refine ⟨e3, e4, e5, ?_⟩
  have h1 : LS ps (fun q => if q.fr = 2 + I.n + k ∧ q.to = 1 then q.most - q.now else 0) = cap ps (2 + I.n + k) 1 - am ps (2 + I.n + k) 1 := by
    unfold cap am
    rw [← LS_sub]
    exact LS_congr fun q _ => by split <;> omega
  have h2 := LS_member (f := fun q => if q.fr = 2 + I.n + k ∧ q.to = 1 then q.most - q.now else 0) (fun q hq => by have := hf q hq; (try dsimp only); split <;> omega) (List.mem_of_getElem? hp)
  (try dsimp only at h2)
  rw [if_pos ⟨e3, e4⟩, h1, L.laid.ct k hk, e5] at h2
  have h3 := LS_member (f := fun q => if q.fr = 2 + I.n + k ∧ q.to = 1 then q.now else 0) (fun q hq => by have := hf q hq; (try dsimp only); split <;> omega) (List.mem_of_getElem? hp)
  (try dsimp only at h3)
  rw [if_pos ⟨e3, e4⟩] at h3
  unfold am at h2 ⊢
  omega

/-- One claim more: at most so much more can be taken. -/
theorem IsMax.le_step {I : Inst} {c : Nat → Int} (h0 : ∀ k, k < I.m → 0 ≤ c k) {k : Nat} (hk : k < I.m) {v v' : Int} (h : IsMax I (upTo c k) v) (h' : IsMax I (upTo c (k + 1)) v') : v' ≤ v + c k := by
  obtain ⟨_, X, Y, cl, hc⟩ := h
  have h3 := h'.le_cut cl
  have h4 : S I.m (fun j => if Y j then 0 else upTo c (k + 1) j) ≤ S I.m (fun j => if Y j then 0 else upTo c k j) + S I.m (fun j => upTo c (k + 1) j - upTo c k j) := by
    rw [← S_add]
    refine S_le fun j hj => ?_
    have := h0 j hj
    simp only [upTo]
    split <;> split <;> split <;> omega
  rw [S_sub, S_upTo c (show k + 1 ≤ I.m by omega), S_upTo c (show k ≤ I.m by omega)] at h4
  unfold cutOf at *
  simp only [S] at *
  omega

/-- Behind the first k rights. -/
structure PS (I : Inst) (c : Nat → Int) (E : Int) (ends : List Nat) (k : Nat) (ps : List Pipe) (p : Nat → Int) : Prop where
  le : k ≤ I.m
  laid : LaidE I (upTo p k) E ends ps
  flows : Flows 0 1 ps
  took : ∀ j, j < k → am ps (2 + I.n + j) 1 = p j
  shut : ∃ W : Nat → Prop, W 0 ∧ ¬ W 1 ∧ Shut W ps ∧ ∀ j, j < k → W (2 + I.n + j) → p j = c j
  most : ∀ j, j ≤ k → IsMax I (upTo c j) (S j p)

theorem PS.start {I : Inst} {c : Nat → Int} {E : Int} {ends : List Nat} {ps : List Pipe} (L : LaidE I (fun _ => 0) E ends ps) (h0 : ∀ q ∈ ps, q.now = 0) (hm : ∀ q ∈ ps, 0 ≤ q.most) (p : Nat → Int) : PS I c E ends 0 ps p where
  le := Nat.zero_le _
  laid := by
    have : upTo p 0 = fun _ => 0 := by funext j; simp [upTo]
    rw [this]; exact L
  flows := ⟨fun q hq => by rw [h0 q hq]; exact Int.le_refl _, fun q hq => by rw [h0 q hq]; exact hm q hq, fun v _ _ => LS_zero fun q hq => by rw [h0 q hq]; simp⟩
  took j hj := by omega
  shut := ⟨fun v => v ≠ 1, by decide, fun h => h rfl, fun q _ => ⟨fun _ a b => absurd b a, fun _ a b => absurd b a⟩, fun j hj => by omega⟩
  most j hj := by
    have : j = 0 := by omega
    subst this
    have hb : bound I (fun _ => false) = 0 := S_eq_zero fun i _ => by simp
    refine ⟨⟨⟨fun _ => 0, fun _ => 0, fun _ _ => 0⟩, ⟨fun _ _ => Int.le_refl _, fun i hi => ?_, fun _ _ => Int.le_refl _, fun i hi => L.laid.r0 i hi, Int.le_refl _, rfl, fun _ _ _ _ => Int.le_refl _, fun _ _ _ _ _ => rfl, fun i hi => by simp [S_zero]⟩, fun k _ => by simp [Fl.took, S_zero, upTo], ?_⟩, fun _ => false, fun _ => false, fun _ _ _ _ h => by simp at h, ?_⟩
    · rw [← L.laid.cs i hi]
      exact LS_nonneg fun q hq => by have := hm q hq; (try dsimp only); split <;> omega
    · show S I.m (fun k => S I.n fun i => 0) = S 0 p
      rw [S_eq_zero fun k _ => S_zero _]; rfl
    · unfold cutOf
      rw [hb, S_eq_zero fun k _ => by simp [upTo]]
      rfl

/-- One right more. -/
theorem PS.step {I : Inst} {c : Nat → Int} {E : Int} {ends : List Nat} {k : Nat} {ps qs : List Pipe} {p : Nat → Int} (h : PS I c E ends k ps p) (hk : k < I.m) (hc0 : 0 ≤ c k) (hcE : c k ≤ E) (hcw : ∀ j, j < I.m → 0 ≤ c j) (hcl : ∀ j, j < I.m → c j < E) {j : Nat} {q r : Pipe} (hj : ends[k]? = some (2 * j)) (hq : ps[j]? = some q) {t : Int} (hP : Pushed (setMost ps j (c k)) t qs) (hr : qs[j]? = some r) {R : Nat → Bool} (hR : Reached 0 1 R qs)
    (hRW : ∀ W : Nat → Prop, W 0 → ¬ W 1 → Shut W qs → ∀ v, R v = true → W v) : PS I c E ends (k + 1) (setMost qs j r.now) (upd p k t) := by
  have hfit := h.flows.fits
  obtain ⟨q1, q2, q3, q4⟩ := h.laid.end_now hfit hk hj hq
  have hq0 : q.now = 0 := by
    have a := hfit q (List.mem_of_getElem? hq)
    rw [q3] at a
    simp [upTo] at a
    omega
  have L1 := h.laid.setMost hk hj hq hcE
  have F1 : Flows 0 1 (setMost ps j (c k)) := setMost_flows h.flows hq (by omega)
  have L2 := L1.alike hP.sent.like
  have F2 : Flows 0 1 qs := ⟨fun x hx => (hP.fits x hx).1, fun x hx => (hP.fits x hx).2, fun v h1 h2 => by
    rw [hP.sent.net, F1.keep v h1 h2, if_neg (fun c => h1 c.symm), if_neg (fun c => h2 c.symm)]; rfl⟩
  have L3 := L2.setMost hk hj hr (x := r.now) (by
    have a := hP.fits r (List.mem_of_getElem? hr)
    obtain ⟨_, _, b, _⟩ := L2.end_now hP.fits hk hj hr
    rw [b] at a
    simp [upd] at a
    omega)
  obtain ⟨r1, r2, r3, r4⟩ := L2.end_now hP.fits hk hj hr
  -- what each right takes
  have took1 : ∀ i, i < I.m → (flOf I 0 2 (setMost ps j (c k))).took I i = am ps (2 + I.n + i) 1 := fun i hi => by
    rw [L1.laid.tookEnd F1 hi, setMost_am hq]
  have took2 : ∀ i, i < I.m → (flOf I 0 2 qs).took I i = am qs (2 + I.n + i) 1 := fun i hi => L2.laid.tookEnd F2 hi
  have v1 := L1.laid.value F1
  have v2 := L2.laid.value F2
  have hnet := hP.sent.net 1
  rw [if_neg (by decide), if_pos rfl] at hnet
  have amle : ∀ i, i < I.m → am qs (2 + I.n + i) 1 ≤ upd (upTo p k) k (c k) i := fun i hi => by
    rw [← L2.laid.ct i hi]; exact am_cap hP.fits _ _
  have am0 : ∀ i, i < I.m → k < i → am ps (2 + I.n + i) 1 = 0 := fun i hi hki => by
    have a := am_low hfit (2 + I.n + i) 1
    have b := am_cap hfit (2 + I.n + i) 1
    rw [h.laid.laid.ct i hi] at b
    unfold upTo at b
    rw [if_neg (by omega)] at b
    omega
  have am1 : ∀ i, i < I.m → k < i → am qs (2 + I.n + i) 1 = 0 := fun i hi hki => by
    have a := am_low hP.fits (2 + I.n + i) 1
    have b := amle i hi
    unfold upd upTo at b
    rw [if_neg (by omega), if_neg (by omega)] at b
    omega
  have amUp : ∀ i, i < I.m → am ps (2 + I.n + i) 1 ≤ am qs (2 + I.n + i) 1 := fun i hi => by
    obtain ⟨j', x, e1, e2, e3, e4, _⟩ := L1.ends i hi
    obtain ⟨y, f1, _⟩ := hP.sent.like.get e2
    have a := (L1.end_now (setMost_fits hfit hq (by omega)) hi e1 e2).2.2.2
    have b := (L2.end_now hP.fits hi e1 f1).2.2.2
    rw [setMost_am hq] at a
    rw [a, b]
    exact hP.up j' x y e2 f1 e4
  have amk : ∀ i, i < k → am qs (2 + I.n + i) 1 = p i := fun i hi => by
    have a := amUp i (by omega)
    rw [h.took i hi] at a
    have b := amle i (by omega)
    unfold upd upTo at b
    rw [if_neg (by omega), if_pos hi] at b
    omega
  have hsum : S I.m ((flOf I 0 2 qs).took I) = S I.m ((flOf I 0 2 (setMost ps j (c k))).took I) + t := by omega
  have amt : am qs (2 + I.n + k) 1 = t := by
    have e1 : S I.m ((flOf I 0 2 qs).took I) = S I.m (fun i => am qs (2 + I.n + i) 1) := S_congr took2
    have e2 : S I.m ((flOf I 0 2 (setMost ps j (c k))).took I) = S I.m (fun i => am ps (2 + I.n + i) 1) := S_congr took1
    have e3 : S I.m (fun i => am qs (2 + I.n + i) 1) = S I.m (fun i => am ps (2 + I.n + i) 1) + S I.m (fun i => if i = k then am qs (2 + I.n + k) 1 else 0) := by
      rw [← S_add]
      refine S_congr fun i hi => ?_
      by_cases e : i = k
      · subst e
        rw [if_pos rfl, q4, hq0]; omega
      · rw [if_neg e]
        rcases Nat.lt_or_ge i k with h1 | h1
        · rw [amk i h1, h.took i h1]; omega
        · rw [am0 i hi (by omega), am1 i hi (by omega)]; rfl
    rw [S_one hk] at e3
    omega
  have sumS : S I.m ((flOf I 0 2 qs).took I) = S (k + 1) (upd p k t) := by
    rw [S_congr took2, S_split I.m (k + 1) (by omega), S_eq_zero (n := I.m - (k + 1)) fun i hi => am1 _ (by omega) (by omega), Int.add_zero]
    refine S_congr fun i hi => ?_
    unfold upd
    split
    · rename_i e; subst e; exact amt
    · exact amk i (by omega)
  obtain ⟨W, w0, w1, w2, w3⟩ := h.shut
  have shut1 := hP.shut W (setMost_shut w2 hq q2 w1 _) w0 w1
  have RW := hRW W w0 w1 shut1
  refine ⟨by omega, ?_, setMost_flows F2 hr (Int.le_refl _), fun i hi => ?_, ?_, fun i hi => ?_⟩
  · -- the rooms of the ends
    have : upd (upd (upTo p k) k (c k)) k r.now = upTo (upd p k t) (k + 1) := by
      funext i
      unfold upd upTo
      by_cases e : i = k
      · subst e
        simp
        rw [← r4, amt]
      · simp only [if_neg e]
        by_cases e2 : i < k
        · rw [if_pos e2, if_pos (by omega)]
        · rw [if_neg e2, if_neg (by omega)]
    rw [← this]
    exact L3
  · rw [setMost_am hr]
    unfold upd
    split
    · rename_i e; subst e; exact amt
    · exact amk i (by omega)
  · have nR1 : ¬ R 1 = true := by rw [hR.t]; simp
    refine ⟨fun v => R v = true, hR.s, nR1, fun x hx => ?_, fun i hi hRi => ?_⟩
    · rcases setMost_mem hr hx with e | e
      · subst e
        exact ⟨fun _ _ a => absurd r2 a, fun a => by dsimp only at a; rw [r2, hR.t] at a; cases a⟩
      · exact ⟨fun a b _ => hR.full x e a (by simpa using b), fun a b _ => hR.none x e (by simpa using b) a⟩
    · unfold upd
      split
      · rename_i e
        subst e
        have := hR.full r (List.mem_of_getElem? hr) (by rw [r1]; exact hRi) (by rw [r2]; exact hR.t)
        rw [← amt, r4, this, r3]
        simp [upd]
      · exact w3 i (by omega) (RW _ hRi)
  · by_cases e : i ≤ k
    · have a := h.most i e
      have : S i (upd p k t) = S i p := S_congr fun x hx => by unfold upd; rw [if_neg (by omega)]
      rw [this]; exact a
    · have : i = k + 1 := by omega
      subst this
      rw [← sumS]
      refine L2.laid.isMax2 F2 hR (fun i hi => ?_) fun i hi hy => ?_
      · unfold upd upTo
        by_cases e : i = k
        · subst e; simp
        · rw [if_neg e]
          by_cases e2 : i < k
          · rw [if_pos e2, if_pos (by omega)]
            have a := h.took i e2
            -- what is promised is at most what is claimed
            have b := (h.most (i + 1) (by omega))
            have b0 := h.most i (by omega)
            have c1 := IsMax.le_step hcw (by omega : i < I.m) b0 b
            simp only [S] at c1
            omega
          · rw [if_neg e2, if_neg (by omega)]; exact Int.le_refl _
      · obtain ⟨x, hx, hw, hRx⟩ := cutY_f hy
        obtain ⟨y, hy1, hy2, hy3, hy4⟩ := L2.wide x i hx hi hw
        have hRi : R (2 + I.n + i) = true := by
          cases hc : R (2 + I.n + i) with
          | true => rfl
          | false =>
            exfalso
            have a := hR.full y hy1 (by rw [hy2]; exact hRx) (by rw [hy3]; exact hc)
            have b : (if y.fr = 2 + x ∧ y.to = 2 + I.n + i then y.now else 0) ≤ am qs (2 + x) (2 + I.n + i) := LS_member (f := fun z => if z.fr = 2 + x ∧ z.to = 2 + I.n + i then z.now else 0) (fun z hz => by
              have := hP.fits z hz
              (try dsimp only); split <;> omega) hy1
            rw [if_pos ⟨hy2, hy3⟩] at b
            have d : am qs (2 + x) (2 + I.n + i) ≤ (flOf I 0 2 qs).took I i := S_ge_one (f := fun z => am qs (2 + z) (2 + I.n + i)) (fun z _ => am_low hP.fits _ _) hx
            rw [took2 i hi] at d
            have g := amle i hi
            have g2 : upd (upTo p k) k (c k) i ≤ c i := by
              unfold upd upTo
              split
              · rename_i e; rw [e]; exact Int.le_refl _
              · split
                · rename_i e2
                  have b := (h.most (i + 1) (by omega))
                  have b0 := h.most i (by omega)
                  have c1 := IsMax.le_step hcw hi b0 b
                  simp only [S] at c1
                  omega
                · exact hcw i hi
            have := hcl i hi
            omega
        unfold upd upTo
        by_cases e : i = k
        · subst e; simp
        · rw [if_neg e]
          by_cases e2 : i < k
          · rw [if_pos e2, if_pos (by omega)]
            exact (w3 i e2 (RW _ hRi)).symm
          · rw [if_neg e2, if_neg (by omega)]

theorem PS.promised {I : Inst} {c : Nat → Int} {E : Int} {ends : List Nat} {ps : List Pipe} {p : Nat → Int} (h : PS I c E ends I.m ps p) : Promised I c p where
  most := h.most
  flow := ⟨flOf I 0 2 ps, h.laid.laid.good h.flows, fun k hk => by rw [h.laid.laid.tookEnd h.flows hk, h.took k hk]⟩

/-- What is reached lies in every shut set. -/
theorem LevOK.inside {out : List (List Nat)} {ps : List Pipe} {lev : List Int} (L : LevOK out (arcsOf ps) lev) (hr : Rows ps out) {s : Int} (hs : lev[1]? = some s) (h0 : s < 0) {W : Nat → Prop} (w0 : W 0) (hW : Shut W ps) : ∀ v, decide (0 ≤ lev.getD v (-1)) = true → W v := by
  have all : ∀ (d v : Nat) (y : Int), lev[v]? = some y → 0 ≤ y → y.toNat = d → W v := by
    intro n
    induction n with
    | zero =>
      intro v y hv hy hd
      by_cases e : v = 0
      · subst e; exact w0
      · obtain ⟨u, row, k, a, _, h2, _⟩ := L.pred v y hv hy e
        omega
    | succ n ih =>
      intro v y hv hy hd
      by_cases e : v = 0
      · subst e; exact w0
      · obtain ⟨u, row, k, a, h1, h2, h3, h4, h5, h6, h7⟩ := L.pred v y hv hy e
        have hu := ih u (y - 1) h1 h2 (by omega)
        obtain ⟨i, p, hp, hk⟩ := (hr u row h3 k).1 h4
        have hv1 : v ≠ 1 := fun c => by subst c; rw [hs] at hv; injection hv; omega
        obtain ⟨i', p', hp', hk'⟩ := arc_cases h5
        have : i' = i := by omega
        subst this
        rw [hp] at hp'; injection hp' with hp'; subst hp'
        have hm := hW p (List.mem_of_getElem? hp)
        refine Classical.byContradiction fun hn => h6 ?_
        rcases hk with ⟨ek, eu⟩ | ⟨ek, eu⟩
        · rcases hk' with ⟨_, ea⟩ | ⟨ek', _⟩
          · subst ea
            dsimp only at *
            have := hm.1 (eu ▸ hu) (h7 ▸ hn) (h7 ▸ hv1)
            omega
          · omega
        · rcases hk' with ⟨ek', _⟩ | ⟨_, ea⟩
          · omega
          · subst ea
            dsimp only at *
            exact hm.2 (eu ▸ hu) (h7 ▸ hn) (h7 ▸ hv1)
  intro v hv
  have hv : 0 ≤ lev.getD v (-1) := by simpa using hv
  rw [List.getD_eq_getElem?_getD] at hv
  cases hx : lev[v]? with
  | none => rw [hx] at hv; simp at hv
  | some y => rw [hx] at hv; exact all _ v y hx hv rfl
end Snow
end
