/- Walks: the specification's flow. -/
import Derived.Test.YtlkbcjhemhmfoaaGreatDoorWq2
set_option linter.unusedSimpArgs false
set_option linter.unusedVariables false
namespace Go.AM
open Go Go.Proofs
open Snow (Pipe FdOK Fits Sent Reached Along capOut)
set_option maxRecDepth 10000
set_option maxHeartbeats 1000000

theorem sent_trans {u t : Nat} {x y : Int} {ps qs rs : List Pipe} (a : Sent u t x ps qs) (b : Sent u t y qs rs) : Sent u t (x + y) ps rs := ⟨fun v => by rw [b.net, a.net]; (repeat' split) <;> omega, a.like.trans b.like⟩
theorem sent_zero (u t : Nat) (ps : List Pipe) : Sent u t 0 ps ps := ⟨fun v => by (repeat' split) <;> omega, .refl _⟩
theorem more_eq {ps : List Pipe} {i : Nat} {p : Pipe} (h : ps[i]? = some p) (x : Int) : Snow.more ps i x = ps.set i { p with now := p.now + x } := by unfold Snow.more; rw [h]
/-- What flow comes to. -/
structure FlowRes (ps : List Pipe) (N : Nat) (sum : Int) (qs : List Pipe) : Prop where
  s0 : 0 ≤ sum
  fits : Fits qs
  sent : Sent 0 (N - 1) sum ps qs
  reach : ∃ R, Reached 0 (N - 1) R qs
theorem sent_bound {ps qs : List Pipe} {t : Nat} {x : Int} (ht : t ≠ 0) (h : Sent 0 t x ps qs) (f : Fits qs) : x ≤ capOut ps - Snow.net ps 0 := by
  have h1 := Snow.net_le_cap f
  rw [h.like.capOut, h.net, if_pos rfl, if_neg ht] at h1
  omega

theorem c_flow (ps : List Pipe) (N : Nat) (f0 : Bool) (h0 : 2 ≤ N) (hN : N < 90000000000) (hpl : ps.length < 90000000000) (hin : ∀ p ∈ ps, p.fr < N ∧ p.to < N) (hf : Fits ps) (hs : ∀ p ∈ ps, p.most ≤ 1152921504606846976) (hn0 : 0 ≤ Snow.net ps 0) (hc : capOut ps ≤ 1152921504606846976) :
    Ct envB 129 [slA 0 0 ps.length f0 4, iA N] [⟨0, true, none, .raw (arr pipC ps)⟩] 1 { r : Int × List Pipe × List Int // FlowRes ps N r.1 r.2.1 } (fun a => .tup [(false, [.int .i64 a.1.1]), (false, [.sl (some (1, 0)) N false 1])]) (fun a => [⟨0, true, none, .raw (arr pipC a.1.2.1)⟩, ⟨1, true, none, .raw (arr iC a.1.2.2)⟩]) (fun _ => 2) := by
  have hwN : IntKind.wrap .i64 ((N : Int) - 1) = ((N - 1 : Nat) : Int) := by rw [w64_id (by omega) (by omega)]; omega
  refine Ct.of zB (fn := Tryz.f129) (by kernel_rfl) (by kernel_rfl) rfl rfl ?_
  refine Rn.loop zB 1000 rfl (T := Int × List Pipe) (fun t => (capOut ps - t.1).toNat) (fun t => 0 ≤ t.1 ∧ Fits t.2 ∧ Sent 0 (N - 1) t.1 ps t.2) (fun t => [(6, iA t.1), (1, iA N), (0, slA 0 0 ps.length f0 4)]) (fun t => [⟨0, true, none, .raw (arr pipC t.2)⟩]) (fun _ => 1) ((0, ps)) [some 0] (⟨Int.le_refl _, hf, sent_zero 0 (N - 1) ps⟩) ⟨rfl, rfl, rfl, rfl, rfl, by (repeat' first | exact trivial | exact rfl | exact Or.inl (And.intro rfl rfl) | exact wsucc _ (by omega) | exact wlin (by first | omega | (push_cast; omega)) (by omega) | exact wint (by omega) (by omega) | refine And.intro ?_ ?_ | refine Or.inr ?_), by (repeat' first | exact trivial | exact rfl | exact (by decide) | exact zerosI _ | exact zerosN _ | exact OfRaw.rows (by omega) | exact Or.inl (And.intro rfl rfl) | refine And.intro ?_ ?_ | refine Exists.intro _ (Exists.intro _ (And.intro rfl (And.intro (by decide) ?_))))⟩ ?_
  rintro ⟨sum, qs⟩ ⟨hs0, hfq, hS⟩
  dsimp only at hs0 hfq hS
  have hql : qs.length = ps.length := hS.like.1
  have hinq : ∀ p ∈ qs, p.fr < N ∧ p.to < N := fun q hq => by
    obtain ⟨p, hp, e1, e2, _⟩ := hS.like.mem hq
    rw [e1, e2]; exact hin p hp
  have hsq : ∀ p ∈ qs, p.most ≤ 1152921504606846976 := fun q hq => by
    obtain ⟨p, hp, _, _, e3⟩ := hS.like.mem hq
    rw [e3]; exact hs p hp
  have hsb := sent_bound (by omega) hS hfq
  have c := c_found qs N f0 (by omega) hN (by omega) hinq
  rw [hql] at c
  refine Rn.call zB 1000 rfl (c) [some 0] rfl (by (repeat' first | exact trivial | exact rfl | exact Or.inl (And.intro rfl rfl) | exact wsucc _ (by omega) | exact wlin (by first | omega | (push_cast; omega)) (by omega) | exact wint (by omega) (by omega) | refine And.intro ?_ ?_ | refine Or.inr ?_)) (by (repeat' first | exact trivial | exact rfl | exact (by decide) | exact zerosI _ | exact zerosN _ | exact OfRaw.rows (by omega) | exact Or.inl (And.intro rfl rfl) | refine And.intro ?_ ?_ | refine Exists.intro _ (Exists.intro _ (And.intro rfl (And.intro (by decide) ?_))))) rfl rfl rfl ?_
  rintro ⟨⟨byl, line⟩, F⟩
  refine ⟨_, _, rfl, ?_⟩
  dsimp only at F
  obtain ⟨x, hx⟩ : ∃ x, byl[N - 1]? = some x := ⟨byl[N - 1]'(by rw [F.len]; omega), List.getElem?_eq_getElem _⟩
  refine Rn.ask zB 1000 rfl ⟨by first | omega | (dsimp only; omega), by first | omega | (dsimp only; omega)⟩ ?_
  refine Rn.loadR zB 1000 rfl (LoadR.fld eI (f := 0) (v := .int .i64 x) hx (by rw [hwN]; simp) rfl rfl) ?_
  refine Rn.split zB 1000 rfl (fun hend => ?_) (fun hend => ?_)
  · have hend : x = -1 - (qs.length : Int) := by
      rw [w64_id (by omega) (by omega)] at hend
      simp at hend; omega
    subst hend
    refine Rn.out zB 1000 rfl rfl ?_
    refine Rn.fin zB 1000 rfl rfl rfl ⟨(sum, qs, byl), hs0, hfq, hS, _, F.reached hfq hinq hx⟩ [some 0, some 1] rfl rfl ?_ ?_ rfl rfl rfl
    · (repeat' first | exact trivial | exact rfl | exact Or.inl (And.intro rfl rfl) | exact wsucc _ (by omega) | exact wlin (by first | omega | (push_cast; omega)) (by omega) | exact wint (by omega) (by omega) | refine And.intro ?_ ?_ | refine Or.inr ?_)
    · (repeat' first | exact trivial | exact rfl | exact (by decide) | exact zerosI _ | exact zerosN _ | exact OfRaw.rows (by omega) | exact Or.inl (And.intro rfl rfl) | refine And.intro ?_ ?_ | refine Exists.intro _ (Exists.intro _ (And.intro rfl (And.intro (by decide) ?_))))
  have hend : x ≠ -1 - (qs.length : Int) := by
    rw [w64_id (by omega) (by omega)] at hend
    simp at hend; omega
  obtain ⟨r, hr⟩ := List.getElem?_of_mem ((F.mem _ _ hx).2 hend)
  obtain ⟨W, hW, hnd, _⟩ := F.way r r (N - 1) (Nat.le_refl _) hr
  have hpos := hW.resid_pos
  obtain ⟨M, hM⟩ : ∃ M, M = Snow.least qs 70368744177664 W := ⟨_, rfl⟩
  have hM0 : 0 < M := hM ▸ Snow.least_pos qs W _ (by decide) hpos
  have hMr : ∀ e ∈ W, M ≤ Snow.resid qs e := hM ▸ (Snow.least_le qs W _).2
  have hMb : M ≤ 70368744177664 := hM ▸ (Snow.least_le qs W _).1
  refine Rn.loop zB 1000 rfl (T := Nat × Int × List (Nat × Bool)) (fun t => t.2.2.length) (fun t => Snow.Way qs byl t.1 t.2.2 ∧ Snow.least qs t.2.1 t.2.2 = M ∧ t.1 < N) (fun t => [(9, iA t.1), (8, iA t.2.1), (7, slA 1 0 N false 1), (6, iA sum), (1, iA N), (0, slA 0 0 ps.length f0 4)]) (fun t => [⟨1, true, none, .raw (arr iC byl)⟩, ⟨0, true, none, .raw (arr pipC qs)⟩]) (fun _ => 2) ((N - 1, 70368744177664, W)) [some 0, some 1] (⟨hW, hM.symm, by dsimp only; omega⟩) ⟨rfl, rfl, rfl, rfl, rfl, by (repeat' first | exact trivial | exact rfl | exact Or.inl (And.intro rfl rfl) | exact wsucc _ (by omega) | exact wlin (by first | omega | (push_cast; omega)) (by omega) | exact wint (by omega) (by omega) | refine And.intro ?_ ?_ | refine Or.inr ?_), by (repeat' first | exact trivial | exact rfl | exact (by decide) | exact zerosI _ | exact zerosN _ | exact OfRaw.rows (by omega) | exact Or.inl (And.intro rfl rfl) | refine And.intro ?_ ?_ | refine Exists.intro _ (Exists.intro _ (And.intro rfl (And.intro (by decide) ?_))))⟩ ?_
  · rintro ⟨v, m, suf⟩ ⟨hw, hl, hv⟩
    dsimp only at hw hl hv
    refine Rn.split zB 1000 rfl (fun hne => ?_) (fun hne => ?_)
    · have hne : v ≠ 0 := by simp at hne; omega
      cases hw with
      | nil => simp at hne
      | fwd hv0 hby hp hto hlt hw2 =>
        rename_i i p l
        have hil := (List.getElem?_eq_some_iff.mp hp).1
        have hfp := hfq p (List.mem_of_getElem? hp)
        have hsp := hsq p (List.mem_of_getElem? hp)
        have hmin : (if IntKind.wrap .i64 (p.most - p.now) < m then IntKind.wrap .i64 (p.most - p.now) else m) = min m (Snow.resid qs (i, true)) := by
          rw [w64_id (by omega) (by omega), min_eq]
          unfold Snow.resid
          rw [hp]; rfl
        refine Rn.ask zB 1000 rfl ⟨by first | omega | (dsimp only; omega), by first | omega | (dsimp only; omega)⟩ ?_
        refine Rn.loadR zB 1000 rfl (LoadR.fld eI (f := 0) (v := .int .i64 (i : Int)) hby (by simp) rfl rfl) ?_
        refine Rn.split zB 1000 rfl (fun hge => ?_) (fun hge => ?_)
        · refine Rn.draw zB 1000 [0, 0, 0, 6, 14, 30, 0, 0, 192, 448, 960, 2046, 4095, 8191] rfl (by kernel_rfl) (by kernel_rfl) ?_
          refine Rn.ask zB 1000 rfl ⟨by first | omega | (dsimp only; omega), by first | omega | (dsimp only; omega)⟩ ?_
          refine Rn.loadR zB 1000 rfl (LoadR.fld ePip (f := 2) (v := .int .i64 p.most) hp (by simp) rfl rfl) ?_
          refine Rn.ask zB 1000 rfl ⟨by first | omega | (dsimp only; omega), by first | omega | (dsimp only; omega)⟩ ?_
          refine Rn.loadR zB 1000 rfl (LoadR.fld ePip (f := 3) (v := .int .i64 p.now) hp (by simp) rfl rfl) ?_
          refine Rn.ask zB 1000 rfl ⟨by first | omega | (dsimp only; omega), by first | omega | (dsimp only; omega)⟩ ?_
          refine Rn.loadR zB 1000 rfl (LoadR.fld ePip (f := 0) (v := .int .i64 p.fr) hp (by simp) rfl rfl) ?_
          refine Rn.again zB 1000 rfl ((p.fr, min m (Snow.resid qs (i, true)), l)) [some 0, some 1] (by simp) (⟨hw2, hl, (hinq p (List.mem_of_getElem? hp)).1⟩) ⟨rfl, rfl, rfl, rfl, rfl, by rw [hmin]; (repeat' first | exact trivial | exact rfl | exact Or.inl (And.intro rfl rfl) | exact wsucc _ (by omega) | exact wlin (by first | omega | (push_cast; omega)) (by omega) | exact wint (by omega) (by omega) | refine And.intro ?_ ?_ | refine Or.inr ?_), by (repeat' first | exact trivial | exact rfl | exact (by decide) | exact zerosI _ | exact zerosN _ | exact OfRaw.rows (by omega) | exact Or.inl (And.intro rfl rfl) | refine And.intro ?_ ?_ | refine Exists.intro _ (Exists.intro _ (And.intro rfl (And.intro (by decide) ?_))))⟩
        · simp at hge
      | bwd hv0 hby hp hto hlt hw2 =>
        rename_i i p l
        have hil := (List.getElem?_eq_some_iff.mp hp).1
        have hfp := hfq p (List.mem_of_getElem? hp)
        have hsp := hsq p (List.mem_of_getElem? hp)
        have hwx : IntKind.wrap .i64 (-1 - (-1 - (i : Int))) = (i : Int) := by rw [w64_id (by omega) (by omega)]; omega
        have hmin : (if p.now < m then p.now else m) = min m (Snow.resid qs (i, false)) := by
          rw [min_eq]
          unfold Snow.resid
          rw [hp]; rfl
        refine Rn.ask zB 1000 rfl ⟨by first | omega | (dsimp only; omega), by first | omega | (dsimp only; omega)⟩ ?_
        refine Rn.loadR zB 1000 rfl (LoadR.fld eI (f := 0) (v := .int .i64 (-1 - (i : Int))) hby (by simp) rfl rfl) ?_
        refine Rn.split zB 1000 rfl (fun hge => ?_) (fun hge => ?_)
        · simp at hge; omega
        · refine Rn.ask zB 1000 rfl ⟨by first | omega | (dsimp only; omega), by first | omega | (dsimp only; omega)⟩ ?_
          refine Rn.loadR zB 1000 rfl (LoadR.fld ePip (f := 3) (v := .int .i64 p.now) hp (by rw [hwx]; simp) rfl rfl) ?_
          refine Rn.ask zB 1000 rfl ⟨by first | omega | (dsimp only; omega), by first | omega | (dsimp only; omega)⟩ ?_
          refine Rn.loadR zB 1000 rfl (LoadR.fld ePip (f := 1) (v := .int .i64 p.to) hp (by rw [hwx]; simp) rfl rfl) ?_
          refine Rn.again zB 1000 rfl ((p.to, min m (Snow.resid qs (i, false)), l)) [some 0, some 1] (by simp) (⟨hw2, hl, (hinq p (List.mem_of_getElem? hp)).2⟩) ⟨rfl, rfl, rfl, rfl, rfl, by rw [hmin]; (repeat' first | exact trivial | exact rfl | exact Or.inl (And.intro rfl rfl) | exact wsucc _ (by omega) | exact wlin (by first | omega | (push_cast; omega)) (by omega) | exact wint (by omega) (by omega) | refine And.intro ?_ ?_ | refine Or.inr ?_), by (repeat' first | exact trivial | exact rfl | exact (by decide) | exact zerosI _ | exact zerosN _ | exact OfRaw.rows (by omega) | exact Or.inl (And.intro rfl rfl) | refine And.intro ?_ ?_ | refine Exists.intro _ (Exists.intro _ (And.intro rfl (And.intro (by decide) ?_))))⟩
    · have hne : v = 0 := by simp at hne; omega
      subst hne
      have hsuf : suf = [] := by
        cases hw with
        | nil => rfl
        | fwd h => exact absurd rfl h
        | bwd h => exact absurd rfl h
      subst hsuf
      have hmM : m = M := hl
      subst hmM
      refine Rn.out zB 1000 rfl rfl ?_
      refine Rn.loop zB 1000 rfl (T := Nat × List Pipe × List (Nat × Bool)) (fun t => t.2.2.length) (fun t => Snow.Way qs byl t.1 t.2.2 ∧ Along (N - 1) m qs t.2.1 t.1 t.2.2 ∧ (∀ e ∈ t.2.2, m ≤ Snow.resid qs e) ∧ (t.2.2.map Prod.fst).Nodup ∧ t.1 < N) (fun t => [(9, iA t.1), (8, iA m), (7, slA 1 0 N false 1), (6, iA sum), (1, iA N), (0, slA 0 0 ps.length f0 4)]) (fun t => [⟨1, true, none, .raw (arr iC byl)⟩, ⟨0, true, none, .raw (arr pipC t.2.1)⟩]) (fun _ => 2) ((N - 1, qs, W)) [some 0, some 1] (⟨hW, ⟨hfq, .refl _ _ _, fun _ _ => rfl⟩, hMr, hnd, by dsimp only; omega⟩) ⟨rfl, rfl, rfl, rfl, rfl, by (repeat' first | exact trivial | exact rfl | exact Or.inl (And.intro rfl rfl) | exact wsucc _ (by omega) | exact wlin (by first | omega | (push_cast; omega)) (by omega) | exact wint (by omega) (by omega) | refine And.intro ?_ ?_ | refine Or.inr ?_), by (repeat' first | exact trivial | exact rfl | exact (by decide) | exact zerosI _ | exact zerosN _ | exact OfRaw.rows (by omega) | exact Or.inl (And.intro rfl rfl) | refine And.intro ?_ ?_ | refine Exists.intro _ (Exists.intro _ (And.intro rfl (And.intro (by decide) ?_))))⟩ ?_
      rintro ⟨v, rs, suf⟩ ⟨hw, hA, hre, hnd2, hv⟩
      dsimp only at hw hA hre hnd2 hv
      refine Rn.split zB 1000 rfl (fun hne => ?_) (fun hne => ?_)
      · have hne : v ≠ 0 := by simp at hne; omega
        cases hw with
        | nil => simp at hne
        | fwd hv0 hby hp hto hlt hw2 =>
          rename_i i p l
          have hil := (List.getElem?_eq_some_iff.mp hp).1
          have hfp := hfq p (List.mem_of_getElem? hp)
          have hsp := hsq p (List.mem_of_getElem? hp)
          have hrp : rs[i]? = some p := by have := hA.rest (i, true) List.mem_cons_self; rw [this]; exact hp
          have hrl := (List.getElem?_eq_some_iff.mp hrp).1
          have hA2 := hA.fwd hp hto (by omega) (hre _ List.mem_cons_self) hfq hnd2
          have hm2 := hre _ List.mem_cons_self
          have hrl2 : rs.length = ps.length := by rw [hA.sent.like.1]; exact hql
          have hg : (Snow.more rs i m)[i]? = some { p with now := p.now + m } := by rw [Snow.more_get hrp, if_pos rfl]
          have e1 := more_eq hrp m
          have hw3 : IntKind.wrap .i64 (p.now + m) = p.now + m := w64_id (by omega) (by omega)
          refine Rn.ask zB 1000 rfl ⟨by first | omega | (dsimp only; omega), by first | omega | (dsimp only; omega)⟩ ?_
          refine Rn.loadR zB 1000 rfl (LoadR.fld eI (f := 0) (v := .int .i64 (i : Int)) hby (by simp) rfl rfl) ?_
          refine Rn.split zB 1000 rfl (fun hge => ?_) (fun hge => ?_)
          · refine Rn.ask zB 1000 rfl ⟨by first | omega | (dsimp only; omega), by first | omega | (dsimp only; omega)⟩ ?_
            refine Rn.loadR zB 1000 rfl (LoadR.fld ePip (f := 3) (v := .int .i64 p.now) hrp (by simp) rfl rfl) ?_
            refine Rn.ask zB 1000 rfl ⟨by first | omega | (dsimp only; omega), by first | omega | (dsimp only; omega)⟩ ?_
            refine Rn.storeR zB 1000 rfl ((by rw [e1]; exact StoreR.fld ePip (f := 3) (a' := { p with now := p.now + m }) hrp (by simp) (by omega) (by rw [hw3]; rfl) : StoreR _ _ _ (arr pipC (Snow.more rs i m)))) rfl ?_
            refine Rn.ask zB 1000 rfl ⟨by first | omega | (dsimp only; omega), by first | omega | (dsimp only; omega)⟩ ?_
            refine Rn.loadR zB 1000 rfl (LoadR.fld ePip (f := 0) (v := .int .i64 p.fr) hg (by simp) rfl rfl) ?_
            refine Rn.again zB 1000 rfl ((p.fr, Snow.more rs i m, l)) [some 0, some 1] (by simp) (⟨hw2, hA2, fun e he => hre e (List.mem_cons_of_mem _ he), (List.nodup_cons.1 hnd2).2, (hinq p (List.mem_of_getElem? hp)).1⟩) ⟨rfl, rfl, rfl, rfl, rfl, by (repeat' first | exact trivial | exact rfl | exact Or.inl (And.intro rfl rfl) | exact wsucc _ (by omega) | exact wlin (by first | omega | (push_cast; omega)) (by omega) | exact wint (by omega) (by omega) | refine And.intro ?_ ?_ | refine Or.inr ?_), by (repeat' first | exact trivial | exact rfl | exact (by decide) | exact zerosI _ | exact zerosN _ | exact OfRaw.rows (by omega) | exact Or.inl (And.intro rfl rfl) | refine And.intro ?_ ?_ | refine Exists.intro _ (Exists.intro _ (And.intro rfl (And.intro (by decide) ?_))))⟩
          · simp at hge
        | bwd hv0 hby hp hto hlt hw2 =>
          rename_i i p l
          have hil := (List.getElem?_eq_some_iff.mp hp).1
          have hfp := hfq p (List.mem_of_getElem? hp)
          have hsp := hsq p (List.mem_of_getElem? hp)
          have hwx : IntKind.wrap .i64 (-1 - (-1 - (i : Int))) = (i : Int) := by rw [w64_id (by omega) (by omega)]; omega
          have hrp : rs[i]? = some p := by have := hA.rest (i, false) List.mem_cons_self; rw [this]; exact hp
          have hrl := (List.getElem?_eq_some_iff.mp hrp).1
          have hA2 := hA.bwd hp hto (by omega) (hre _ List.mem_cons_self) hfq hnd2
          have hrl2 : rs.length = ps.length := by rw [hA.sent.like.1]; exact hql
          have hg : (Snow.more rs i (-m))[i]? = some { p with now := p.now + -m } := by rw [Snow.more_get hrp, if_pos rfl]
          have e1 := more_eq hrp (-m)
          have hw3 : IntKind.wrap .i64 (p.now - m) = p.now + -m := by rw [w64_id (by omega) (by omega)]; omega
          refine Rn.ask zB 1000 rfl ⟨by first | omega | (dsimp only; omega), by first | omega | (dsimp only; omega)⟩ ?_
          refine Rn.loadR zB 1000 rfl (LoadR.fld eI (f := 0) (v := .int .i64 (-1 - (i : Int))) hby (by simp) rfl rfl) ?_
          refine Rn.split zB 1000 rfl (fun hge => ?_) (fun hge => ?_)
          · simp at hge; omega
          · refine Rn.ask zB 1000 rfl ⟨by first | omega | (dsimp only; omega), by first | omega | (dsimp only; omega)⟩ ?_
            refine Rn.loadR zB 1000 rfl (LoadR.fld ePip (f := 3) (v := .int .i64 p.now) hrp (by rw [hwx]; simp) rfl rfl) ?_
            refine Rn.ask zB 1000 rfl ⟨by first | omega | (dsimp only; omega), by first | omega | (dsimp only; omega)⟩ ?_
            refine Rn.storeR zB 1000 rfl ((by rw [e1]; exact StoreR.fld ePip (f := 3) (a' := { p with now := p.now + -m }) hrp (by rw [hwx]; simp) (by omega) (by rw [hw3]; rfl) : StoreR _ _ _ (arr pipC (Snow.more rs i (-m))))) rfl ?_
            refine Rn.ask zB 1000 rfl ⟨by first | omega | (dsimp only; omega), by first | omega | (dsimp only; omega)⟩ ?_
            refine Rn.loadR zB 1000 rfl (LoadR.fld ePip (f := 1) (v := .int .i64 p.to) hg (by rw [hwx]; simp) rfl rfl) ?_
            refine Rn.again zB 1000 rfl ((p.to, Snow.more rs i (-m), l)) [some 0, some 1] (by simp) (⟨hw2, hA2, fun e he => hre e (List.mem_cons_of_mem _ he), (List.nodup_cons.1 hnd2).2, (hinq p (List.mem_of_getElem? hp)).2⟩) ⟨rfl, rfl, rfl, rfl, rfl, by (repeat' first | exact trivial | exact rfl | exact Or.inl (And.intro rfl rfl) | exact wsucc _ (by omega) | exact wlin (by first | omega | (push_cast; omega)) (by omega) | exact wint (by omega) (by omega) | refine And.intro ?_ ?_ | refine Or.inr ?_), by (repeat' first | exact trivial | exact rfl | exact (by decide) | exact zerosI _ | exact zerosN _ | exact OfRaw.rows (by omega) | exact Or.inl (And.intro rfl rfl) | refine And.intro ?_ ?_ | refine Exists.intro _ (Exists.intro _ (And.intro rfl (And.intro (by decide) ?_))))⟩
      · have hne : v = 0 := by simp at hne; omega
        subst hne
        have hS2 := sent_trans hS hA.sent
        have hsb2 := sent_bound (by omega) hS2 hA.fits
        have hw4 : IntKind.wrap .i64 (sum + m) = sum + m := w64_id (by omega) (by omega)
        refine Rn.out zB 1000 rfl rfl ?_
        refine Rn.again zB 1000 rfl ((sum + m, rs)) [some 0] (by dsimp only; omega) (⟨by dsimp only; omega, hA.fits, hS2⟩) ⟨rfl, rfl, rfl, rfl, rfl, by rw [hw4]; (repeat' first | exact trivial | exact rfl | exact Or.inl (And.intro rfl rfl) | exact wsucc _ (by omega) | exact wlin (by first | omega | (push_cast; omega)) (by omega) | exact wint (by omega) (by omega) | refine And.intro ?_ ?_ | refine Or.inr ?_), by (repeat' first | exact trivial | exact rfl | exact (by decide) | exact zerosI _ | exact zerosN _ | exact OfRaw.rows (by omega) | exact Or.inl (And.intro rfl rfl) | refine And.intro ?_ ?_ | refine Exists.intro _ (Exists.intro _ (And.intro rfl (And.intro (by decide) ?_))))⟩
end Go.AM
