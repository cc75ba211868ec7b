/- What a walk says of the machine: whether a slice is nil, and copy. -/
import Derived.Test.YtlkbcjhemhmfoaaGreatDoorMh
set_option linter.unusedSimpArgs false
set_option linter.unusedVariables false
namespace Go.AM
open Go

section
variable {X : Env} {nt k : Nat} {K : KC} {F : Fo} {S' : List Kt} {st : St} {C : Cx} {o : Oper} {rest : List Oper} {i : Nat} {S : List Kt}

/-- 'a == nil': it is one or the other; it is nil only if it is empty. -/
theorem Run.opNil {t e : TypeId} {x y : Operand} {u : TypeId} {j off m sz sz' q : Nat} {full full' : Bool} {p : P} {dc : DC} {bl : BL} {nb : Nat} {sp : Tk} {ss : Ts} {bop : BinOp} {b1 : Bool} (hb : (bop = .eql ∧ b1 = true) ∨ (bop = .neq ∧ b1 = false))
    (ho : o.op = .binOp bop t x y u) (hty : (X.T t).ty = .slice e) (hpx : P.ev p x = .one (.sl (some (j, off)) m full sz)) (hpy : P.ev p y = .one (.sl none q full' sz'))
    (h1 : m = 0 → Run X nt k (.put C o.dst (.one (.bool b1)) rest i) S ⟨p, dc, bl, nb, sp, ss⟩ K) (h2 : Run X nt k (.put C o.dst (.one (.bool !b1)) rest i) S ⟨p, dc, bl, nb, sp, ss⟩ K) : Run X nt k (.op C o rest i) S ⟨p, dc, bl, nb, sp, ss⟩ K := by
  intro G hG Q hK c σ f h s g dcr hlen hw
  have hvx := s.ag.ev x
  have hvy := s.ag.ev y
  rw [hpx] at hvx
  rw [hpy] at hvy
  obtain ⟨sx, ex, rx⟩ := hvx
  obtain ⟨sy, ey, ry⟩ := hvy
  have ry : sy = .sl none q full' sz' := ry
  subst ry
  have hW : isW X o.op = false := by rw [ho]; rfl
  have hc : isCall o.op = false := by rw [ho]; rfl
  have hN : isN o.op = false := by rw [ho]; rfl
  have hL : isL o.op = false := by rw [ho]; rfl
  have hop : ∀ h id, aop X f.ev h id o.op = (abin X bop t (f.ev x) (f.ev y)).map fun s => (.one s, h) := fun h id => by rw [ho]; rfl
  rcases rx with ⟨b, hσ, rfl⟩ | ⟨hσ, hm, rfl⟩
  · obtain ⟨f1, hp, hs⟩ := h2 G hG Q hK c σ f h (.one (.bool !b1)) s (RAV.of_flat rfl) g.next dcr hlen
    refine SeqD.pure hw hW hc hN hL (fun h => ?_) hp hs
    rw [hop, ex, ey]
    rcases hb with ⟨rfl, rfl⟩ | ⟨rfl, rfl⟩ <;> simp [abin, hty]
  · obtain ⟨f1, hp, hs⟩ := h1 hm G hG Q hK c σ f h (.one (.bool b1)) s (RAV.of_flat rfl) g.next dcr hlen
    refine SeqD.pure hw hW hc hN hL (fun h => ?_) hp hs
    rw [hop, ex, ey]
    rcases hb with ⟨rfl, rfl⟩ | ⟨rfl, rfl⟩ <;> simp [abin, hty]
theorem Rn.isNil {t e : TypeId} {x y : Operand} {u : TypeId} {j off m sz sz' q : Nat} {full full' : Bool} {st1 : St} {r : Rs} {bop : BinOp} (b1 : Bool) (hz : ZeroFlat X) (n : Nat) (hx : exec X nt n F S' st = some (.odd r st1))
    (ho : r.o.op = .binOp bop t x y u) (hb : (bop = .eql ∧ b1 = true) ∨ (bop = .neq ∧ b1 = false)) (hty : (X.T t).ty = .slice e) (hpx : P.ev st1.p x = .one (.sl (some (j, off)) m full sz)) (hpy : P.ev st1.p y = .one (.sl none q full' sz'))
    (h1 : m = 0 → Rn X nt k (.put r.C r.o.dst (.one (.bool b1)) r.rest r.i) r.S st1 K) (h2 : Rn X nt k (.put r.C r.o.dst (.one (.bool !b1)) r.rest r.i) r.S st1 K) : Rn X nt k F S' st K :=
  Rn.odd hz n hx ⟨by
    obtain ⟨p, dc, bl, nb, sp, ss⟩ := st1
    exact Run.opNil hb ho hty hpx hpy (fun h => (h1 h).run) h2.run⟩

/-- copy, in a region whose order is laid down. -/
theorem Run.opCopy {t e : TypeId} {args : Array Operand} {ts : Array TypeId} {d0 x0 : Operand} {j off dn xn sz sz' : Nat} {fd fx : Bool} {a' : Option (Nat × Nat)} {p : P} {dc : DC} {bl1 bl2 : BL} {born : Option Nat} {nb : Nat} {sp : Tk} {ss : Ts} {l new : List Sc}
    (hdr : C.dr = false) (ho : o.op = .call ⟨.builtin .copy, args, ts⟩) (hargs : args.toList = [d0, x0]) (hts : ts.toList = [t, t]) (hty : (X.T t).ty = .slice e)
    (hpd : P.ev p d0 = .one (.sl (some (j, off)) dn fd sz)) (hpx : P.ev p x0 = .one (.sl a' xn fx sz')) (hd0 : 0 < dn) (hsz : sz = (X.T e).size) (hs0 : 0 < (X.T e).size)
    (hsn : Src (X.T e).size (bl1 ++ ⟨j, true, born, .raw l⟩ :: bl2) a' xn sz' new) (hle : off + (new.take (min xn dn * (X.T e).size)).length ≤ l.length)
    (hr : Run X nt k (.put C o.dst (.one (.int .i64 (min xn dn : Nat))) rest i) S ⟨p, dc, bl1 ++ ⟨j, true, born, .raw (l.take off ++ new.take (min xn dn * (X.T e).size) ++ l.drop (off + (new.take (min xn dn * (X.T e).size)).length))⟩ :: bl2, nb, sp, ss⟩ K) :
    Run X nt k (.op C o rest i) S ⟨p, dc, bl1 ++ ⟨j, true, born, .raw l⟩ :: bl2, nb, sp, ss⟩ K := by
  intro G hG Q hK c σ f h s g dcr hlen hw
  have s : SI G σ p (bl1 ++ ⟨j, true, born, .raw l⟩ :: bl2) nb f h := s
  have g : RG C.dr c C.ops.length i σ (bl1 ++ ⟨j, true, born, .raw l⟩ :: bl2) G.h h := g
  have hvd := s.ag.ev d0
  have hvx := s.ag.ev x0
  rw [hpd] at hvd
  rw [hpx] at hvx
  obtain ⟨sd, ed, rd⟩ := hvd
  have hlc : ∃ v, f.ev x0 = v ∧ lenCells h (X.T e).size v = some (xn, new) := by
    rcases Src.ok s.ok hsn hvx with ⟨rfl, rfl, f', z', e1⟩ | ⟨j, o', b, en, rfl, hb, rfl, e1, hl, _⟩
    · exact ⟨_, e1, rfl⟩
    · exact ⟨_, e1, lenCells_of rfl hl⟩
  obtain ⟨vx, hvx1, hlc⟩ := hlc
  have hin : (⟨j, true, born, .raw l⟩ : Bk) ∈ bl1 ++ ⟨j, true, born, .raw l⟩ :: bl2 := by simp
  have hent := s.ok.ent _ hin
  rcases rd with ⟨b, hb, rfl⟩ | ⟨_, h0, _⟩
  · have hfb : Foot σ h ⟨j, true, born, .raw l⟩ b := by
      unfold Foot
      rw [show (⟨j, true, born, .raw l⟩ : Bk).j = j from rfl, hb]
    have hro : h.ro ≤ b := s.ok.wr _ hin rfl b hfb
    have hget : h.get b = some l := by
      unfold Ent at hent
      rw [show (⟨j, true, born, .raw l⟩ : Bk).j = j from rfl, hb] at hent
      exact hent
    obtain ⟨s2, g2, k1, k2⟩ := s.upd g hb (fun r e => by cases e) (cl := .raw (l.take off ++ new.take (min xn dn * (X.T e).size) ++ l.drop (off + (new.take (min xn dn * (X.T e).size)).length))) (l' := l.take off ++ new.take (min xn dn * (X.T e).size) ++ l.drop (off + (new.take (min xn dn * (X.T e).size)).length)) (.inr rfl)
    obtain ⟨f1, hp, hs⟩ := hr G hG Q hK c σ f _ (.one (.int .i64 (min xn dn : Nat))) s2 (RAV.of_flat rfl) g2.next dcr hlen
    have hstore : h.store b off (new.take (min xn dn * (X.T e).size)) = some (h.put b (l.take off ++ new.take (min xn dn * (X.T e).size) ++ l.drop (off + (new.take (min xn dn * (X.T e).size)).length))) := H.store_of hro hget hle
    refine SeqD.write hw (by rw [ho]; rfl) (by rw [ho]; rfl) ?_ hp (fun hd => by rw [hdr] at hd; cases hd) (fun hd => by rw [hdr] at hd; cases hd) (fun hd => by rw [hdr] at hd; cases hd) hs
    rw [ho]
    simp only [aop, hargs, hts, List.map_cons, List.map_nil, ed, hvx1, abuiltin, hty, hlc, Option.bind_some]
    rw [if_pos ⟨hsz, hs0⟩, hstore]
    rfl
  · omega
theorem Rn.copy {t e : TypeId} {args : Array Operand} {ts : Array TypeId} {d0 x0 : Operand} {j off dn xn sz sz' : Nat} {fd fx : Bool} {a' : Option (Nat × Nat)} {st1 : St} {bl1 bl2 : BL} {born : Option Nat} {l new l2 : List Sc} {r : Rs} (hz : ZeroFlat X) (n : Nat) (hx : exec X nt n F S' st = some (.odd r st1))
    (hdr : r.C.dr = false) (ho : r.o.op = .call ⟨.builtin .copy, args, ts⟩) (hargs : args.toList = [d0, x0]) (hts : ts.toList = [t, t]) (hty : (X.T t).ty = .slice e)
    (hpd : P.ev st1.p d0 = .one (.sl (some (j, off)) dn fd sz)) (hpx : P.ev st1.p x0 = .one (.sl a' xn fx sz')) (hbl : st1.bl = bl1 ++ ⟨j, true, born, .raw l⟩ :: bl2) (hd0 : 0 < dn) (hsz : sz = (X.T e).size) (hs0 : 0 < (X.T e).size)
    (hsn : Src (X.T e).size st1.bl a' xn sz' new) (hle : off + (new.take (min xn dn * (X.T e).size)).length ≤ l.length) (hl2 : l.take off ++ new.take (min xn dn * (X.T e).size) ++ l.drop (off + (new.take (min xn dn * (X.T e).size)).length) = l2)
    (hr : Rn X nt k (.put r.C r.o.dst (.one (.int .i64 (min xn dn : Nat))) r.rest r.i) r.S ⟨st1.p, st1.dc, bl1 ++ ⟨j, true, born, .raw l2⟩ :: bl2, st1.nb, st1.sp, st1.ss⟩ K) : Rn X nt k F S' st K :=
  Rn.odd hz n hx ⟨by
    obtain ⟨p, dc, bl, nb, sp, ss⟩ := st1
    have hbl : bl = _ := hbl
    subst hbl
    subst hl2
    exact Run.opCopy hdr ho hargs hts hty hpd hpx hd0 hsz hs0 hsn hle hr.run⟩
end
end Go.AM
section
/- What a walk says of the machine: a body's two halves, apart. -/
namespace Go.AM
open Go
section
variable {X : Env} {nt k : Nat} {K : KC} {F : Fo} {S S2 : List Kt} {st : St}
theorem SeqD.mono {C : Cx} {c i : Nat} {rest : List Oper} {f : FF} {h : H} {σ : Sg} {bl : BL} {sp : Tk} {ss : Ts} {K1 K2 : FF → H → Prop} (hs : SeqD X nt C c i rest f h σ bl sp ss K1) (hk : ∀ f h, K1 f h → K2 f h) : SeqD X nt C c i rest f h σ bl sp ss K2 := by
  cases hd : C.dr with
  | false =>
    rw [SeqD.seq hd] at hs ⊢
    exact fun fr e => let ⟨n, fr', h', r, q⟩ := hs fr e; ⟨n, fr', h', r, hk _ _ q⟩
  | true =>
    rw [SeqD.draw hd] at hs ⊢
    exact fun SP SS h1 h2 fr e => let ⟨n, fr', h', r, q⟩ := hs SP SS h1 h2 fr e; ⟨n, fr', h', r, hk _ _ q⟩
theorem Sem.mono {G : Gh} {Q : Ex → FF → H → Prop} (hQ : ∀ e f h, stackQ X nt S Q e f h → stackQ X nt S2 Q e f h) (h : Sem X nt F S st G Q) : Sem X nt F S2 st G Q := by
  cases F with
  | code c => exact fun σ f h0 s => RunsF.mono (h σ f h0 s) hQ
  | leave e => exact fun σ f h0 s => hQ _ _ _ (h σ f h0 s)
  | reg C rest i => exact fun c σ f h0 s g d l => SeqD.mono (h c σ f h0 s g d l) (hQ .norm)
  | op C o rest i => exact fun c σ f h0 s g d l w => SeqD.mono (h c σ f h0 s g d l w) (hQ .norm)
  | put C dst v rest i => exact fun c σ f h0 v' s r g d l => let ⟨f1, hp, hs⟩ := h c σ f h0 v' s r g d l; ⟨f1, hp, SeqD.mono hs (hQ .norm)⟩
theorem stackQ_unseq {b1 b2 : Code} {Q : Ex → FF → H → Prop} : ∀ (A : List Kt) (e : Ex) (f : FF) (h : H), stackQ X nt (A ++ Kt.seq b1 :: Kt.seq b2 :: S) Q e f h → stackQ X nt (A ++ Kt.seq (.seq b1 b2) :: S) Q e f h
  | [], e, f, h, q => by
    cases e with
    | norm => exact RunsF.seq q
    | exit id => exact q
    | ret => exact q
  | .seq b :: A, e, f, h, q => by
    cases e with
    | norm => exact RunsF.mono q (stackQ_unseq A)
    | exit id => exact stackQ_unseq A _ _ _ q
    | ret => exact stackQ_unseq A _ _ _ q
  | .block id :: A, e, f, h, q => by
    show InBlockF id (stackQ X nt (A ++ Kt.seq (.seq b1 b2) :: S) Q) e f h
    have q : InBlockF id (stackQ X nt (A ++ Kt.seq b1 :: Kt.seq b2 :: S) Q) e f h := q
    unfold InBlockF at q ⊢
    cases e with
    | norm => exact stackQ_unseq A _ _ _ q
    | exit i =>
      dsimp only at q ⊢
      split at q
      · rename_i hi; rw [if_pos hi]; exact stackQ_unseq A _ _ _ q
      · rename_i hi; rw [if_neg hi]; exact stackQ_unseq A _ _ _ q
    | ret => exact stackQ_unseq A _ _ _ q
/-- A body's two halves, apart. -/
theorem Rn.unseq (A : List Kt) {b1 b2 : Code} {S0 : List Kt} (hS : S0 = A ++ Kt.seq (.seq b1 b2) :: S) (h : Rn X nt k F (A ++ Kt.seq b1 :: Kt.seq b2 :: S) st K) : Rn X nt k F S0 st K := by
  subst hS
  exact ⟨fun G hG Q hK => Sem.mono (stackQ_unseq A) (h.run G hG Q hK)⟩
end
end Go.AM
end
