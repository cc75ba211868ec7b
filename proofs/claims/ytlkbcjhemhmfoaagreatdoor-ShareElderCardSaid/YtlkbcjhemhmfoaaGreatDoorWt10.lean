/- Walks: the statement ShareElder. -/
import Derived.Test.YtlkbcjhemhmfoaaGreatDoorWl1
import Derived.Test.YtlkbcjhemhmfoaaGreatDoorWl4
set_option linter.unusedSimpArgs false
set_option linter.unusedVariables false
namespace Go.AM
open Go Go.Proofs
open Snow (IsMax)
set_option maxRecDepth 10000
set_option maxHeartbeats 1000000

theorem c_equalP (xs ys : List Int) (n : Nat) (fa fb : Bool) (hx : xs.length = n) (hy : n ≤ ys.length) (hb : n < 1152921504606846976) (he : ∀ j, j < n → xs[j]? = ys[j]?) : Ct0 envB 46 [slA 0 0 n fa 1, slA 1 0 n fb 1] [⟨0, false, none, .raw (arr iC xs)⟩, ⟨1, false, none, .raw (arr iC ys)⟩] 2 (.one (.bool true)) := by
  refine Ct.of zB (fn := Tryz.f46) (by kernel_rfl) (by kernel_rfl) rfl rfl ?_
  refine Rn.split zB 1000 rfl (fun hl => ?_) (fun hl => ?_)
  · simp at hl
  refine Rn.loop zB 1000 rfl (T := Nat) (fun i => n - i) (fun i => i ≤ n) (fun i => [(13, iA i), (12, iA n), (1, slA 1 0 n fb 1), (0, slA 0 0 n fa 1)]) (fun _ => [⟨0, false, none, .raw (arr iC xs)⟩, ⟨1, false, none, .raw (arr iC ys)⟩]) (fun _ => 2) (0) [some 0, some 1] (Nat.zero_le _) ⟨rfl, rfl, rfl, rfl, rfl, by (repeat' first | exact trivial | exact rfl | exact Or.inl (And.intro rfl rfl) | exact wsucc _ (by omega) | exact wlin (by first | omega | (push_cast; omega)) (by omega) | exact wint (by omega) (by omega) | refine And.intro ?_ ?_ | refine Or.inr ?_), by (repeat' first | exact trivial | exact rfl | exact (by decide) | exact zerosI _ | exact zerosN _ | exact OfRaw.rows (by omega) | exact Or.inl (And.intro rfl rfl) | refine And.intro ?_ ?_ | refine Exists.intro _ (Exists.intro _ (And.intro rfl (And.intro (by decide) ?_))))⟩ ?_
  rintro i hi
  refine Rn.split zB 1000 rfl (fun h => ?_) (fun h => ?_)
  · have hlt : i < n := by simpa using h
    obtain ⟨a, ha⟩ : ∃ a, xs[i]? = some a := ⟨xs[i]'(by omega), List.getElem?_eq_getElem _⟩
    have hb' : ys[i]? = some a := by rw [← he i hlt]; exact ha
    refine Rn.draw zB 1000 [0, 0, 3, 7, 0, 0, 48, 112, 255] rfl (by kernel_rfl) (by kernel_rfl) ?_
    refine Rn.ask zB 1000 rfl ⟨by first | omega | (dsimp only; omega), by first | omega | (dsimp only; omega)⟩ ?_
    refine Rn.loadR zB 1000 rfl (LoadR.fld eI (f := 0) (v := .int .i64 a) ha (by simp) rfl rfl) ?_
    refine Rn.ask zB 1000 rfl ⟨by first | omega | (dsimp only; omega), by first | omega | (dsimp only; omega)⟩ ?_
    refine Rn.loadR zB 1000 rfl (LoadR.fld eI (f := 0) (v := .int .i64 a) hb' (by simp) rfl rfl) ?_
    refine Rn.split zB 1000 rfl (fun hz => ?_) (fun hz => ?_)
    · simp at hz
    · refine Rn.again zB 1000 rfl (i + 1) [some 0, some 1] (by omega) (hlt) ⟨rfl, rfl, rfl, rfl, rfl, by (repeat' first | exact trivial | exact rfl | exact Or.inl (And.intro rfl rfl) | exact wsucc _ (by omega) | exact wlin (by first | omega | (push_cast; omega)) (by omega) | exact wint (by omega) (by omega) | refine And.intro ?_ ?_ | refine Or.inr ?_), by (repeat' first | exact trivial | exact rfl | exact (by decide) | exact zerosI _ | exact zerosN _ | exact OfRaw.rows (by omega) | exact Or.inl (And.intro rfl rfl) | refine And.intro ?_ ?_ | refine Exists.intro _ (Exists.intro _ (And.intro rfl (And.intro (by decide) ?_))))⟩
  · refine Rn.out zB 1000 rfl rfl ?_
    exact Rn.fin0 zB 1000 rfl rfl rfl rfl rfl
theorem copy_cells (p : List Int) (m i : Nat) (hm : p.length = m) (hi : i + 1 ≤ m) : (zeros m [.int .i64 0]).take 0 ++ (arr iC (p.take (i + 1))).take (min (i + 1) m * 1) ++ (zeros m [.int .i64 0]).drop (0 + ((arr iC (p.take (i + 1))).take (min (i + 1) m * 1)).length) = arr iC (p.take (i + 1) ++ List.replicate (p.length - (i + 1)) 0) := by
  have hl : (arr iC (p.take (i + 1))).length = i + 1 := by rw [arr_len eI, List.length_take]; omega
  rw [List.take_zero, List.nil_append, Nat.min_eq_left hi, Nat.mul_one, List.take_of_length_le (by omega), hl, Nat.zero_add, zerosI, arr_append, hm]
  congr 1
  have : List.replicate m (0 : Int) = List.replicate (i + 1) 0 ++ List.replicate (m - (i + 1)) 0 := by rw [List.replicate_append_replicate]; congr 1; omega
  rw [this, arr_append, List.drop_left']
  rw [arr_len eI, List.length_replicate, Nat.mul_one]
theorem copy_le (p : List Int) (m i : Nat) (hm : p.length = m) (hi : i + 1 ≤ m) : 0 + ((arr iC (p.take (i + 1))).take (min (i + 1) m * 1)).length ≤ (zeros m [.int .i64 0]).length := by
  rw [zerosI, arr_len eI, List.length_replicate, List.length_take, arr_len eI, List.length_take]
  omega
theorem c_shareElder (rs : List Rt) (ss : List Su) (po : List Po) (k : Int) (f1 f2 f3 : Bool) : Ct0 envB 10 [shA rs.length ss.length po.length f1 f2 f3, iA k] (shB rs ss po) 3 (.one (.bool true)) := by
  refine Ct.of zB (fn := Tryz.f10) (by kernel_rfl) (by kernel_rfl) rfl rfl ?_
  refine Rn.split zB 1000 rfl (fun h => ?_) (fun h => ?_)
  · cases h
  refine Rn.call0 zB 1000 rfl (c_small rs ss po f1 f2 f3) [some 0, some 1, some 2] rfl rfl (by (repeat' first | exact trivial | exact rfl | exact Or.inl (And.intro rfl rfl) | exact wsucc _ (by omega) | exact wlin (by first | omega | (push_cast; omega)) (by omega) | exact wint (by omega) (by omega) | refine And.intro ?_ ?_ | refine Or.inr ?_)) (by (repeat' first | exact trivial | exact rfl | exact (by decide) | exact zerosI _ | exact zerosN _ | exact OfRaw.rows (by omega) | exact Or.inl (And.intro rfl rfl) | refine And.intro ?_ ?_ | refine Exists.intro _ (Exists.intro _ (And.intro rfl (And.intro (by decide) ?_))))) rfl rfl rfl rfl rfl ?_
  refine Rn.split zB 1000 rfl (fun hs => ?_) (fun hs => ?_)
  · exact Rn.fin0 zB 1000 rfl rfl rfl rfl rfl
  obtain ⟨l1, l2, l3, hok⟩ := smB_t (by simpa using hs)
  have B := hok.b
  refine Rn.call zB 1000 rfl (c_promiseOK rs ss po f1 f2 f3 hok) [some 0, some 1, some 2] rfl (by (repeat' first | exact trivial | exact rfl | exact Or.inl (And.intro rfl rfl) | exact wsucc _ (by omega) | exact wlin (by first | omega | (push_cast; omega)) (by omega) | exact wint (by omega) (by omega) | refine And.intro ?_ ?_ | refine Or.inr ?_)) (by (repeat' first | exact trivial | exact rfl | exact (by decide) | exact zerosI _ | exact zerosN _ | exact OfRaw.rows (by omega) | exact Or.inl (And.intro rfl rfl) | refine And.intro ?_ ?_ | refine Exists.intro _ (Exists.intro _ (And.intro rfl (And.intro (by decide) ?_))))) rfl rfl rfl ?_
  rintro ⟨p, hp⟩
  refine ⟨_, _, rfl, ?_⟩
  have pl := hp.len
  repeat (refine Rn.split zB 1000 rfl (fun h => by cases h) (fun _ => ?_))
  refine Rn.split zB 1000 rfl (fun k1 => ?_) (fun k1 => ?_)
  · simp at k1
  have V := promised_vol B hp
  have ce := c_enoughM rs ss po p f1 f2 f3 true (by omega) (by omega) (by omega)
  rw [pl] at ce
  refine Rn.call zB 1000 rfl (ce) [some 0, some 1, some 2, some 4] rfl (by (repeat' first | exact trivial | exact rfl | exact Or.inl (And.intro rfl rfl) | exact wsucc _ (by omega) | exact wlin (by first | omega | (push_cast; omega)) (by omega) | exact wint (by omega) (by omega) | refine And.intro ?_ ?_ | refine Or.inr ?_)) (by (repeat' first | exact trivial | exact rfl | exact (by decide) | exact zerosI _ | exact zerosN _ | exact OfRaw.rows (by omega) | exact Or.inl (And.intro rfl rfl) | refine And.intro ?_ ?_ | refine Exists.intro _ (Exists.intro _ (And.intro rfl (And.intro (by decide) ?_))))) rfl rfl rfl ?_
  rintro ⟨_, hE⟩
  refine ⟨_, _, rfl, ?_⟩
  have hw := wErr_ok hok V
  have he : enL rs ss po p = true := by rw [enL_ok hw]; exact promised_enough B hp (hE hw)
  rw [he, hw]
  repeat (refine Rn.split zB 1000 rfl (fun h => by cases h) (fun _ => ?_))
  refine Rn.loop zB 1000 rfl (T := Nat) (fun i => rs.length - i) (fun i => i ≤ rs.length) (fun i => [(48, iA i), (47, iA rs.length), (5, slA 4 0 rs.length true 1), (2, .one (.ptr (some (3, 0)))), (1, iA k)]) (fun i => ⟨4, true, none, .raw (arr iC p)⟩ :: shC rs ss po f1 f2 f3) (fun _ => 5) (0) [some 0, some 1, some 2, some 3, some 4] (Nat.zero_le _) ⟨rfl, rfl, rfl, rfl, rfl, by (repeat' first | exact trivial | exact rfl | exact Or.inl (And.intro rfl rfl) | exact wsucc _ (by omega) | exact wlin (by first | omega | (push_cast; omega)) (by omega) | exact wint (by omega) (by omega) | refine And.intro ?_ ?_ | refine Or.inr ?_), by (repeat' first | exact trivial | exact rfl | exact (by decide) | exact zerosI _ | exact zerosN _ | exact OfRaw.rows (by omega) | exact Or.inl (And.intro rfl rfl) | refine And.intro ?_ ?_ | refine Exists.intro _ (Exists.intro _ (And.intro rfl (And.intro (by decide) ?_))))⟩ ?_
  rintro i hi
  refine Rn.split zB 1000 rfl (fun hlt => ?_) (fun hlt => ?_)
  · have hlt : i < rs.length := by simpa using hlt
    obtain ⟨x, hx⟩ : ∃ x, p[i]? = some x := ⟨p[i]'(by omega), List.getElem?_eq_getElem _⟩
    obtain ⟨r, hr⟩ : ∃ r, rs[i]? = some r := ⟨rs[i], List.getElem?_eq_getElem hlt⟩
    have hxr := V.v i x r hx hr
    have hcr := B.claim r (List.mem_of_getElem? hr)
    have hvx := vOf_get hx
    have hcl : claimOf rs i = r.claim := by unfold claimOf; rw [hr]
    refine Rn.draw zB 1000 [0, 0, 3, 7, 15, 31, 63, 63, 255, 511, 63, 1087, 63, 7231, 15423, 31807, 65535, 131071] rfl (by kernel_rfl) (by kernel_rfl) ?_
    refine Rn.ask zB 1000 rfl ⟨by omega, by omega⟩ ?_
    refine Rn.loadR zB 1000 rfl (LoadR.fld eI (f := 0) (v := .int .i64 x) hx (by simp) rfl rfl) ?_
    refine Rn.split zB 1000 rfl (fun d1 => ?_) (fun d1 => ?_)
    · simp at d1; omega
    refine Rn.ask zB 1000 rfl ⟨by omega, by omega⟩ ?_
    refine Rn.loadR zB 1000 rfl (LoadR.fld eI (f := 0) (v := .int .i64 x) hx (by simp) rfl rfl) ?_
    refine Rn.ask zB 1000 rfl ⟨by omega, by omega⟩ ?_
    refine Rn.loadR zB 1000 rfl (LoadR.fld eRt (f := 6) (v := .int .i64 r.claim) hr (by simp) rfl rfl) ?_
    refine Rn.split zB 1000 rfl (fun d2 => ?_) (fun d2 => ?_)
    · simp at d2; omega
    refine Rn.draw zB 1000 [0, 0, 3, 7, 0, 16, 0, 112, 240, 496, 1023] rfl (by kernel_rfl) (by kernel_rfl) ?_
    refine Rn.ask zB 1000 rfl ⟨by omega, by omega⟩ ?_
    refine Rn.loadR zB 1000 rfl (LoadR.fld eI (f := 0) (v := .int .i64 x) hx (by simp) rfl rfl) ?_
    refine Rn.ask zB 1000 rfl ⟨by omega, by omega⟩ ?_
    refine Rn.loadR zB 1000 rfl (LoadR.fld eRt (f := 6) (v := .int .i64 r.claim) hr (by simp) rfl rfl) ?_
    refine Rn.split zB 1000 rfl (fun d3 => ?_) (fun d3 => ?_)
    · refine Rn.again zB 1000 rfl (i + 1) [some 0, some 1, some 2, some 3, some 4] (by omega) (hlt) ⟨rfl, rfl, rfl, rfl, rfl, by (repeat' first | exact trivial | exact rfl | exact Or.inl (And.intro rfl rfl) | exact wsucc _ (by omega) | exact wlin (by first | omega | (push_cast; omega)) (by omega) | exact wint (by omega) (by omega) | refine And.intro ?_ ?_ | refine Or.inr ?_), by (repeat' first | exact trivial | exact rfl | exact (by decide) | exact zerosI _ | exact zerosN _ | exact OfRaw.rows (by omega) | exact Or.inl (And.intro rfl rfl) | refine And.intro ?_ ?_ | refine Exists.intro _ (Exists.intro _ (And.intro rfl (And.intro (by decide) ?_))))⟩
    have d3 : x ≠ r.claim := by simpa using d3
    refine Rn.ask zB 1000 rfl ⟨by omega, rfl, by show (8 : Int) * _ ≤ _; omega, by omega⟩ ?_
    have hwi : IntKind.wrap .i64 ((i : Int) + 1) = ((i + 1 : Nat) : Int) := by rw [w64_id (by omega) (by omega)]; rfl
    refine Rn.ask zB 1000 rfl ⟨by omega, by rw [hwi]; omega, by rw [hwi]; omega, by omega⟩ ?_
    rw [hwi]
    refine Rn.copy (bl1 := []) zB 1000 rfl rfl rfl rfl rfl rfl rfl rfl rfl (by omega) rfl (by decide) (Src.raw rfl rfl (cells_arr eI (n := i + 1) (by omega))) ?_ (copy_cells p rs.length i pl (by omega)) ?_
    · exact copy_le p rs.length i pl (by omega)
    have hy : (p.take (i + 1) ++ List.replicate (p.length - (i + 1)) 0)[i]? = some x := by rw [List.getElem?_append_left (by rw [List.length_take]; omega), List.getElem?_take_of_lt (by omega)]; exact hx
    have hom : oneMore p i = (p.take (i + 1) ++ List.replicate (p.length - (i + 1)) 0).set i (x + 1) := by unfold oneMore; rw [hvx]
    refine Rn.ask zB 1000 rfl ⟨by omega, by omega⟩ ?_
    refine Rn.loadR zB 1000 rfl (LoadR.fld eI (f := 0) (v := .int .i64 x) hy (show _ = i * 1 + 0 from (Nat.zero_add _)) rfl rfl) ?_
    refine Rn.ask zB 1000 rfl ⟨by omega, by omega⟩ ?_
    refine Rn.storeR zB 1000 rfl ((by rw [hom]; exact StoreR.fld eI (f := 0) (a' := x + 1) hy (show _ = i * 1 + 0 from (Nat.zero_add _)) (by omega) (by rw [w64_id (by omega) (by omega)]; rfl) : StoreR _ _ _ (arr iC (oneMore p i)))) rfl ?_
    have V2 := oneMore_vol B hp hlt (by rw [hvx, hcl]; omega)
    have ce2 := c_enoughM rs ss po (oneMore p i) f1 f2 f3 true (by omega) (by omega) (by omega)
    rw [V2.len] at ce2
    refine Rn.call zB 1000 rfl (ce2) [some 0, some 1, some 2, some 5] rfl (by (repeat' first | exact trivial | exact rfl | exact Or.inl (And.intro rfl rfl) | exact wsucc _ (by omega) | exact wlin (by first | omega | (push_cast; omega)) (by omega) | exact wint (by omega) (by omega) | refine And.intro ?_ ?_ | refine Or.inr ?_)) (by (repeat' first | exact trivial | exact rfl | exact (by decide) | exact zerosI _ | exact zerosN _ | exact OfRaw.rows (by omega) | exact Or.inl (And.intro rfl rfl) | refine And.intro ?_ ?_ | refine Exists.intro _ (Exists.intro _ (And.intro rfl (And.intro (by decide) ?_))))) rfl rfl rfl ?_
    rintro ⟨_, hE2⟩
    refine ⟨_, _, rfl, ?_⟩
    have hw2 := wErr_ok hok V2
    have he2 : enL rs ss po (oneMore p i) = false := by rw [enL_ok hw2]; exact no_more B hp hlt (by rw [hvx, hcl]; omega) (hE2 hw2)
    rw [he2, hw2]
    repeat (refine Rn.split zB 1000 rfl (fun h => by cases h) (fun _ => ?_))
    refine Rn.again zB 1000 rfl (i + 1) [some 0, some 1, some 2, some 3, some 4] (by omega) (hlt) ⟨rfl, rfl, rfl, rfl, rfl, by (repeat' first | exact trivial | exact rfl | exact Or.inl (And.intro rfl rfl) | exact wsucc _ (by omega) | exact wlin (by first | omega | (push_cast; omega)) (by omega) | exact wint (by omega) (by omega) | refine And.intro ?_ ?_ | refine Or.inr ?_), by (repeat' first | exact trivial | exact rfl | exact (by decide) | exact zerosI _ | exact zerosN _ | exact OfRaw.rows (by omega) | exact Or.inl (And.intro rfl rfl) | refine And.intro ?_ ?_ | refine Exists.intro _ (Exists.intro _ (And.intro rfl (And.intro (by decide) ?_))))⟩
  refine Rn.out zB 1000 rfl rfl ?_
  refine Rn.split zB 1000 rfl (fun g1 => ?_) (fun g1 => ?_)
  · repeat (refine Rn.split zB 1000 rfl (fun _ => ?_) (fun h => by cases h))
    exact Rn.fin0 zB 1000 rfl rfl rfl rfl rfl
  obtain ⟨n, rfl⟩ : ∃ n : Nat, k = n := ⟨k.toNat, by simp at g1; omega⟩
  refine Rn.split zB 1000 rfl (fun g2 => ?_) (fun g2 => ?_)
  · exact Rn.fin0 zB 1000 rfl rfl rfl rfl rfl
  have g2 : n ≤ rs.length := by simp at g2; omega
  have hok2 := shareOK_take hok n
  have hlk : (rs.take n).length = n := by rw [List.length_take]; omega
  refine Rn.ask zB 1000 rfl ⟨by first | omega | (dsimp only; omega), by first | omega | (dsimp only; omega), by first | omega | (dsimp only; omega), by first | omega | (dsimp only; omega)⟩ ?_
  have c2 := fun f => c_promiseOKX rs (rs.take n) (fun j r h => by
    rw [List.getElem?_take] at h
    split at h
    · exact h
    · cases h) ss po f f2 f3 hok2
  rw [hlk] at c2
  refine Rn.call zB 1000 rfl (c2 _) [some 0, some 1, some 2] rfl (by (repeat' first | exact trivial | exact rfl | exact Or.inl (And.intro rfl rfl) | exact wsucc _ (by omega) | exact wlin (by first | omega | (push_cast; omega)) (by omega) | exact wint (by omega) (by omega) | refine And.intro ?_ ?_ | refine Or.inr ?_)) (by (repeat' first | exact trivial | exact rfl | exact (by decide) | exact zerosI _ | exact zerosN _ | exact OfRaw.rows (by omega) | exact Or.inl (And.intro rfl rfl) | refine And.intro ?_ ?_ | refine Exists.intro _ (Exists.intro _ (And.intro rfl (And.intro (by decide) ?_))))) rfl rfl rfl ?_
  rintro ⟨q, hq⟩
  refine ⟨_, _, rfl, ?_⟩
  have hqp := promised_take g2 hp hq
  have ql := hq.len
  rw [hlk] at ql
  repeat (refine Rn.split zB 1000 rfl (fun _ => ?_) (fun h => by cases h))
  refine Rn.ask zB 1000 rfl ⟨by first | omega | (dsimp only; omega), by first | omega | (dsimp only; omega), by first | omega | (dsimp only; omega), by first | omega | (dsimp only; omega)⟩ ?_
  have cq := fun fb => c_equalP q p n true fb ql (by omega) (by omega) (fun j hj => by rw [hqp, List.getElem?_take_of_lt hj])
  refine Rn.call0 zB 1000 rfl (cq _) [some 6, some 4] rfl rfl (by (repeat' first | exact trivial | exact rfl | exact Or.inl (And.intro rfl rfl) | exact wsucc _ (by omega) | exact wlin (by first | omega | (push_cast; omega)) (by omega) | exact wint (by omega) (by omega) | refine And.intro ?_ ?_ | refine Or.inr ?_)) (by (repeat' first | exact trivial | exact rfl | exact (by decide) | exact zerosI _ | exact zerosN _ | exact OfRaw.rows (by omega) | exact Or.inl (And.intro rfl rfl) | refine And.intro ?_ ?_ | refine Exists.intro _ (Exists.intro _ (And.intro rfl (And.intro (by decide) ?_))))) rfl rfl rfl rfl rfl ?_
  exact Rn.fin0 zB 1000 rfl rfl rfl rfl rfl
end Go.AM
