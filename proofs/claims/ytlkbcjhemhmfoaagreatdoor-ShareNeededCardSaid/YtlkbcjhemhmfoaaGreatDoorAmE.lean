/- The machine at the program of this seat: its table of types and functions, strconv.Itoa of a number below 100 by the library's contract, structs compared cell by cell: it is told the truth. -/
import Derived.Test.YtlkbcjhemhmfoaaGreatDoorAmK
import Derived.Test.YtlkbcjhemhmfoaaGreatDoorChecked
import Derived.Shelf.Strconv.Itoa3
import Derived.Ground.NamesProg
import Derived.Laws.StructEq
import Derived.KernelRfl
import Derived.Eval
set_option linter.unusedSimpArgs false
set_option linter.unusedVariables false
namespace Go.AM
open Go Go.Proofs Go.Shelf

def Tryz.laysItoa_ren : Go.Shelf.Ren := ⟨fun | 171 => 121 | 243 => 148 | 246 => 170 | 283 => 195 | 284 => 196 | 285 => 197 | 286 => 198 | 129 => 167 | 317 => 211 | 318 => 212 | 319 => 213 | 320 => 214 | 337 => 224 | 338 => 225 | n => n, fun | 3 => 3 | 9 => 9 | 2 => 2 | 4 => 4 | 171 => 235 | 0 => 0 | 53 => 209 | 37 => 216 | 5 => 5 | 173 => 237 | 212 => 256 | 51 => 207 | 20 => 20 | 213 => 257 | 46 => 184 | 232 => 271 | 233 => 272 | n => n, fun | 17 => 2 | 18 => 6 | 19 => 7 | n => n⟩
theorem Tryz.laysItoa : Go.Proofs.LaysM.n171 Tryz.prog Tryz.laysItoa_ren := {
  mixed := by kernel_rfl
  f129 := Tryz.func167.trans (congrArg some (by kernel_rfl))
  f171 := Tryz.func121.trans (congrArg some (by kernel_rfl))
  f243 := Tryz.func148.trans (congrArg some (by kernel_rfl))
  f246 := Tryz.func170.trans (congrArg some (by kernel_rfl))
  f283 := Tryz.func195.trans (congrArg some (by kernel_rfl))
  f284 := Tryz.func196.trans (congrArg some (by kernel_rfl))
  f285 := Tryz.func197.trans (congrArg some (by kernel_rfl))
  f286 := Tryz.func198.trans (congrArg some (by kernel_rfl))
  f317 := Tryz.func211.trans (congrArg some (by kernel_rfl))
  f318 := Tryz.func212.trans (congrArg some (by kernel_rfl))
  f319 := Tryz.func213.trans (congrArg some (by kernel_rfl))
  f320 := Tryz.func214.trans (congrArg some (by kernel_rfl))
  f337 := Tryz.func224.trans (congrArg some (by kernel_rfl))
  f338 := Tryz.func225.trans (congrArg some (by kernel_rfl))
  t0 := Tryz.underlying0
  a0 := Tryz.isAgg0
  z0 := Tryz.sizeOf0
  v0 := Tryz.zeroValue0
  t2 := Tryz.underlying2
  a2 := Tryz.isAgg2
  z2 := Tryz.sizeOf2
  v2 := Tryz.zeroValue2
  t3 := Tryz.underlying3
  a3 := Tryz.isAgg3
  z3 := Tryz.sizeOf3
  v3 := Tryz.zeroValue3
  t4 := Tryz.underlying4
  a4 := Tryz.isAgg4
  z4 := Tryz.sizeOf4
  v4 := Tryz.zeroValue4
  t5 := Tryz.underlying5
  a5 := Tryz.isAgg5
  z5 := Tryz.sizeOf5
  v5 := Tryz.zeroValue5
  t9 := Tryz.underlying9
  a9 := Tryz.isAgg9
  z9 := Tryz.sizeOf9
  v9 := Tryz.zeroValue9
  t20 := Tryz.underlying20
  a20 := Tryz.isAgg20
  z20 := Tryz.sizeOf20
  v20 := Tryz.zeroValue20
  t37 := Tryz.underlying216
  a37 := Tryz.isAgg216
  z37 := Tryz.sizeOf216
  v37 := Tryz.zeroValue216
  t46 := Tryz.underlying184
  a46 := Tryz.isAgg184
  z46 := Tryz.sizeOf184
  v46 := Tryz.zeroValue184
  t51 := Tryz.underlying207
  a51 := Tryz.isAgg207
  z51 := Tryz.sizeOf207
  v51 := Tryz.zeroValue207
  t53 := Tryz.underlying209
  a53 := Tryz.isAgg209
  z53 := Tryz.sizeOf209
  v53 := Tryz.zeroValue209
  t171 := Tryz.underlying235
  a171 := Tryz.isAgg235
  z171 := Tryz.sizeOf235
  v171 := Tryz.zeroValue235
  t173 := Tryz.underlying237
  a173 := Tryz.isAgg237
  z173 := Tryz.sizeOf237
  v173 := Tryz.zeroValue237
  t212 := Tryz.underlying256
  a212 := Tryz.isAgg256
  z212 := Tryz.sizeOf256
  v212 := Tryz.zeroValue256
  t213 := Tryz.underlying257
  a213 := Tryz.isAgg257
  z213 := Tryz.sizeOf257
  t232 := Tryz.underlying271
  a232 := Tryz.isAgg271
  z232 := Tryz.sizeOf271
  v232 := Tryz.zeroValue271
  t233 := Tryz.underlying272
  a233 := Tryz.isAgg272
  z233 := Tryz.sizeOf272
  v233 := Tryz.zeroValue272
  g17 := by kernel_rfl
  g18 := by kernel_rfl
  g19 := by kernel_rfl
  i0 := by kernel_rfl
  i2 := by kernel_rfl
  i3 := by kernel_rfl
  i4 := by kernel_rfl
  i5 := by kernel_rfl
  i9 := by kernel_rfl
  i20 := by kernel_rfl
  i37 := by kernel_rfl
  i46 := by kernel_rfl
  i51 := by kernel_rfl
  i53 := by kernel_rfl
  i171 := by kernel_rfl
  i173 := by kernel_rfl
  i212 := by kernel_rfl
  i232 := by kernel_rfl
  i233 := by kernel_rfl
  m17 := by kernel_rfl
  m18 := by kernel_rfl
  m19 := by kernel_rfl }

/-- strconv.Itoa of a number below 100. -/
noncomputable def itoaE : List AV → Option AV
  | [.one (.int .i64 (.ofNat i))] => bif Nat.ble (i + 1) 100 then some (.one (.str ⟨(Lib.decDigits i).toArray⟩)) else none
  | _ => none
noncomputable def extA (f : Nat) : Option (List AV → Option AV) := bif Nat.beq f 121 then some itoaE else none
noncomputable def wrL : List Nat := [129, 132, 102, 120, 122, 91, 99, 104, 130, 153, 83, 48, 49, 90, 96, 71, 65, 66, 20, 23, 103, 112, 63]
noncomputable def memB (n : Nat) : List Nat → Bool
  | [] => false
  | m :: l => Nat.beq n m || memB n l
noncomputable def eqT (t : Nat) : Option Nat := bif Nat.beq t 57 then some 7 else bif Nat.beq t 85 then some 10 else bif Nat.beq t 50 then some 3 else none
noncomputable def env0 : Env := ⟨tyOf Tryz.prog, fun f => Tryz.prog.funcs[f]?, extA, eqT, fun f => memB f wrL⟩

theorem eqFields_ints {P : Program} {d : Nat} {t : TypeId} (ht : P.underlying t = some (.int .i64)) (htt : (tyOf P t).ty ≠ .none) (hta : (tyOf P t).isAgg = false) {xs ys : List Int} (hlen : xs.length = ys.length) (w : World) :
    ∀ (fs : List Field) (k : Nat), k + fs.length = xs.length → (∀ (j : Nat) (f : Field), fs[j]? = some f → f.name ≠ "_" ∧ f.type = t ∧ f.offset = k + j) →
      (Op.eqFields (d + 1) (xs.map (Value.int .i64)).toArray (ys.map (Value.int .i64)).toArray fs).run P w = .ok (decide (xs.drop k = ys.drop k)) w
  | [], k, hk, _ => by
    have hk : k = xs.length := hk
    rw [List.drop_eq_nil_of_le (by omega), List.drop_eq_nil_of_le (by omega)]
    simp [Op.eqFields]
  | f :: fs, k, hk, hf => by
    simp only [List.length_cons] at hk
    obtain ⟨h1, h2, h3⟩ := hf 0 f rfl
    have hagg := fun w => run_isAgg' (P := P) (t := t) htt w
    have part1 : ∀ (zs : List Int), zs.length = xs.length → (part f.type (zs.map (Value.int .i64)).toArray f.offset).run P w = .ok (.int .i64 (zs.getD k 0)) w := fun zs hz => by
      have hz' : zs[k]? = some (zs.getD k 0) := by rw [List.getD_eq_getElem?_getD, List.getElem?_eq_getElem (show k < zs.length by omega)]; rfl
      unfold part
      simp only [Sem.run_bind, h2, hagg, Result.andThen_ok, hta, Bool.false_eq_true, if_false, h3, Nat.add_zero]
      have : (zs.map (Value.int .i64)).toArray[k]? = some (.int .i64 (zs.getD k 0)) := by rw [List.getElem?_toArray, List.getElem?_map, hz']; rfl
      rw [this]
      simp
    have eq1 : (Op.equalIn (d + 1) f.type (.int .i64 (xs.getD k 0)) (.int .i64 (ys.getD k 0))).run P w = .ok (xs.getD k 0 == ys.getD k 0) w := by
      simp only [Op.equalIn, Sem.run_bind, h2, run_underlying ht, Result.andThen_ok, if_true, Sem.run_pure]
    have ih := eqFields_ints (d := d) ht htt hta hlen w fs (k + 1) (by omega) fun j g hg => by
      obtain ⟨a, b, c⟩ := hf (j + 1) g (by simpa using hg)
      exact ⟨a, b, by omega⟩
    have hx : xs.drop k = xs.getD k 0 :: xs.drop (k + 1) := by rw [List.drop_eq_getElem_cons (show k < xs.length by omega)]; simp [List.getElem?_eq_getElem (show k < xs.length by omega)]
    have hy : ys.drop k = ys.getD k 0 :: ys.drop (k + 1) := by rw [List.drop_eq_getElem_cons (show k < ys.length by omega)]; simp [List.getElem?_eq_getElem (show k < ys.length by omega)]
    rw [Op.eqFields]
    simp only [if_pos h1, Sem.run_bind, part1 xs rfl, part1 ys hlen.symm, eq1, Result.andThen_ok]
    rw [hx, hy]
    by_cases e : xs.getD k 0 = ys.getD k 0
    · have h1 : (xs.getD k 0 == ys.getD k 0) = true := by rw [e]; exact beq_self_eq_true _
      have h2 : decide (xs.getD k 0 :: xs.drop (k + 1) = ys.getD k 0 :: ys.drop (k + 1)) = decide (xs.drop (k + 1) = ys.drop (k + 1)) := decide_eq_decide.2 (by rw [e, List.cons.injEq]; simp)
      rw [h1, h2]
      exact ih
    · have h1 : (xs.getD k 0 == ys.getD k 0) = false := by rw [beq_eq_false_iff_ne]; exact e
      have h2 : decide (xs.getD k 0 :: xs.drop (k + 1) = ys.getD k 0 :: ys.drop (k + 1)) = false := decide_eq_false (by rw [List.cons.injEq]; exact fun h => e h.1)
      rw [h1, h2]
      rfl

theorem seq_of {P : Program} {t ti : TypeId} {fs : Array Field} (hu : P.underlying t = some (.struct fs)) (hp : P.stoodInHeld t = false) (hg : P.eqGuardType P.depth t = false) (ht : P.underlying ti = some (.int .i64)) (htt : (tyOf P ti).ty ≠ .none) (hta : (tyOf P ti).isAgg = false)
    (hf : ∀ (j : Nat) (f : Field), fs.toList[j]? = some f → f.name ≠ "_" ∧ f.type = ti ∧ f.offset = j) {n : Nat} (hn : n = fs.size) : P.eqGuardType P.depth t = false ∧
    ∀ xs ys : List Int, xs.length = n → ys.length = n → ∀ w, (Op.equal t (.agg (xs.map (Value.int .i64)).toArray) (.agg (ys.map (Value.int .i64)).toArray)).run P w = .ok (decide (xs = ys)) w := by
  refine ⟨hg, fun xs ys hx hy w => ?_⟩
  have hfs : P.fieldsOf t = fs := by simp [Program.fieldsOf, hu]
  have := eqFields_ints (P := P) (d := 9998) ht htt hta (hx.trans hy.symm) w fs.toList 0 (by simp; omega) fun j f hj => by
    obtain ⟨a, b, c⟩ := hf j f hj
    exact ⟨a, b, by omega⟩
  unfold Op.equal
  rw [show Op.maxDepth = 9999 + 1 from rfl, run_equalIn_struct (P := P) w 9999 t _ _ (by rw [hfs]; exact hu) hp, hfs, this]
  simp

theorem itoa_small (i : Nat) (hi : i < 100) (w : World) : Calls Tryz.prog 121 #[.int .i64 i] w fun e w' => e = .returned (.string ⟨(Lib.decDigits i).toArray⟩) ∧ w' = w := Any.strconv_Itoa_small { Tryz.laysItoa with } i hi w

theorem ty3 : (tyOf Tryz.prog 3).ty = .int .i64 ∧ (tyOf Tryz.prog 3).isAgg = false := by
  have h : tyOf Tryz.prog 3 = ⟨.int .i64, 1, 8, [.int .i64 0]⟩ := by kernel_rfl
  rw [h]; exact ⟨rfl, rfl⟩

theorem names : Tryz.prog.funcs.toList.all (fun fn => !(fn.name == "runtime.NumGoroutine")) = true := by kernel_rfl

theorem env0_seq : SEqOK Tryz.prog env0 := by
  intro t n h
  have h : eqT t = some n := h
  have h3 : (tyOf Tryz.prog 3).ty ≠ .none := by rw [ty3.1]; exact fun h => nomatch h
  unfold eqT at h
  cases h1 : Nat.beq t 57 with
  | true =>
    have := Nat.eq_of_beq_eq_true h1
    subst this
    obtain rfl : 7 = n := by simpa using h
    exact seq_of Tryz.underlying57 Tryz.stoodInHeld57 Tryz.eqGuardType57 Tryz.underlying3 h3 ty3.2 (fun j f hf => by
      match j, hf with
      | 0, hf | 1, hf | 2, hf | 3, hf | 4, hf | 5, hf | 6, hf => simp at hf; subst hf; exact ⟨by decide, rfl, rfl⟩
      | j + 7, hf => simp at hf) rfl
  | false =>
    rw [h1, cond_false] at h
    cases h2 : Nat.beq t 85 with
    | true =>
      have := Nat.eq_of_beq_eq_true h2
      subst this
      obtain rfl : 10 = n := by simpa using h
      exact seq_of Tryz.underlying85 Tryz.stoodInHeld85 Tryz.eqGuardType85 Tryz.underlying3 h3 ty3.2 (fun j f hf => by
        match j, hf with
        | 0, hf | 1, hf | 2, hf | 3, hf | 4, hf | 5, hf | 6, hf | 7, hf | 8, hf | 9, hf => simp at hf; subst hf; exact ⟨by decide, rfl, rfl⟩
        | j + 10, hf => simp at hf) rfl
    | false =>
      rw [h2, cond_false] at h
      cases h4 : Nat.beq t 50 with
      | true =>
        have := Nat.eq_of_beq_eq_true h4
        subst this
        obtain rfl : 3 = n := by simpa using h
        exact seq_of Tryz.underlying50 Tryz.stoodInHeld50 Tryz.eqGuardType50 Tryz.underlying3 h3 ty3.2 (fun j f hf => by
          match j, hf with
          | 0, hf | 1, hf | 2, hf => simp at hf; subst hf; exact ⟨by decide, rfl, rfl⟩
          | j + 3, hf => simp at hf) rfl
      | false => rw [h4, cond_false] at h; cases h

theorem enter_of {P : Program} {f : FuncId} {fn : Func} (hF : P.funcs[f]? = some fn) (hn : (fn.name == "runtime.NumGoroutine") = false) (hb : fn.body.isNone = false) (vs : Array Value) (w : World) : (callFunc f vs).run P w = .ok (.enter f vs) w := by
  unfold callFunc
  simp only [Sem.run_bind, Result.andThen_ok]
  have hn' : fn.name ≠ "runtime.NumGoroutine" := by simpa using hn
  have hb' : fn.body ≠ none := by intro h; rw [h] at hb; cases hb
  simp [hF, hn', hb']

theorem itoa_enter (vs : Array Value) (w : World) : (callFunc 121 vs).run Tryz.prog w = .ok (.enter 121 vs) w := enter_of Tryz.func121 (by kernel_rfl) (by kernel_rfl) vs w

theorem itoaE_ok {args : List AV} {v : AV} (hg : itoaE args = some v) (ρ : Rho) (vs : Array Value) (w : World) (hvs : LR (avR ρ) args vs.toList) :
    Calls Tryz.prog 121 vs w fun e w' => ∃ v', e = .returned v' ∧ avR (fun _ => none) v v' ∧ w'.os = w.os ∧ w'.tape = w.tape ∧ w'.output = w.output ∧ w.heap.size ≤ w'.heap.size ∧ (∀ b, b < w.heap.size → w'.heap[b]? = w.heap[b]?) ∧ ∀ a, w'.frozen? a = w.frozen? a := by
  unfold itoaE at hg
  split at hg
  · rename_i i
    cases hi : Nat.ble (i + 1) 100 with
    | false => rw [hi, cond_false] at hg; cases hg
    | true =>
      rw [hi, cond_true] at hg
      injection hg with hg
      subst hg
      have hi' : i < 100 := Nat.le_of_ble_eq_true hi
      have hsz : vs.size = 1 := by rw [← Array.length_toList]; exact hvs.length.symm
      obtain ⟨v0, rfl⟩ : ∃ v0, vs = #[v0] := ⟨vs[0], by apply Array.ext <;> simp [hsz]; intro i h1; subst h1; rfl⟩
      have hv0 : v0 = .int .i64 (Int.ofNat i) := hvs.1
      subst hv0
      refine (itoa_small i hi' w).mono fun e w' ⟨he, hw⟩ => ?_
      subst hw
      exact ⟨_, he, rfl, rfl, rfl, rfl, Nat.le_refl _, fun _ _ => rfl, fun _ => rfl⟩
  · cases hg

theorem env0_mixed : Tryz.prog.follows .mixedOrders = true := Tryz.checked.mixed
theorem env0_T : env0.T = tyOf Tryz.prog := by kernel_rfl
theorem env0_F (f : FuncId) (fn : Func) (h : env0.F f = some fn) : Tryz.prog.funcs[f]? = some fn ∧ (fn.name == "runtime.NumGoroutine") = false := by
  have h : Tryz.prog.funcs[f]? = some fn := h
  refine ⟨h, ?_⟩
  have hm : fn ∈ Tryz.prog.funcs.toList := Array.mem_toList_iff.2 (Array.mem_of_getElem? h)
  have := List.all_eq_true.1 names fn hm
  rw [Bool.not_eq_true'] at this
  exact this
theorem env0_E (f : FuncId) (g : List AV → Option AV) (h : env0.E f = some g) : f = 121 ∧ g = itoaE := by
  have h : extA f = some g := h
  unfold extA at h
  cases h1 : Nat.beq f 121 with
  | false => rw [h1, cond_false] at h; cases h
  | true =>
    have := Nat.eq_of_beq_eq_true h1
    rw [h1, cond_true] at h
    injection h with h
    exact ⟨this, h.symm⟩

theorem env0_ok : EnvOK Tryz.prog env0 := EnvOK.mk env0_mixed env0_T env0_seq env0_F fun f g args v h hg hf => by
  obtain ⟨rfl, rfl⟩ := env0_E f g h
  exact ⟨itoa_enter, fun ρ vs w hvs => itoaE_ok hg ρ vs w hvs⟩

end Go.AM
