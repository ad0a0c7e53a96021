/-
  AM: the evaluator's equations, for the simplifier.
-/
import Derived.Test.YthfphmbjhmaomaaAmCon
namespace Go.AM
variable {P : Program} {I : Inv} {τ : T Value} {A : CW} {ops : Array Oper} {s : St}

def callOk (fn : Func) (n : Nat) : Bool := Nat.ble n fn.ntmps && !(fn.name == "runtime.NumGoroutine")
theorem callOk_sound {fn : Func} {n : Nat} (h : callOk fn n = true) : n ≤ fn.ntmps ∧ fn.name ≠ "runtime.NumGoroutine" := by
  simp [callOk] at h; exact ⟨by simpa using h.1, h.2⟩

/-! one operation -/
def callV (P : Program) (I : Inv) (f : Value) (args : Array Value) (A : CW) : Option (Value × CW) := match f with
  | .func fn first cap => match fn with
    | .func g => I (.func g) (first ++ args ++ cap) A
    | .yield l => if first.size = 0 ∧ cap.size = 0 then I (.yield l) args A else none
    | _ => none
  | _ => none
theorem callV_func (g : FuncId) (first cap args : Array Value) : callV P I (.func (.func g) first cap) args A = I (.func g) (first ++ args ++ cap) A := Eq.trans rfl rfl
theorem callV_yield (l : Nat) (args : Array Value) : callV P I (.func (.yield l) #[] #[]) args A = I (.yield l) args A := Eq.trans rfl rfl

section
variable {d : Option Tmp} {t : TypeId} {p : String} {af : Array Edge} {g : Option (Nat × Bool)}
theorem op_move (x : Operand) : runOp P I ⟨d, .move x, t, p, af, g⟩ τ A = some (ev τ x, A) := Eq.trans rfl rfl
theorem op_assign (x : Operand) : runOp P I ⟨d, .assign x, t, p, af, g⟩ τ A = some (ev τ x, A) := Eq.trans rfl rfl
def pickV (c a b : Value) (A : CW) : Option (Value × CW) := match c with
  | .bool true => some (a, A)
  | .bool false => some (b, A)
  | _ => none
theorem pickV_bool (c : Bool) (a b : Value) : pickV (.bool c) a b A = some (if c then a else b, A) := by cases c <;> rfl
theorem op_pick (c a b : Operand) : runOp P I ⟨d, .pick c a b, t, p, af, g⟩ τ A = pickV (ev τ c) (ev τ a) (ev τ b) A := Eq.trans rfl rfl
def allocV (P : Program) (t : TypeId) (A : CW) : Option (Value × CW) := (zeroOf P t).map fun z => newCells A z.cells.toList t false
theorem op_alloc (e : TypeId) : runOp P I ⟨d, .alloc e, t, p, af, g⟩ τ A = allocV P e A := Eq.trans rfl rfl
def boxV (e : TypeId) (x : Value) (A : CW) : Option (Value × CW) := if x.cells.toList.all oneB = true then some (newCells A x.cells.toList e false) else none
theorem op_box (e : TypeId) (x : Operand) : runOp P I ⟨d, .box e x, t, p, af, g⟩ τ A = boxV e (ev τ x) A := Eq.trans rfl rfl
theorem op_build (e : TypeId) (ps : Array (Nat × Operand)) : runOp P I ⟨d, .build e ps, t, p, af, g⟩ τ A = (build P e (ps.toList.map fun (i, x) => (i, ev τ x))).map fun x => (x, A) := Eq.trans rfl rfl
theorem op_buildSlice (e : TypeId) (n : Nat) (ps : Array (Nat × Operand)) : runOp P I ⟨d, .buildSlice e n ps, t, p, af, g⟩ τ A = buildSlice P A e n (ps.toList.map fun (i, x) => (i, ev τ x)) := Eq.trans rfl rfl
theorem op_load (e : TypeId) (x : Operand) : runOp P I ⟨d, .load e x, t, p, af, g⟩ τ A = (loadAt P A e (ev τ x)).map fun x => (x, A) := Eq.trans rfl rfl
theorem op_store (e : TypeId) (x y : Operand) : runOp P I ⟨d, .store e x y, t, p, af, g⟩ τ A = (storeAt P A e (ev τ x) (ev τ y)).map fun A => (undef, A) := Eq.trans rfl rfl
theorem op_binOp (b : BinOp) (e e' : TypeId) (x y : Operand) : runOp P I ⟨d, .binOp b e x y e', t, p, af, g⟩ τ A = (binOp P b e x y (ev τ x) (ev τ y)).map fun x => (x, A) := Eq.trans rfl rfl
theorem op_unOp (b : UnOp) (e : TypeId) (x : Operand) : runOp P I ⟨d, .unOp b e x, t, p, af, g⟩ τ A = (unOp P b (ev τ x)).map fun x => (x, A) := Eq.trans rfl rfl
theorem op_convert (e e' : TypeId) (x : Operand) : runOp P I ⟨d, .convert e e' x, t, p, af, g⟩ τ A = (convert P e e' (ev τ x)).map fun x => (x, A) := Eq.trans rfl rfl
theorem op_makeFunc (f : FuncId) (a c : Array Operand) : runOp P I ⟨d, .makeFunc (.func f) a c, t, p, af, g⟩ τ A = some (.func (.func f) (a.map (ev τ)) (c.map (ev τ)), A) := Eq.trans rfl rfl
theorem op_makeMap (e : TypeId) : runOp P I ⟨d, .makeMap e none, t, p, af, g⟩ τ A = some (.map (some A.n), A.push (.map [] 0 0)) := Eq.trans rfl rfl
theorem op_makeSlice (e : TypeId) (x y : Operand) : runOp P I ⟨d, .makeSlice e x y, t, p, af, g⟩ τ A = makeSlice P A e (ev τ x) (ev τ y) := Eq.trans rfl rfl
theorem op_slice (e : TypeId) (x : Operand) (lo hi : Option Operand) : runOp P I ⟨d, .slice e x lo hi none, t, p, af, g⟩ τ A = (sliceOf P e (ev τ x) (lo.map (ev τ)) (hi.map (ev τ))).map fun x => (x, A) := Eq.trans rfl rfl
theorem op_slice3 (e : TypeId) (x m : Operand) (lo hi : Option Operand) : runOp P I ⟨d, .slice e x lo hi (some m), t, p, af, g⟩ τ A = slice3 P A e (ev τ x) (lo.map (ev τ)) (hi.map (ev τ)) (some (ev τ m)) := Eq.trans rfl rfl
theorem op_fieldAddr (e : TypeId) (x : Operand) (f : Nat) : runOp P I ⟨d, .fieldAddr e x f, t, p, af, g⟩ τ A = (fieldAddr P e (ev τ x) f).map fun x => (x, A) := Eq.trans rfl rfl
theorem op_field (e : TypeId) (x : Operand) (f : Nat) : runOp P I ⟨d, .field e x f, t, p, af, g⟩ τ A = (field P e (ev τ x) f).map fun x => (x, A) := Eq.trans rfl rfl
theorem op_indexAddr (e : TypeId) (x y : Operand) : runOp P I ⟨d, .indexAddr e x y, t, p, af, g⟩ τ A = (indexAddr P e (ev τ x) (ev τ y)).map fun x => (x, A) := Eq.trans rfl rfl
theorem op_index (e : TypeId) (x y : Operand) : runOp P I ⟨d, .index e x y, t, p, af, g⟩ τ A = (index P e (ev τ x) (ev τ y)).map fun x => (x, A) := Eq.trans rfl rfl
theorem op_lookup (e : TypeId) (x y : Operand) (ok : Bool) : runOp P I ⟨d, .lookup e x y ok, t, p, af, g⟩ τ A = (lookup P A e (ev τ x) (ev τ y) ok).map fun x => (x, A) := Eq.trans rfl rfl
theorem op_mapUpdate (e : TypeId) (m x y : Operand) : runOp P I ⟨d, .mapUpdate e m x y, t, p, af, g⟩ τ A = (mapUpdate P A e (ev τ m) (ev τ x) (ev τ y)).map fun A => (undef, A) := Eq.trans rfl rfl
def extractV (x : Value) (i : Nat) : Option Value := match x with
  | .tuple vs => vs[i]?
  | _ => none
theorem extractV_tuple (vs : Array Value) (i : Nat) : extractV (.tuple vs) i = vs[i]? := Eq.trans rfl rfl
theorem op_extract (x : Operand) (i : Nat) : runOp P I ⟨d, .extract x i, t, p, af, g⟩ τ A = (extractV (ev τ x) i).map fun x => (x, A) := Eq.trans rfl rfl
theorem op_append (xs : Array Operand) (ts : Array TypeId) : runOp P I ⟨d, .call ⟨.builtin .append, xs, ts⟩, t, p, af, g⟩ τ A = append P A ts (xs.map (ev τ)) := Eq.trans rfl rfl
theorem op_copy (xs : Array Operand) (ts : Array TypeId) : runOp P I ⟨d, .call ⟨.builtin .copy, xs, ts⟩, t, p, af, g⟩ τ A = copy P A ts (xs.map (ev τ)) := Eq.trans rfl rfl
theorem op_len (xs : Array Operand) (ts : Array TypeId) : runOp P I ⟨d, .call ⟨.builtin .len, xs, ts⟩, t, p, af, g⟩ τ A = (len P A ts (xs.map (ev τ))).map fun x => (x, A) := Eq.trans rfl rfl
theorem op_cap (xs : Array Operand) (ts : Array TypeId) : runOp P I ⟨d, .call ⟨.builtin .cap, xs, ts⟩, t, p, af, g⟩ τ A = (capOf P A ts (xs.map (ev τ))).map fun x => (x, A) := Eq.trans rfl rfl
theorem op_call (f : Operand) (xs : Array Operand) (ts : Array TypeId) : runOp P I ⟨d, .call ⟨.value f, xs, ts⟩, t, p, af, g⟩ τ A = callV P I (ev τ f) (xs.map (ev τ)) A := Eq.trans rfl rfl
def maxV (P : Program) (ts : Array TypeId) (t : TypeId) (b : Bool) (xs : Array Value) : Option Value :=
  if xs.toList.all flatB then flatly (pureRun P (if b then Builtin.max_ ts t xs else Builtin.min_ ts t xs)) else none
theorem op_max (xs : Array Operand) (ts : Array TypeId) : runOp P I ⟨d, .call ⟨.builtin .max, xs, ts⟩, t, p, af, g⟩ τ A = (maxV P ts t true (xs.map (ev τ))).map fun x => (x, A) := by
  show (if _ then _ else none) = _
  unfold maxV
  split <;> rfl
theorem op_min (xs : Array Operand) (ts : Array TypeId) : runOp P I ⟨d, .call ⟨.builtin .min, xs, ts⟩, t, p, af, g⟩ τ A = (maxV P ts t false (xs.map (ev τ))).map fun x => (x, A) := by
  show (if _ then _ else none) = _
  unfold maxV
  split <;> rfl
theorem op_nilCheck (x : Operand) {a : Addr} (h : ev τ x = .pointer (some a)) : runOp P I ⟨d, .nilCheck x, t, p, af, g⟩ τ A = some (.pointer (some a), A) := by
  show prim P ⟨d, .nilCheck x, t, p, af, g⟩ τ A = _
  simp [prim, h]

/-! a step of a region -/
def andThen (d : Option Tmp) (s : St) : Option (Value × CW) → Option St
  | some (v, A) => putT s d v A
  | none => none
theorem andThen_some (s : St) (v : Value) (A : CW) : andThen d s (some (v, A)) = putT s d v A := Eq.trans rfl rfl
theorem putT_none (v : Value) (A' : CW) (τ : T Value) (nt : Nat) (A : CW) (df : List Nat) : putT ⟨τ, nt, A, df⟩ none v A' = some ⟨τ, nt, A', df⟩ := Eq.trans rfl rfl
theorem putT_some (k : Nat) (v : Value) (A' : CW) (τ : T Value) (nt : Nat) (A : CW) (df : List Nat) (h : Nat.blt k nt = true) : putT ⟨τ, nt, A, df⟩ (some k) v A' = some ⟨τ.set k v, nt, A', df⟩ := by
  have : k < nt := by simpa using h
  simp [putT, this]
theorem step_plain (o : Op) (τ : T Value) (nt : Nat) (A : CW) (df : List Nat) : stepOp P I ops ⟨d, o, t, p, af, none⟩ ⟨τ, nt, A, df⟩ = andThen d ⟨τ, nt, A, df⟩ (runOp P I ⟨d, o, t, p, af, none⟩ τ A) := Eq.trans rfl rfl
def bOf : Option Value → Option Bool
  | some (.bool b) => some b
  | _ => none
theorem bOf_bool (b : Bool) : bOf (some (.bool b)) = some b := Eq.trans rfl rfl
def gdst (ops : Array Oper) (j : Nat) : Option Tmp := match ops[j]? with
  | some o => o.dst
  | none => none
def gsel (w : Bool) (x y : Option St) : Option Bool → Option St
  | some b => if b = w then x else y
  | none => y
theorem gsel_some (w b : Bool) (x y : Option St) : gsel w x y (some b) = if b = w then x else y := Eq.trans rfl rfl
def gget (τ : T Value) : Option Tmp → Option Value
  | some k => τ.get k
  | none => none
theorem gget_some (τ : T Value) (k : Tmp) : gget τ (some k) = τ.get k := Eq.trans rfl rfl
theorem step_guard (o : Op) (j : Nat) (w : Bool) (τ : T Value) (nt : Nat) (A : CW) (df : List Nat) :
    stepOp P I ops ⟨d, o, t, p, af, some (j, w)⟩ ⟨τ, nt, A, df⟩ = gsel w (andThen d ⟨τ, nt, A, df⟩ (runOp P I ⟨d, o, t, p, af, some (j, w)⟩ τ A)) (putT ⟨τ, nt, A, df⟩ d undef A) (bOf (gget τ (gdst ops j))) := by
  have hw : wantedB ⟨d, o, t, p, af, some (j, w)⟩ ops τ = match bOf (gget τ (gdst ops j)) with
    | some b => b == w
    | none => false := by
    unfold wantedB gdst
    dsimp only
    cases hj : ops[j]? with
    | none => simp [gget, bOf]
    | some o' =>
      simp only [Option.bind_some]
      cases o'.dst with
      | none => rfl
      | some k =>
        simp only [gget]
        cases τ.get k with
        | none => rfl
        | some v => cases v <;> rfl
  unfold stepOp
  simp only [hw]
  cases bOf (gget τ (gdst ops j)) with
  | none => rfl
  | some b =>
    simp only [gsel]
    by_cases h : b = w
    · subst h; simp only [beq_self_eq_true, if_true]; rfl
    · rw [if_neg h, if_neg (by simpa using h)]
end
theorem ops_nil : runOps P I ops [] s = some s := Eq.trans rfl rfl
def stK (f : St → Option St) : Option St → Option St
  | some s => f s
  | none => none
theorem stK_some (f : St → Option St) (s : St) : stK f (some s) = f s := Eq.trans rfl rfl
theorem ops_cons (o : Oper) (l : List Oper) : runOps P I ops (o :: l) s = stK (runOps P I ops l) (stepOp P I ops o s) := by
  simp only [runOps]; cases stepOp P I ops o s <;> rfl
theorem region_plain : runRegion P I ops false s = runOps P I ops ops.toList s := Eq.trans rfl rfl

/-! operands -/
theorem ev_tmp (k : Nat) : ev τ (.tmp k) = (τ.get k).getD undef := Eq.trans rfl rfl
theorem ev_const (v : Value) : ev τ (.const v) = v := Eq.trans rfl rfl
theorem ev_func (f : FuncId) : ev τ (.func f) = .func (.func f) #[] #[] := Eq.trans rfl rfl
theorem ev_global (k : Nat) : ev τ (.global k) = .pointer (some ⟨k, 0, none⟩) := Eq.trans rfl rfl

/-! integers -/
theorem bin_int (b : BinOp) (e : TypeId) (x y : Operand) (k : IntKind) (m n : Int) : binOp P b e x y (.int k m) (.int k n) = intBin b k m n := by
  unfold binOp; simp
theorem bin_shift (b : BinOp) (e : TypeId) (x y : Operand) (k k' : IntKind) (m n : Int) (h : isShift b = true) : binOp P b e x y (.int k m) (.int k' n) = intBin b k m n := by
  unfold binOp; simp [h]
theorem ib_add (k : IntKind) (m n : Int) : intBin .add k m n = some (.int k (k.wrap (m + n))) := Eq.trans rfl rfl
theorem ib_sub (k : IntKind) (m n : Int) : intBin .sub k m n = some (.int k (k.wrap (m - n))) := Eq.trans rfl rfl
theorem ib_mul (k : IntKind) (m n : Int) : intBin .mul k m n = some (.int k (k.wrap (m * n))) := Eq.trans rfl rfl
theorem ib_quo (k : IntKind) (m n : Int) (h : n ≠ 0) : intBin .quo k m n = some (.int k (k.wrap (m.tdiv n))) := by simp [intBin, h]
theorem ib_rem (k : IntKind) (m n : Int) (h : n ≠ 0) : intBin .rem k m n = some (.int k (m.tmod n)) := by simp [intBin, h]
theorem ib_eql (k : IntKind) (m n : Int) : intBin .eql k m n = some (.bool (decide (m = n))) := Eq.trans rfl rfl
theorem ib_neq (k : IntKind) (m n : Int) : intBin .neq k m n = some (.bool (!decide (m = n))) := by simp [intBin]; rfl
theorem ib_lss (k : IntKind) (m n : Int) : intBin .lss k m n = some (.bool (decide (m < n))) := Eq.trans rfl rfl
theorem ib_leq (k : IntKind) (m n : Int) : intBin .leq k m n = some (.bool (decide (m ≤ n))) := Eq.trans rfl rfl
theorem ib_gtr (k : IntKind) (m n : Int) : intBin .gtr k m n = some (.bool (decide (n < m))) := Eq.trans rfl rfl
theorem ib_geq (k : IntKind) (m n : Int) : intBin .geq k m n = some (.bool (decide (n ≤ m))) := Eq.trans rfl rfl
theorem wrap64_of {n : Int} (h : -9223372036854775808 ≤ n ∧ n ≤ 9223372036854775807) : IntKind.i64.wrap n = n := by
  simp [IntKind.wrap, IntKind.bits, IntKind.signed]; omega
theorem un_not (b : Bool) : unOp P .not (.bool b) = some (.bool (!b)) := Eq.trans rfl rfl

/-! memory -/
theorem get_push_lt {k : Nat} {o : Ob} (h : k < A.n) : (A.push o).get k = A.get k := CW.get_push_ne _ _ (by omega)
theorem load_agg {e : TypeId} {k o : Nat} {sp : Option Nat} {n : Nat} {cs : List Value} (h1 : aggB P e = some true) (h2 : szOf P e = some n) (h3 : cellsAt A k o n = some cs) : loadAt P A e (.pointer (some ⟨k, o, sp⟩)) = some (.agg cs.toArray) := by
  simp [loadAt, h1, h2, h3]
theorem load_one {e : TypeId} {k o : Nat} {sp : Option Nat} (h1 : aggB P e = some false) : loadAt P A e (.pointer (some ⟨k, o, sp⟩)) = cellAt A k o := by
  simp [loadAt, h1]
theorem cell_of {k o : Nat} {vs : List Value} {e : TypeId} {lo ro : Bool} {ver : Nat} (h : A.get k = .cells vs e lo ro ver) : cellAt A k o = vs[o]? := by simp [cellAt, h]
theorem cells_of {k o n : Nat} {vs : List Value} {e : TypeId} {lo ro : Bool} {ver : Nat} (h : A.get k = .cells vs e lo ro ver) (hl : o + n ≤ vs.length) : cellsAt A k o n = some ((vs.drop o).take n) := by simp [cellsAt, h, hl]
theorem put_of {k o : Nat} {cs vs : List Value} {e : TypeId} {lo : Bool} {ver : Nat} (h : A.get k = .cells vs e lo false ver) (hl : o + cs.length ≤ vs.length) (hc : cs.all oneB = true) : putCells A k o cs = some (A.set k (.cells (splice vs o cs) e lo false (ver + 1))) := by
  simp [putCells, h, hl]; simpa using hc

/-! a region that draws its order -/
def unord (ops : Array Oper) (bf : T Nat) (i : Nat) (f : Oper → Bool) : Bool := (numbered ops.toList 0).any fun x => f x.2 && !ahead bf i x.1 && !ahead bf x.1 i
def isLd (o : Oper) : Bool := match o.op with
  | .load .. | .lookup .. => true
  | .call { callee := .builtin .len, .. } | .call { callee := .builtin .cap, .. } => true
  | _ => false
/-- The order, for each operation whether a load may come on either side of it, and whether it is a load that may come on either side of an effect. -/
def plan (ops : Array Oper) : List (Nat × Bool × Bool) := (orderOf ops).map fun x => (x.1, isEff x.2.op && unord ops (bfOf ops) x.1 isLd, isLd x.2 && unord ops (bfOf ops) x.1 fun o => isEff o.op)
def Keeps (n : Nat) (A A' : CW) : Prop := ∀ k, k < n → A'.get k = A.get k
def LdOk (n : Nat) : Option Nat → Prop
  | some k => k < n
  | none => True
noncomputable def chk (p q : Prop) (x : Option St) : Option St := open Classical in if p ∧ q then x else none
theorem chk_true (x : Option St) : chk True True x = x := by simp [chk]
noncomputable def drawRun (P : Program) (I : Inv) (ops : Array Oper) (n : Nat) : List (Nat × Bool × Bool) → St → Option St
  | [], s => some s
  | (i, b, c) :: rest, s => match ops[i]? with
    | some o => match stepOp P I ops o s with
      | some s' => chk (b = true → Keeps n s.A s'.A) (c = true → LdOk n (readsAt s.τ o.op)) (drawRun P I ops n rest s')
      | none => none
    | none => none

theorem readsAt_isLd {o : Oper} {k : Nat} (h : readsAt τ o.op = some k) : isLd o = true := by
  unfold readsAt at h
  unfold isLd
  split at h <;> first | (rename_i h1; rw [h1]; done) | (cases h; done) | skip
  all_goals (rename_i h1; rw [h1])
theorem draw_trace {n : Nat} (ops : Array Oper) (ld : Nat → Oper → Bool × Bool) : ∀ (L : List (Nat × Oper)) (s z : St), (∀ x ∈ L, ops[x.1]? = some x.2) → drawRun P I ops n (L.map fun x => (x.1, (ld x.1 x.2).1, (ld x.1 x.2).2)) s = some z →
    ∃ tr, trace P I ops L s = some (tr, z) ∧ ∀ e ∈ tr, (e.i, e.o) ∈ L ∧ ((ld e.i e.o).1 = true → Keeps n e.s.A e.s'.A) ∧ ((ld e.i e.o).2 = true → LdOk n (readsAt e.s.τ e.o.op))
  | [], s, z, _, h => by simp only [List.map_nil, drawRun] at h; cases h; exact ⟨[], rfl, fun e he => by cases he⟩
  | x :: L, s, z, hm, h => by
    simp only [List.map_cons, drawRun] at h
    rw [hm x (by simp)] at h
    dsimp only at h
    split at h
    · rename_i s' hs
      unfold chk at h
      split at h
      · rename_i hc
        obtain ⟨tr, h1, h2⟩ := draw_trace ops ld L s' z (fun y hy => hm y (by simp [hy])) h
        refine ⟨⟨x.1, x.2, s, s'⟩ :: tr, by simp only [trace, hs, h1], fun e he => ?_⟩
        rcases List.mem_cons.1 he with rfl | he
        · exact ⟨by simp, hc.1, hc.2⟩
        · obtain ⟨a, b⟩ := h2 e he
          exact ⟨by simp [a], b⟩
      · cases h
    · cases h
theorem region_draw {z : St} {L : List (Nat × Bool × Bool)} (hr : regionOk ops = true) (hL : plan ops = L) (h : drawRun P I ops s.A.n L s = some z) : runRegion P I ops true s = some z := by
  subst hL
  have hget : ∀ x ∈ orderOf ops, ops[x.1]? = some x.2 := fun x hx => by
    have := mem_orderGo _ _ _ _ hx
    obtain ⟨j, h1, h2⟩ := numbered_get _ _ _ this
    rw [h2, Nat.zero_add]; simpa using h1
  have hmem : ∀ x ∈ orderOf ops, x ∈ numbered ops.toList 0 := fun x hx => mem_orderGo _ _ _ _ hx
  obtain ⟨tr, h1, h2⟩ := draw_trace ops (fun i o => (isEff o.op && unord ops (bfOf ops) i isLd, isLd o && unord ops (bfOf ops) i fun o => isEff o.op)) (orderOf ops) s z hget h
  unfold runRegion
  rw [if_pos rfl, if_pos hr, h1]
  dsimp only
  rw [if_pos]
  unfold loadsOk
  rw [List.all_eq_true]
  intro e he
  split
  · rename_i k hk
    rw [List.all_eq_true]
    intro e' he'
    unfold loadOk
    cases he1 : isEff e'.o.op with
    | false => rfl
    | true =>
      cases ha : ahead (bfOf ops) e.i e'.i with
      | true => simp
      | false =>
        cases hb : ahead (bfOf ops) e'.i e.i with
        | true => simp
        | false =>
          obtain ⟨m1, a1, b1⟩ := h2 e he
          obtain ⟨m2, a2, b2⟩ := h2 e' he'
          have hld := readsAt_isLd hk
          have u1 : unord ops (bfOf ops) e.i (fun o => isEff o.op) = true := by
            unfold unord; rw [List.any_eq_true]; exact ⟨_, hmem _ m2, by simp [he1, ha, hb]⟩
          have u2 : unord ops (bfOf ops) e'.i isLd = true := by
            unfold unord; rw [List.any_eq_true]; exact ⟨_, hmem _ m1, by simp [hld, ha, hb]⟩
          have c1 := b1 (by simp [hld, u1])
          have c2 := a2 (by simp [he1, u2])
          rw [hk] at c1
          have c1 : k < s.A.n := c1
          simp [c1, c2 k c1]
  · rfl
/-- The same, for the simplifier: where the order of our own goes through, it is what the region comes to. -/
def drawOr (P : Program) (I : Inv) (ops : Array Oper) (s : St) : Option St := runRegion P I ops true s
def orK (y : Option St) : Option St → Option St
  | some z => some z
  | none => y
theorem orK_some (y : Option St) (z : St) : orK y (some z) = some z := Eq.trans rfl rfl
theorem region_draw_eq (L : List (Nat × Bool × Bool)) (hr : regionOk ops = true) (hL : plan ops = L) : runRegion P I ops true s = orK (drawOr P I ops s) (drawRun P I ops s.A.n L s) := by
  cases h : drawRun P I ops s.A.n L s with
  | none => rfl
  | some z => rw [region_draw hr hL h]; rfl
def opAt (ops : Array Oper) (i : Nat) (f : Oper → Option St) : Option St := match ops[i]? with
  | some o => f o
  | none => none
theorem draw_nil {n : Nat} : drawRun P I ops n [] s = some s := Eq.trans rfl rfl
theorem draw_cons {n i : Nat} {b c : Bool} {rest : List (Nat × Bool × Bool)} : drawRun P I ops n ((i, b, c) :: rest) s =
    opAt ops i fun o => stK (fun s' => chk (b = true → Keeps n s.A s'.A) (c = true → LdOk n (readsAt s.τ o.op)) (drawRun P I ops n rest s')) (stepOp P I ops o s) := by
  simp only [drawRun, opAt]
  cases ops[i]? with
  | none => rfl
  | some o =>
    dsimp only
    cases stepOp P I ops o s <;> rfl
theorem ld_load {e : TypeId} {x : Operand} : readsAt τ (.load e x) = idOf (ev τ x) := Eq.trans rfl rfl
theorem id_ptr (a : Addr) : idOf (.pointer (some a)) = some a.block := Eq.trans rfl rfl
theorem ldOk_some {n k : Nat} : LdOk n (some k) = (k < n) := Eq.trans rfl rfl
theorem ldOk_none {n : Nat} : LdOk n none = True := Eq.trans rfl rfl
theorem Keeps.refl' (n : Nat) (A : CW) : Keeps n A A = True := eq_true fun _ _ => rfl
theorem Keeps.refl (n : Nat) (A : CW) : Keeps n A A := fun _ _ => rfl
theorem Keeps.push {n : Nat} {A : CW} {o : Ob} (h : n ≤ A.n) : Keeps n A (A.push o) := fun k hk => CW.get_push_ne _ _ (by omega)


/-! what stands behind a piece of code -/
section
variable {f : St → Option (Ex × St)} {id i : Nat} {fn : Func}
theorem seqK_normal : seqK f (some (.normal, s)) = f s := Eq.trans rfl rfl
theorem seqK_exit : seqK f (some (.exit i, s)) = some (.exit i, s) := Eq.trans rfl rfl
theorem seqK_ret : seqK f (some (.ret, s)) = some (.ret, s) := Eq.trans rfl rfl
theorem blockK_normal : blockK id (some (.normal, s)) = some (.normal, s) := Eq.trans rfl rfl
theorem blockK_ret : blockK id (some (.ret, s)) = some (.ret, s) := Eq.trans rfl rfl
theorem blockK_exit : blockK id (some (.exit i, s)) = if i = id then some (.normal, s) else some (.exit i, s) := Eq.trans rfl rfl
def leaveE (P : Program) (fn : Func) (s : St) : Option (Value × CW) := match shut s.dfr s.A with
  | some A' => (resultOf P A' s.τ fn.results.toList).map fun v => (v, A')
  | none => none
theorem leaveK_normal : leaveK P fn (some (.normal, s)) = leaveE P fn s := Eq.trans rfl rfl
theorem leaveK_ret : leaveK P fn (some (.ret, s)) = leaveE P fn s := Eq.trans rfl rfl
theorem leaveE_nil (τ : T Value) (nt : Nat) (A : CW) : leaveE P fn ⟨τ, nt, A, []⟩ = (resultOf P A τ fn.results.toList).map fun v => (v, A) := Eq.trans rfl rfl
def nrm (s : St) : Ex × St := (.normal, s)
theorem nrm_some (s : St) : Option.map (fun s => (Ex.normal, s)) (some s) = some (.normal, s) := rfl
end

/-! loops -/
/-- Something that simp leaves as it is. -/
class Held (α : Type) where
  val : α
def LoopN [Inv : Held (Nat → St → Prop)] (m : Nat) (s : St) : Prop := ∃ m', m' < m ∧ Inv.val m' s
def LoopX [R : Held (Ex → St → Prop)] (x : Ex) (s : St) : Prop := R.val x s
def LoopK [Inv : Held (Nat → St → Prop)] [R : Held (Ex → St → Prop)] (m : Nat) : Option (Ex × St) → Prop
  | some (.normal, s) => @LoopN Inv m s
  | some (x, s) => @LoopX R x s
  | none => False
section
variable {Inv : Held (Nat → St → Prop)} {R : Held (Ex → St → Prop)} {m i : Nat}
theorem LoopK_normal : @LoopK Inv R m (some (.normal, s)) = @LoopN Inv m s := Eq.trans rfl rfl
theorem LoopK_exit : @LoopK Inv R m (some (.exit i, s)) = @LoopX R (.exit i) s := Eq.trans rfl rfl
theorem LoopK_ret : @LoopK Inv R m (some (.ret, s)) = @LoopX R .ret s := Eq.trans rfl rfl
end
theorem loop_rule {ov : Ov} {round : Option Nat} {c : Code} {R : Ex → St → Prop} (Inv : Nat → St → Prop)
    (step : ∀ m s, Inv m s → @LoopK ⟨Inv⟩ ⟨R⟩ m (xden P ov round c s)) : ∀ (m : Nat) (s0 : St), Inv m s0 → ∃ x s', xden P ov round (.loop c) s0 = some (x, s') ∧ R x s' := by
  intro m
  induction m using Nat.strongRecOn with
  | _ m ih =>
    intro s0 h
    have h1 := step m s0 h
    rw [xden_loop]
    cases hx : xden P ov round c s0 with
    | none => rw [hx] at h1; exact h1.elim
    | some r =>
      rw [hx] at h1
      obtain ⟨x, s'⟩ := r
      cases x with
      | normal =>
        obtain ⟨m', hm, hI⟩ := h1
        exact ih m' hm s' hI
      | exit i => exact ⟨_, _, rfl, h1⟩
      | ret => exact ⟨_, _, rfl, h1⟩

attribute [simp] orK_some chk_true draw_nil draw_cons opAt ld_load id_ptr ldOk_some ldOk_none Keeps.refl' xden_seq xden_region xden_cond xden_skip xden_ret xden_exit xden_scope xden_block seqK_normal seqK_exit seqK_ret blockK_normal blockK_ret blockK_exit leaveK_normal leaveK_ret leaveE_nil LoopK_normal LoopK_exit LoopK_ret region_plain ops_nil ops_cons stK_some step_plain step_guard bOf_bool gdst gsel_some gget_some andThen_some putT_none putT_some
  ev_tmp ev_const ev_func ev_global T.get_set initT_get op_move op_assign op_pick pickV_bool op_alloc op_box op_build op_buildSlice op_load op_store op_binOp op_unOp op_convert op_makeFunc op_makeMap op_makeSlice op_slice op_fieldAddr op_field op_indexAddr op_index op_lookup op_mapUpdate
  op_extract extractV_tuple op_append op_copy op_len op_cap op_call op_max op_min callV_func callV_yield
  bin_int ib_add ib_sub ib_mul ib_eql ib_neq ib_lss ib_leq ib_gtr ib_geq un_not resultOf resultsOf shut
end Go.AM

