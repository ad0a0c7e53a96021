/-
  AM: an abstract machine of our own for Go functions: its canonical heap, its operations, its evaluator. Nothing here speaks of a program of its own; nothing is claimed here: what it has to do with the model's runs is proved in the texts behind it.
-/
import Derived.RangeFuncLeaves
import Derived.OrdersIn
namespace Go.AM

/-! ### A store by numbers -/
inductive T (α : Type) where
  | nil
  | node (v : Option α) (l r : T α)

namespace T
variable {α : Type}
def top : T α → Option α
  | nil => none
  | node v _ _ => v
def left : T α → T α
  | nil => nil
  | node _ l _ => l
def right : T α → T α
  | nil => nil
  | node _ _ r => r
def getF : Nat → T α → Nat → Option α
  | 0, _, _ => none
  | n + 1, t, i => match t with
    | nil => none
    | node v l r => if i = 0 then v else if i % 2 = 1 then getF n l (i / 2) else getF n r (i / 2 - 1)
def get (t : T α) (i : Nat) : Option α := getF (i + 1) t i
def setF : Nat → T α → Nat → α → T α
  | 0, t, _, _ => t
  | n + 1, t, i, x =>
    if i = 0 then node (some x) t.left t.right
    else if i % 2 = 1 then node t.top (setF n t.left (i / 2) x) t.right
    else node t.top t.left (setF n t.right (i / 2 - 1) x)
def set (t : T α) (i : Nat) (x : α) : T α := setF (i + 1) t i x

theorem getF_nil (n i : Nat) : getF n (nil : T α) i = none := by cases n <;> rfl
theorem getF_eq (n : Nat) : ∀ (m : Nat) (t : T α) (i : Nat), i < n → i < m → getF n t i = getF m t i := by
  induction n with
  | zero => intro m t i h; omega
  | succ n ih =>
    intro m t i hn hm
    cases m with
    | zero => omega
    | succ m =>
      cases t with
      | nil => rfl
      | node v l r =>
        simp only [getF]
        by_cases h0 : i = 0
        · simp [h0]
        · by_cases h1 : i % 2 = 1
          · simp only [h0, h1, if_false, if_true]; exact ih m l (i / 2) (by omega) (by omega)
          · simp only [h0, h1, if_false]; exact ih m r (i / 2 - 1) (by omega) (by omega)
theorem getF_setF (n : Nat) : ∀ (m : Nat) (t : T α) (i j : Nat) (x : α), i < n → j < m →
    getF m (setF n t i x) j = if j = i then some x else getF m t j := by
  induction n with
  | zero => intro m t i j x h; omega
  | succ n ih =>
    intro m t i j x hn hm
    cases m with
    | zero => omega
    | succ m =>
      simp only [setF]
      by_cases h0 : i = 0
      · subst h0
        simp only [if_true, getF]
        by_cases hj : j = 0
        · simp [hj]
        · simp only [hj, if_false]
          cases t with
          | nil => simp [left, right, getF_nil]
          | node v l r => simp [left, right]
      · by_cases h1 : i % 2 = 1
        · simp only [h0, h1, if_false, if_true, getF]
          by_cases hj : j = 0
          · subst hj
            have hne : ¬ (0 = i) := fun h => h0 h.symm
            simp only [if_true, hne, if_false]
            cases t <;> rfl
          · by_cases hj1 : j % 2 = 1
            · simp only [hj, hj1, if_false, if_true]
              rw [ih m _ (i / 2) (j / 2) x (by omega) (by omega)]
              have : (j / 2 = i / 2) ↔ (j = i) := by omega
              simp only [this]
              cases t with
              | nil => simp [left, getF_nil]
              | node v l r => simp [left]
            · have hne : ¬ (j = i) := by omega
              simp only [hj, hj1, hne, if_false]
              cases t with
              | nil => simp [right, getF_nil]
              | node v l r => simp [right]
        · simp only [h0, h1, if_false, getF]
          by_cases hj : j = 0
          · subst hj
            have hne : ¬ (0 = i) := fun h => h0 h.symm
            simp only [if_true, hne, if_false]
            cases t <;> rfl
          · by_cases hj1 : j % 2 = 1
            · have hne : ¬ (j = i) := by omega
              simp only [hj, hj1, hne, if_false, if_true]
              cases t with
              | nil => simp [left, getF_nil]
              | node v l r => simp [left]
            · simp only [hj, hj1, if_false]
              rw [ih m _ (i / 2 - 1) (j / 2 - 1) x (by omega) (by omega)]
              have : (j / 2 - 1 = i / 2 - 1) ↔ (j = i) := by omega
              simp only [this]
              cases t with
              | nil => simp [right, getF_nil]
              | node v l r => simp [right]
theorem get_set (t : T α) (i j : Nat) (x : α) : (t.set i x).get j = if j = i then some x else t.get j :=
  getF_setF (i + 1) (j + 1) t i j x (by omega) (by omega)
theorem get_set_self (t : T α) (i : Nat) (x : α) : (t.set i x).get i = some x := by rw [get_set]; simp
theorem get_set_ne (t : T α) {i j : Nat} (x : α) (h : j ≠ i) : (t.set i x).get j = t.get j := by rw [get_set]; simp [h]
theorem get_nil (i : Nat) : (nil : T α).get i = none := getF_nil _ _
end T

/-! ### The canonical heap -/
structure Rec where
  st : LoopState
  pending : Option Code
  tmps : T Value
  nt : Nat
  params : List Tmp
  assign : Code
  body : Code
  dfr : Nat

inductive Ob where
  | dead
  | cells (vs : List Value) (e : TypeId) (loose ro : Bool) (ver : Nat)
  | map (es : List MapEntry) (clock : Nat) (ver : Nat)
  | siter (s : ByteArray) (pos : Nat) (ver : Nat)
  | loop (r : Rec) (ver : Nat)
  | dfr (ver : Nat)

def Ob.ver : Ob → Nat
  | .dead => 0
  | .cells _ _ _ _ v => v + 1
  | .map _ _ v => v + 1
  | .siter _ _ v => v + 1
  | .loop _ v => v + 1
  | .dfr v => v + 1

structure CW where
  o : T Ob
  n : Nat

def CW.get (A : CW) (k : Nat) : Ob := (A.o.get k).getD .dead
def CW.set (A : CW) (k : Nat) (x : Ob) : CW := { A with o := A.o.set k x }
def CW.push (A : CW) (x : Ob) : CW := { o := A.o.set A.n x, n := A.n + 1 }

theorem CW.get_set (A : CW) (k j : Nat) (x : Ob) : (A.set k x).get j = if j = k then x else A.get j := by
  simp only [CW.get, CW.set, T.get_set]; split <;> rfl
@[simp] theorem CW.get_set_self (A : CW) (k : Nat) (x : Ob) : (A.set k x).get k = x := by rw [CW.get_set]; simp
theorem CW.get_set_ne (A : CW) {k j : Nat} (x : Ob) (h : j ≠ k) : (A.set k x).get j = A.get j := by rw [CW.get_set]; simp [h]
theorem CW.get_push (A : CW) (j : Nat) (x : Ob) : (A.push x).get j = if j = A.n then x else A.get j := by
  simp only [CW.get, CW.push, T.get_set]; split <;> rfl
@[simp] theorem CW.get_push_self (A : CW) (x : Ob) : (A.push x).get A.n = x := by rw [CW.get_push]; simp
theorem CW.get_push_ne (A : CW) {j : Nat} (x : Ob) (h : j ≠ A.n) : (A.push x).get j = A.get j := by rw [CW.get_push]; simp [h]
@[simp] theorem CW.n_set (A : CW) (k : Nat) (x : Ob) : (A.set k x).n = A.n := Eq.trans rfl rfl
@[simp] theorem CW.n_push (A : CW) (x : Ob) : (A.push x).n = A.n + 1 := Eq.trans rfl rfl

/-! ### Values -/
/-- No address in it. -/
def flatB : Value → Bool
  | .bool _ | .int .. | .float .. | .complex .. | .string _ | .pointer none | .map none | .nilFunc | .nilIface => true
  | .slice none 0 0 => true
  | .agg cs => flatL cs.toList
  | .tuple cs => flatL cs.toList
  | _ => false
where
  flatL : List Value → Bool
    | [] => true
    | v :: r => flatB v && flatL r

/-- The value of one cell. -/
def oneB : Value → Bool
  | .agg _ | .tuple _ => false
  | _ => true

def ev (τ : T Value) : Operand → Value
  | .tmp t => (τ.get t).getD undef
  | .const v => v
  | .global g => .pointer (some ⟨g, 0, none⟩)
  | .func f => .func (.func f) #[] #[]

/-- What a run that meets no memory gives. -/
def pureRun {α : Type} (P : Program) : Sem α → Option α
  | .pure a => some a
  | .program k => pureRun P (k P)
  | .mark _ k => pureRun P k
  | _ => none

def aggB (P : Program) (t : TypeId) : Option Bool :=
  match P.underlying t with
  | some (.struct _) => some true
  | some (.array _ _) => some true
  | some _ => some false
  | none => none
def szOf (P : Program) (t : TypeId) : Option Nat := (P.info? t).map (·.size)
def bytesOf (P : Program) (t : TypeId) : Option Nat := (P.info? t).map (·.bytes)
def zeroOf (P : Program) (t : TypeId) : Option Value :=
  match P.info? t with
  | some i => match i.zero with
    | some z => if flatB z && z.cells.toList.all oneB then some z else none
    | none => none
  | none => none

def cellsAt (A : CW) (k off n : Nat) : Option (List Value) :=
  match A.get k with
  | .cells vs _ _ _ _ => if off + n ≤ vs.length then some ((vs.drop off).take n) else none
  | _ => none
def cellAt (A : CW) (k off : Nat) : Option Value :=
  match A.get k with
  | .cells vs _ _ _ _ => vs[off]?
  | _ => none
def splice (vs : List Value) (off : Nat) (cs : List Value) : List Value := vs.take off ++ cs ++ vs.drop (off + cs.length)
def putCells (A : CW) (k off : Nat) (cs : List Value) : Option CW :=
  match A.get k with
  | .cells vs e l ro ver => if ro = false ∧ off + cs.length ≤ vs.length ∧ cs.all oneB = true then some (A.set k (.cells (splice vs off cs) e l ro (ver + 1))) else none
  | _ => none
def newCells (A : CW) (vs : List Value) (e : TypeId) (loose : Bool) : Value × CW :=
  (.pointer (some ⟨A.n, 0, none⟩), A.push (.cells vs e loose false 0))

def loadAt (P : Program) (A : CW) (t : TypeId) (a : Value) : Option Value :=
  match a with
  | .pointer (some ⟨k, off, _⟩) =>
    match aggB P t with
    | some true => match szOf P t with
      | some s => match cellsAt A k off s with
        | some cs => some (.agg cs.toArray)
        | none => none
      | none => none
    | some false => cellAt A k off
    | none => none
  | _ => none
def storeAt (P : Program) (A : CW) (t : TypeId) (a v : Value) : Option CW :=
  match a with
  | .pointer (some ⟨k, off, _⟩) => if some v.cells.size = szOf P t then putCells A k off v.cells.toList else none
  | _ => none

def fillAt (place : Nat → Option (Nat × Nat)) : List Value → List (Nat × Value) → Option (List Value)
  | cells, [] => some cells
  | cells, (i, v) :: rest =>
    match place i with
    | none => none
    | some (off, size) =>
      let cs := v.cells.toList
      if cs.length = size ∧ off + cs.length ≤ cells.length then fillAt place (splice cells off cs) rest else none
def placeOf (P : Program) (fields : Array Field) (i : Nat) : Option (Nat × Nat) :=
  match fields[i]? with
  | some f => (szOf P f.type).map fun s => (f.offset, s)
  | none => none
def build (P : Program) (t : TypeId) (parts : List (Nat × Value)) : Option Value :=
  match zeroOf P t with
  | none => none
  | some z => match P.underlying t with
    | some (.struct fields) =>
      if fields.all (fun f => (szOf P f.type).isSome) = true then
        (fillAt (placeOf P fields) z.cells.toList parts).map fun l => .agg l.toArray
      else none
    | some (.array _ e) => match szOf P e with
      | some s => (fillAt (fun i => some (i * s, s)) z.cells.toList parts).map fun l => .agg l.toArray
      | none => none
    | _ => none
/-- n times over. -/
def rep (l : List Value) : Nat → List Value
  | 0 => []
  | n + 1 => l ++ rep l n
def buildSlice (P : Program) (A : CW) (t : TypeId) (len : Nat) (parts : List (Nat × Value)) : Option (Value × CW) :=
  match P.underlying t with
  | some (.slice e) => match szOf P e, zeroOf P e with
    | some s, some z =>
      if z.cells.size = s ∧ s ≠ 0 ∧ len * s ≤ 65536 then
        match fillAt (fun i => some (i * s, s)) (rep z.cells.toList len) parts with
        | some l => if l.all oneB = true then some (.slice (some ⟨A.n, 0, none⟩) len len, A.push (.cells l e false false 0)) else none
        | none => none
      else none
    | _, _ => none
  | _ => none

def fieldAddr (P : Program) (s : TypeId) (a : Value) (f : Nat) : Option Value :=
  match P.underlying s, a with
  | some (.struct fields), .pointer (some ⟨k, off, sp⟩) => match fields[f]? with
    | some fd => match szOf P fd.type with
      | some (_ + 1) => some (.pointer (some ⟨k, off + fd.offset, sp⟩))
      | _ => none
    | none => none
  | _, _ => none
/-- A part of a struct or an array. -/
def part (P : Program) (t : TypeId) (cs : Array Value) (off : Nat) : Option Value :=
  match aggB P t with
  | some true => match szOf P t with
    | some s => some (.agg (cs.extract off (off + s)))
    | none => none
  | some false => cs[off]?
  | none => none
def field (P : Program) (t : TypeId) (x : Value) (f : Nat) : Option Value :=
  match P.underlying t, x with
  | some (.struct fields), .agg cs => match fields[f]? with
    | some fd => part P fd.type cs fd.offset
    | none => none
  | _, _ => none
def indexAddr (P : Program) (t : TypeId) (x i : Value) : Option Value :=
  match P.underlying t, x, i with
  | some (.array len e), .pointer (some ⟨k, off, sp⟩), .int _ n => match szOf P e with
    | some (s + 1) => if 0 ≤ n ∧ n < len then some (.pointer (some ⟨k, off + n.toNat * (s + 1), sp⟩)) else none
    | _ => none
  | some (.slice e), .slice (some ⟨k, off, sp⟩) len _, .int _ n => match szOf P e with
    | some (s + 1) => if 0 ≤ n ∧ n < len then some (.pointer (some ⟨k, off + n.toNat * (s + 1), sp⟩)) else none
    | _ => none
  | _, _, _ => none
def index (P : Program) (t : TypeId) (x i : Value) : Option Value :=
  match P.underlying t, x, i with
  | some (.array len e), .agg cs, .int _ n => match szOf P e with
    | some s => if 0 ≤ n ∧ n < len then part P e cs (n.toNat * s) else none
    | none => none
  | some .string, .string s, .int _ n => if 0 ≤ n then (s[n.toNat]?).map fun b => .int .u8 b.toNat else none
  | _, _, _ => none

def bnd (v : Option Value) (dflt : Nat) (top : Nat) : Option Nat :=
  match v with
  | none => some dflt
  | some (.int _ n) => if 0 ≤ n ∧ n ≤ top then some n.toNat else none
  | some _ => none
/-- A mark at a place: the size of the elements of a row whose room is unknown. -/
def spotOk (a : Option Addr) (s : Nat) : Bool :=
  match a with
  | some q => match q.spot with
    | none => true
    | some s' => s' == s
  | none => true
def sliceOf (P : Program) (t : TypeId) (x : Value) (lo hi : Option Value) : Option Value :=
  match P.underlying t, x with
  | some .string, .string s => match bnd hi s.size s.size with
    | some h => match bnd lo 0 h with
      | some l => some (.string (s.extract l h))
      | none => none
    | none => none
  | some (.slice e), .slice a len cap => match szOf P e with
    | some s => match bnd hi len cap with
      | some h => match bnd lo 0 h with
        | some l => if spotOk a s then some (.slice (a.map fun q => ⟨q.block, q.off + l * s, q.spot⟩) (h - l) (cap - l)) else none
        | none => none
      | none => none
    | none => none
  | some (.array n e), .pointer (some ⟨k, off, none⟩) => match szOf P e with
    | some s => match bnd hi n n with
      | some h => match bnd lo 0 h with
        | some l => some (.slice (some ⟨k, off + l * s, none⟩) (h - l) (n - l))
        | none => none
      | none => none
    | none => none
  | _, _ => none
/-- s[l:l:l]: nothing of s, and no room behind it. -/
def slice3 (P : Program) (A : CW) (t : TypeId) (x : Value) (lo hi mx : Option Value) : Option (Value × CW) :=
  match P.underlying t, x with
  | some (.slice e), .slice a _ cap => match szOf P e, bnd mx 0 cap with
    | some _, some m => match bnd hi 0 m with
      | some h => match bnd lo 0 h with
        | some l => if m = l ∧ hi.isSome = true ∧ mx.isSome = true then match a with
            | none => some (.slice none 0 0, A)
            | some q => if q.block < A.n then some (.slice (some ⟨A.n, 0, none⟩) 0 0, A.push (.cells [] e false true 0)) else none
          else none
        | none => none
      | none => none
    | _, _ => none
  | _, _ => none

def intBin (op : BinOp) (k : IntKind) (a b : Int) : Option Value :=
  match op with
  | .add => some (.int k (k.wrap (a + b)))
  | .sub => some (.int k (k.wrap (a - b)))
  | .mul => some (.int k (k.wrap (a * b)))
  | .quo => if b = 0 then none else some (.int k (k.wrap (a.tdiv b)))
  | .rem => if b = 0 then none else some (.int k (a.tmod b))
  | .eql => some (.bool (a == b))
  | .neq => some (.bool (a != b))
  | .lss => some (.bool (a < b))
  | .leq => some (.bool (a ≤ b))
  | .gtr => some (.bool (a > b))
  | .geq => some (.bool (a ≥ b))
  | .and => some (.int k (k.wrap (BitVec.ofInt k.bits a &&& BitVec.ofInt k.bits b).toNat))
  | .or => some (.int k (k.wrap (BitVec.ofInt k.bits a ||| BitVec.ofInt k.bits b).toNat))
  | .xor => some (.int k (k.wrap (BitVec.ofInt k.bits a ^^^ BitVec.ofInt k.bits b).toNat))
  | .andNot => some (.int k (k.wrap (BitVec.ofInt k.bits a &&& ~~~ BitVec.ofInt k.bits b).toNat))
  | .shl => if b < 0 then none else some (.int k (k.wrap (a * 2 ^ (min b.toNat k.bits))))
  | .shr => if b < 0 then none else some (.int k (a.fdiv (2 ^ (min b.toNat k.bits))))
/-- A value without an address. -/
def flatly : Option Value → Option Value
  | some v => if flatB v then some v else none
  | none => none
def isShift : BinOp → Bool
  | .shl | .shr => true
  | _ => false
def nilCmp (P : Program) (t : TypeId) (x y : Value) : Option Bool :=
  match P.underlying t, x, y with
  | some (.slice _), .slice a _ _, .slice b _ _ => if b.isNone then some a.isNone else if a.isNone then some false else none
  | some (.map _ _), .map a, .map b => if b.isNone then some a.isNone else if a.isNone then some false else none
  | _, _, _ => none
def binOp (P : Program) (op : BinOp) (t : TypeId) (xo yo : Operand) (x y : Value) : Option Value :=
  match x, y with
  | .int k a, .int k' b => if isShift op then intBin op k a b else if k = k' then intBin op k a b else none
  | x, y =>
    if flatB x && flatB y then flatly (pureRun P (do eqGuard op t xo yo x y; Go.binOp op t x y))
    else match op with
      | .eql => (nilCmp P t x y).map .bool
      | .neq => (nilCmp P t x y).map fun b => .bool (!b)
      | _ => none
def unOp (P : Program) (op : UnOp) (x : Value) : Option Value :=
  match op, x with
  | .not, .bool b => some (.bool (!b))
  | op, x => if flatB x then flatly (pureRun P (Op.unary op x)) else none
def convert (P : Program) (s d : TypeId) (x : Value) : Option Value :=
  if flatB x then flatly (pureRun P (Go.convert s d x)) else none

/-- The first n elements of a slice or a string. -/
def elems (A : CW) (size n : Nat) : Value → Option (List Value)
  | .slice (some ⟨k, off, _⟩) _ _ => cellsAt A k off (n * size)
  | .slice none _ _ => some []
  | .string s => some (s.data.toList.take n |>.map fun b => .int .u8 b.toNat)
  | _ => none
def lenOf : Value → Option Nat
  | .slice _ n _ => some n
  | .string s => some s.size
  | _ => none
def looseAt (A : CW) : Option Addr → Bool
  | some a => match A.get a.block with
    | .cells _ _ l _ _ => l
    | _ => false
  | none => false
/-- The row under a slice is there, and may be lengthened. -/
def baseOk (A : CW) : Option Addr → Bool
  | some a => match A.get a.block with
    | .cells _ _ l ro _ => !(l && ro)
    | _ => false
  | none => true
def kill (A : CW) : Option Addr → CW
  | some a => if looseAt A (some a) then A.set a.block .dead else A
  | none => A
def isInt : Option TypeDesc → Bool
  | some (.int _) => true
  | _ => false
/-- What append appends: how many, and the cells. -/
def newOf (A : CW) (s : Nat) (z : List Value) (zeros : Bool) (x : Value) : Option (Nat × List Value) :=
  if zeros then match x with
    | .int .i64 l => if 0 ≤ l ∧ l ≤ 65536 then some (l.toNat, rep z l.toNat) else none
    | _ => none
  else match lenOf x with
    | some n => match elems A s n x with
      | some l => if l.length = n * s then some (n, l) else none
      | none => none
    | none => none
def append (P : Program) (A : CW) (argTypes : Array TypeId) (args : Array Value) : Option (Value × CW) :=
  match argTypes[0]?, args[0]?, argTypes[1]?, args[1]? with
  | some sT, some (Value.slice base sLen sCap), some xT, some x =>
    match P.underlying sT with
    | some (.slice e) => match szOf P e, bytesOf P e, zeroOf P e, P.underlying xT with
      | some s, some by_, some z, some xd =>
        match newOf A s z.cells.toList (isInt (some xd)) x with
        | none => none
        | some (n, new) =>
          if s ≠ 0 ∧ z.cells.size = s ∧ (sLen + n) * (by_ + 1) ≤ 2 ^ 40 ∧ by_ ≤ 2 ^ 30 ∧ spotOk base s = true ∧ baseOk A base = true then
            if sLen + n ≤ sCap then
              match base with
              | some a => match putCells A a.block (a.off + sLen * s) new with
                | some A' => some (.slice base (sLen + n) sCap, A')
                | none => none
              | none => some (.slice base (sLen + n) sCap, A)
            else match elems A s sLen (.slice base sLen sCap) with
              | none => none
              | some old => if (old ++ new).all oneB = true then
                  some (.slice (some ⟨A.n, 0, some s⟩) (sLen + n) (sLen + n), (kill A base).push (.cells (old ++ new) e true false 0))
                else none
          else none
      | _, _, _, _ => none
    | _ => none
  | _, _, _, _ => none
def copy (P : Program) (A : CW) (argTypes : Array TypeId) (args : Array Value) : Option (Value × CW) :=
  match argTypes[0]?, args[0]?, args[1]? with
  | some dT, some (Value.slice base dLen _), some x =>
    match P.underlying dT with
    | some (.slice e) => match szOf P e, lenOf x with
      | some s, some n => match elems A s (min n dLen) x with
        | some cs => match base with
          | some a => match putCells A a.block a.off cs with
            | some A' => some (goInt ((min n dLen : Nat) : Int), A')
            | none => none
          | none => some (goInt ((min n dLen : Nat) : Int), A)
        | none => none
      | _, _ => none
    | _ => none
  | _, _, _ => none
def len (P : Program) (A : CW) (argTypes : Array TypeId) (args : Array Value) : Option Value :=
  match argTypes[0]?, args[0]? with
  | some t, some x => match P.underlying t, x with
    | some .string, .string s => some (goInt s.size)
    | some (.slice _), .slice _ n _ => some (goInt n)
    | some (.array n _), _ => some (goInt n)
    | some (.pointer a), _ => match P.underlying a with
      | some (.array n _) => some (goInt n)
      | _ => none
    | some (.map _ _), .map none => some (goInt 0)
    | some (.map _ _), .map (some k) => match A.get k with
      | .map es _ _ => some (goInt es.length)
      | _ => none
    | _, _ => none
  | _, _ => none
def makeSlice (P : Program) (A : CW) (t : TypeId) (l c : Value) : Option (Value × CW) :=
  match P.underlying t, l, c with
  | some (.slice e), .int .i64 l, .int .i64 c => match szOf P e, bytesOf P e, zeroOf P e with
    | some s, some by_, some z =>
      if z.cells.size = s ∧ s ≠ 0 ∧ 0 ≤ l ∧ l ≤ c ∧ c * (by_ + 1) ≤ 2 ^ 40 then
        some (.slice (some ⟨A.n, 0, none⟩) l.toNat c.toNat, A.push (.cells (rep z.cells.toList c.toNat) e false false 0))
      else none
    | _, _, _ => none
  | _, _, _ => none

def capOf (P : Program) (A : CW) (argTypes : Array TypeId) (args : Array Value) : Option Value :=
  match argTypes[0]?, args[0]? with
  | some t, some (Value.slice a _ c) => match P.underlying t with
    | some (.slice _) => match a with
      | none => some (goInt c)
      | some q => match A.get q.block with
        | .cells _ _ false _ _ => some (goInt c)
        | _ => none
    | _ => none
  | _, _ => none
def clear (P : Program) (A : CW) (argTypes : Array TypeId) (args : Array Value) : Option CW :=
  match argTypes[0]?, args[0]? with
  | some t, some (Value.slice a n _) => match P.underlying t, a with
    | some (.slice _), none => some A
    | some (.slice e), some q => if n = 0 then some A else match zeroOf P e with
      | some z => putCells A q.block q.off (rep z.cells.toList n)
      | none => none
    | _, _ => none
  | _, _ => none

/-! maps whose keys are ints, strings or bools -/
def keyKind (P : Program) (t : TypeId) : Option TypeDesc :=
  match P.underlying t with
  | some (.int k) => some (.int k)
  | some .string => some .string
  | some .bool => some .bool
  | _ => none
def lookup (P : Program) (A : CW) (t : TypeId) (m i : Value) (ok : Bool) : Option Value :=
  match P.underlying t with
  | some (.map kt e) => match keyKind P kt, zeroOf P e with
    | some kd, some z =>
      if flatB i = false then none else
      match (match m with
        | .map none => some []
        | .map (some k) => (match A.get k with
          | .map es _ _ => some es
          | _ => none)
        | _ => none : Option (List MapEntry)) with
      | some es => match Instr.findNow kd i es 0 with
        | some (some (_, v)) => some (if ok then .tuple #[v, .bool true] else v)
        | some none => some (if ok then .tuple #[z, .bool false] else z)
        | none => none
      | none => none
    | _, _ => none
  | _ => none
def mapUpdate (P : Program) (A : CW) (t : TypeId) (m i v : Value) : Option CW :=
  match P.underlying t, m with
  | some (.map kt _), .map (some k) => match keyKind P kt, A.get k with
    | some kd, .map es clock ver =>
      if flatB i = true ∧ oneB i = true then
        match Instr.findNow kd i es 0 with
        | some (some (j, _)) => some (A.set k (.map (es.modify j fun e => { e with key := i, val := v }) clock (ver + 1)))
        | some none => some (A.set k (.map (es ++ [{ key := i, val := v, born := clock }]) (clock + 1) (ver + 1)))
        | none => none
      else none
    | _, _ => none
  | _, _ => none
def mapEntry (P : Program) (A : CW) (t : TypeId) (m i : Value) : Option (Value × CW) :=
  match P.underlying t, m with
  | some (.map kt e), .map (some k) => match keyKind P kt, A.get k, zeroOf P e with
    | some kd, .map es clock ver, some z =>
      if flatB i = true ∧ oneB i = true then
        match Instr.findNow kd i es 0 with
        | some (some (j, v)) => match es[j]? with
          | some en => some (.tuple #[v, goInt en.born], A.set k (.map (es.modify j fun e => { e with key := i }) clock (ver + 1)))
          | none => none
        | some none => some (.tuple #[z, goInt clock], A.set k (.map (es ++ [{ key := i, val := z, born := clock }]) (clock + 1) (ver + 1)))
        | none => none
      else none
    | _, _, _ => none
  | _, _ => none
def entryStore (A : CW) (m st v : Value) : Option CW :=
  match m, st with
  | .map (some k), .int _ b => match A.get k with
    | .map es clock ver => match es.findIdx? (fun e => (e.born : Int) == b) with
      | some j => some (A.set k (.map (es.modify j fun e => { e with val := v }) clock (ver + 1)))
      | none => none
    | _ => none
  | _, _ => none

/-- An operation but a call of a function: its value, the heap behind it. -/
def prim (P : Program) (o : Oper) (τ : T Value) (A : CW) : Option (Value × CW) :=
  let v (x : Option Value) : Option (Value × CW) := x.map fun x => (x, A)
  let u (x : Option CW) : Option (Value × CW) := x.map fun A => (undef, A)
  match o.op with
  | .move x | .assign x => some (ev τ x, A)
  | .pick c a b => match ev τ c with
    | .bool true => some (ev τ a, A)
    | .bool false => some (ev τ b, A)
    | _ => none
  | .alloc t => (zeroOf P t).map fun z => newCells A z.cells.toList t false
  | .box t x => if (ev τ x).cells.toList.all oneB = true then some (newCells A (ev τ x).cells.toList t false) else none
  | .build t parts => v (build P t (parts.toList.map fun (i, x) => (i, ev τ x)))
  | .buildSlice t l parts => buildSlice P A t l (parts.toList.map fun (i, x) => (i, ev τ x))
  | .load t a => v (loadAt P A t (ev τ a))
  | .store t a x => u (storeAt P A t (ev τ a) (ev τ x))
  | .nilCheck x => match ev τ x with
    | .pointer (some a) => some (.pointer (some a), A)
    | .func (.func f) a c => some (.func (.func f) a c, A)
    | _ => none
  | .binOp op t x y _ => v (binOp P op t x y (ev τ x) (ev τ y))
  | .unOp op _ x => v (unOp P op (ev τ x))
  | .convert s d x => v (convert P s d (ev τ x))
  | .makeFunc (.func f) first cap => some (.func (.func f) (first.map (ev τ)) (cap.map (ev τ)), A)
  | .makeMap _ none => some (.map (some A.n), A.push (.map [] 0 0))
  | .makeSlice t l c => makeSlice P A t (ev τ l) (ev τ c)
  | .slice t x lo hi none => v (sliceOf P t (ev τ x) (lo.map (ev τ)) (hi.map (ev τ)))
  | .slice t x lo hi (some mx) => slice3 P A t (ev τ x) (lo.map (ev τ)) (hi.map (ev τ)) (some (ev τ mx))
  | .fieldAddr s x f => v (fieldAddr P s (ev τ x) f)
  | .field t x f => v (field P t (ev τ x) f)
  | .indexAddr t x i => v (indexAddr P t (ev τ x) (ev τ i))
  | .index t x i => v (index P t (ev τ x) (ev τ i))
  | .lookup t x i ok => v (lookup P A t (ev τ x) (ev τ i) ok)
  | .mapUpdate t m i x => u (mapUpdate P A t (ev τ m) (ev τ i) (ev τ x))
  | .mapEntry t m i => mapEntry P A t (ev τ m) (ev τ i)
  | .entryStore _ m s x => u (entryStore A (ev τ m) (ev τ s) (ev τ x))
  | .range t x => match P.underlying t, ev τ x with
    | some .string, .string s => some (.pointer (some ⟨A.n, 0, none⟩), A.push (.siter s 0 0))
    | _, _ => none
  | .next it true => match ev τ it with
    | .pointer (some ⟨k, 0, _⟩) => match A.get k with
      | .siter s pos ver =>
        if pos < s.size then some (.tuple #[.bool true, goInt pos, .int .i32 (Utf8.decode s pos).1], A.set k (.siter s (pos + (Utf8.decode s pos).2) (ver + 1)))
        else some (.tuple #[.bool false], A)
      | _ => none
    | _ => none
  | .extract x i => v (match ev τ x with
    | .tuple vs => vs[i]?
    | _ => none)
  | .call { callee := .builtin b, args, argTypes } => match b with
    | .append => append P A argTypes (args.map (ev τ))
    | .copy => copy P A argTypes (args.map (ev τ))
    | .len => v (len P A argTypes (args.map (ev τ)))
    | .cap => v (capOf P A argTypes (args.map (ev τ)))
    | .clear => (clear P A argTypes (args.map (ev τ))).map fun A => (.tuple #[], A)
    | .max | .min => if (args.map (ev τ)).toList.all flatB then v (flatly (pureRun P (if b matches .max then Builtin.max_ argTypes o.type (args.map (ev τ)) else Builtin.min_ argTypes o.type (args.map (ev τ))))) else none
    | _ => none
  | _ => none

/-! ### The evaluator -/
structure St where
  τ : T Value
  nt : Nat
  A : CW
  dfr : List Nat

inductive Ex where
  | normal
  | exit (id : Nat)
  | ret
  deriving DecidableEq

abbrev Inv := Fn → Array Value → CW → Option (Value × CW)

def runOp (P : Program) (I : Inv) (o : Oper) (τ : T Value) (A : CW) : Option (Value × CW) :=
  match o.op with
  | .call { callee := .value f, args, argTypes := _ } => match ev τ f with
    | .func fn first cap => match fn with
      | .func g => I (.func g) (first ++ args.map (ev τ) ++ cap) A
      | .yield l => if first.size = 0 ∧ cap.size = 0 then I (.yield l) (args.map (ev τ)) A else none
      | _ => none
    | _ => none
  | _ => prim P o τ A

def putT (s : St) (d : Option Tmp) (v : Value) (A : CW) : Option St :=
  match d with
  | none => some { s with A }
  | some d => if d < s.nt then some { s with τ := s.τ.set d v, A } else none

def wantedB (o : Oper) (ops : Array Oper) (τ : T Value) : Bool :=
  match o.guard with
  | none => true
  | some (j, want) => match (ops[j]?).bind (·.dst) with
    | some d => match τ.get d with
      | some (.bool b) => b == want
      | _ => false
    | none => false

/-- One operation of a region. -/
def stepOp (P : Program) (I : Inv) (ops : Array Oper) (o : Oper) (s : St) : Option St :=
  if wantedB o ops s.τ then
    match runOp P I o s.τ s.A with
    | some (v, A) => putT s o.dst v A
    | none => none
  else putT s o.dst undef s.A
def runOps (P : Program) (I : Inv) (ops : Array Oper) : List Oper → St → Option St
  | [], s => some s
  | o :: rest, s => match stepOp P I ops o s with
    | some s' => runOps P I ops rest s'
    | none => none
/-! ### A region that draws its order: carried out in the text's order, if nothing hangs on the order -/
/-- It changes what is there already, or may. -/
def isEff (op : Op) : Bool :=
  match op with
  | .store .. | .mapUpdate .. | .mapEntry .. | .entryStore .. | .next .. | .box .. | .makeMap .. | .makeSlice .. | .range .. | .slice _ _ _ _ (some _) => true
  | .call { callee := .builtin b, .. } => match b with
    | .append | .copy | .clear => true
    | _ => false
  | .call _ => true
  | _ => false
/-- It makes an object, and does nothing else. -/
def isNew (op : Op) : Bool :=
  match op with
  | .alloc _ | .buildSlice .. => true
  | _ => false
def idOf : Value → Option Nat
  | .pointer (some a) => some a.block
  | .map (some k) => some k
  | _ => none
/-- The object that it reads, if it reads one. -/
def readsAt (τ : T Value) (op : Op) : Option Nat :=
  match op with
  | .load _ a => idOf (ev τ a)
  | .lookup _ m _ _ => idOf (ev τ m)
  | .call { callee := .builtin .len, args, argTypes := _ } => match (args.map (ev τ))[0]? with
    | some (Value.map m) => m
    | _ => none
  | .call { callee := .builtin .cap, args, argTypes := _ } => match (args.map (ev τ))[0]? with
    | some (Value.slice (some a) _ _) => some a.block
    | _ => none
  | _ => none

/-- 'k n', n worked out first. -/
def force {α : Type} (n : Nat) (k : Nat → α) : α := match n with
  | 0 => k 0
  | m + 1 => k (m + 1)
theorem force_eq {α : Type} (n : Nat) (k : Nat → α) : force n k = k n := by cases n <;> rfl

/-- Who is sure to come ahead: a number of bits for each operation. -/
def maskOf (t : T Nat) (o : Oper) : Nat := o.after.toList.foldl (fun s e => if Region.binds .any e then s ||| 2 ^ e.on ||| (t.get e.on).getD 0 else s) 0
def masks : List Oper → Nat → T Nat → T Nat
  | [], _, t => t
  | o :: r, j, t => force (maskOf t o) fun m => masks r (j + 1) (t.set j m)
/-- i is sure to come ahead of j. -/
def ahead (bf : T Nat) (i j : Nat) : Bool := ((bf.get j).getD 0).testBit i

def numbered : List Oper → Nat → List (Nat × Oper)
  | [], _ => []
  | o :: r, i => (i, o) :: numbered r (i + 1)
def subMask (m d : Nat) : Bool := m &&& d == m
/-- Those without an effect whose turn has come; those left; who is done. -/
def sift (bf : T Nat) : List (Nat × Oper) → Nat → List (Nat × Oper) × List (Nat × Oper) × Nat
  | [], d => ([], [], d)
  | x :: r, d => if !isEff x.2.op && subMask ((bf.get x.1).getD 0) d then match force (d ||| 2 ^ x.1) (sift bf r) with
      | (a, b, d') => (x :: a, b, d')
    else match sift bf r d with
      | (a, b, d') => (a, x :: b, d')
def firstOf (bf : T Nat) (d : Nat) : List (Nat × Oper) → Option ((Nat × Oper) × List (Nat × Oper))
  | [] => none
  | x :: r => if subMask ((bf.get x.1).getD 0) d then some (x, r) else match firstOf bf d r with
    | some (y, l) => some (y, x :: l)
    | none => none
def orderGo (bf : T Nat) : Nat → List (Nat × Oper) → Nat → List (Nat × Oper)
  | 0, l, _ => l
  | n + 1, l, d => match sift bf l d with
    | (a, b, d') => match firstOf bf d' b with
      | some (x, b') => a ++ x :: force (d' ||| 2 ^ x.1) (orderGo bf n b')
      | none => a ++ b
def bfOf (ops : Array Oper) : T Nat := masks ops.toList 0 .nil
/-- The order that we carry it out in: an effect as late as may be. -/
def orderOf (ops : Array Oper) : List (Nat × Oper) := orderGo (bfOf ops) ops.size (numbered ops.toList 0) 0

def pairsOk {α : Type} (f : α → α → Bool) : List α → Bool
  | [] => true
  | x :: r => r.all (f x) && pairsOk f r
/-- It reads what lies in t. -/
def looksAt (ops : Array Oper) (o : Oper) (t : Tmp) : Bool :=
  o.op.operands.toList.any (fun
    | .tmp t' => t' == t
    | _ => false) ||
  match o.guard with
  | some (j, _) => ((ops[j]?).bind (·.dst)) == some t
  | none => false
def dstOk (ops : Array Oper) (bf : T Nat) (x y : Nat × Oper) : Bool :=
  match x.2.dst with
  | none => true
  | some d => !(y.2.dst == some d) && (!looksAt ops y.2 d || ahead bf x.1 y.1)
def lookOk (ops : Array Oper) (bf : T Nat) (x y : Nat × Oper) : Bool :=
  match y.2.dst with
  | none => true
  | some d => !looksAt ops x.2 d || ahead bf x.1 y.1
/-- x is carried out ahead of y: may it be? -/
def pairOk (ops : Array Oper) (bf : T Nat) (x y : Nat × Oper) : Bool :=
  !(x.1 == y.1) && !ahead bf y.1 x.1 && dstOk ops bf x y && lookOk ops bf x y && (!(isEff x.2.op && (isEff y.2.op || isNew y.2.op)) || ahead bf x.1 y.1)
def edgesOk (ops : Array Oper) : Bool := (numbered ops.toList 0).all fun x => x.2.after.toList.all fun e => !Region.binds .any e || Nat.blt e.on x.1
def allIn (l : List (Nat × Oper)) : Nat → Bool
  | 0 => true
  | n + 1 => l.any (fun x => x.1 == n) && allIn l n
/-- What can be seen of a region without running it. -/
def regionOk (ops : Array Oper) : Bool :=
  edgesOk ops && allIn (orderOf ops) ops.size && (orderOf ops).all (fun x => Nat.blt x.1 ops.size) && pairsOk (pairOk ops (bfOf ops)) (orderOf ops)

/-- An operation carried out: the state ahead of it, and the state behind it. -/
structure Ev where
  i : Nat
  o : Oper
  s : St
  s' : St
/-- A load is not touched by what may come ahead of it, or behind it. -/
def loadOk (bf : T Nat) (n0 : Nat) (i k : Nat) (e : Ev) : Bool :=
  !isEff e.o.op || ahead bf i e.i || ahead bf e.i i || (Nat.blt k n0 && Nat.beq (e.s.A.get k).ver (e.s'.A.get k).ver)
def loadsOk (bf : T Nat) (n0 : Nat) (tr : List Ev) : Bool :=
  tr.all fun e => match readsAt e.s.τ e.o.op with
    | some k => tr.all (loadOk bf n0 e.i k)
    | none => true

def trace (P : Program) (I : Inv) (ops : Array Oper) : List (Nat × Oper) → St → Option (List Ev × St)
  | [], s => some ([], s)
  | x :: rest, s => match stepOp P I ops x.2 s with
    | some s' => match trace P I ops rest s' with
      | some (l, z) => some (⟨x.1, x.2, s, s'⟩ :: l, z)
      | none => none
    | none => none

def runRegion (P : Program) (I : Inv) (ops : Array Oper) (draw : Bool) (s : St) : Option St :=
  if draw then
    if regionOk ops then
      match trace P I ops (orderOf ops) s with
      | some (tr, z) => if loadsOk (bfOf ops) s.A.n tr then some z else none
      | none => none
    else none
  else runOps P I ops ops.toList s

def iter (b : St → Option (Ex × St)) : Nat → St → Option (Ex × St)
  | 0, _ => none
  | n + 1, s => match b s with
    | some (.normal, s') => iter b n s'
    | r => r

def initT (ps : List Value) : T Value := go ps 0 .nil
where
  go : List Value → Nat → T Value → T Value
    | [], _, t => t
    | v :: r, i, t => go r (i + 1) (t.set i v)

/-- The code that a jump out of a round stands for. -/
def jumpOf : Option Code → Option Ex
  | none => some .normal
  | some .ret => some .ret
  | some (.exit id) => some (.exit id)
  | _ => none

/-- A call of f goes into its body. -/
def enters (P : Program) (f : FuncId) : Bool :=
  match P.funcs[f]? with
  | some fn => fn.body.isSome && fn.name != "runtime.NumGoroutine"
  | none => false

def exec (P : Program) (I : Inv) (fuel : Nat) (round : Option Nat) : Code → St → Option (Ex × St)
  | .skip, s => some (.normal, s)
  | .label _, s => some (.normal, s)
  | .region _ ops draw, s => (runRegion P I ops draw s).map fun s => (.normal, s)
  | .seq a b, s => match exec P I fuel round a s with
    | some (.normal, s') => exec P I fuel round b s'
    | r => r
  | .cond c x y, s => match ev s.τ c with
    | .bool true => exec P I fuel round x s
    | .bool false => exec P I fuel round y s
    | _ => none
  | .block id c, s => match exec P I fuel round c s with
    | some (.exit i, s') => if i = id then some (.normal, s') else some (.exit i, s')
    | r => r
  | .loop c, s => iter (exec P I fuel round c) fuel s
  | .scope c, s => exec P I fuel round c s
  | .exit id, s => some (.exit id, s)
  | .ret, s => some (.ret, s)
  | .rangeFunc f ps assign body, s =>
    -- the block for the deferred calls, at an outermost loop; the loop's record
    match (match round with
      | none => some (s.A.n, s.A.push (.dfr 0), [s.A.n])
      | some l => match s.A.get l with
        | .loop r _ => some (r.dfr, s.A, [])
        | _ => none : Option (Nat × CW × List Nat)) with
    | none => none
    | some (d, A1, mark) =>
      match ev s.τ f with
      | .func (.func g) first cap =>
        match if enters P g then I (.func g) (first ++ #[.func (.yield A1.n) #[] #[]] ++ cap)
            (A1.push (.loop { st := .ready, pending := none, tmps := s.τ, nt := s.nt, params := ps.toList, assign, body, dfr := d } 0)) else none with
        | none => none
        | some (_, A2) => match A2.get A1.n with
          | .loop r ver => if r.st = .busy then none else match jumpOf r.pending with
            | some x => some (x, { s with A := A2.set A1.n (.loop { r with st := .exhausted } (ver + 1)), dfr := mark ++ s.dfr })
            | none => none
          | _ => none
      | _ => none
  | .goto _, _ => none
  | .refuse _, _ => none

/-- The result variables read. -/
def resultsOf (P : Program) (A : CW) (τ : T Value) : List ResultVar → Option (List Value)
  | [] => some []
  | .tmp t :: r => (resultsOf P A τ r).map fun l => (τ.get t).getD undef :: l
  | .cell a t :: r => match loadAt P A t ((τ.get a).getD undef), resultsOf P A τ r with
    | some v, some l => some (v :: l)
    | _, _ => none
def resultOf (P : Program) (A : CW) (τ : T Value) (rs : List ResultVar) : Option Value :=
  match resultsOf P A τ rs with
  | some [v] => some v
  | some l => some (.tuple l.toArray)
  | none => none
/-- The blocks of the loops that have been left are shut. -/
def shut : List Nat → CW → Option CW
  | [], A => some A
  | d :: r, A => match A.get d with
    | .dfr _ => shut r (A.set d .dead)
    | _ => none

/-- A function value called; n: fuel. Contracts that are taken from elsewhere: ov. -/
def inv (P : Program) (ov : FuncId → Option (Array Value → CW → Option (Value × CW))) : Nat → Inv
  | 0, _, _, _ => none
  | n + 1, .func f, args, A =>
    match ov f with
    | some c => c args A
    | none => match P.funcs[f]? with
      | none => none
      | some fn => match fn.body with
        | none => if args.toList.all flatB then match pureRun P (callFunc f args) with
            | some (.value v) => if flatB v then some (v, A) else none
            | _ => none
          else none
        | some c =>
          if args.size ≤ fn.ntmps ∧ fn.name ≠ "runtime.NumGoroutine" then
            match exec P (inv P ov n) n none c { τ := initT args.toList, nt := fn.ntmps, A, dfr := [] } with
            | some (.exit _, _) => none
            | some (_, s) => match shut s.dfr s.A with
              | some A' => (resultOf P A' s.τ fn.results.toList).map fun v => (v, A')
              | none => none
            | none => none
          else none
  | n + 1, .yield l, args, A =>
    match A.get l with
    | .loop r _ =>
      if r.params.length = args.size ∧ r.st = .ready ∧ (r.params.all fun p => p < r.nt) = true then
        match exec P (inv P ov n) n (some l) r.assign { τ := (r.params.zip args.toList).foldl (fun τ (p, a) => τ.set p a) r.tmps, nt := r.nt, A, dfr := [] } with
        | some (.normal, s) => match s.A.get l with
          | .loop r1 v1 => if r1.st = .ready then
              match exec P (inv P ov n) n (some l) r.body { s with A := s.A.set l (.loop { r1 with st := .busy } (v1 + 1)) } with
              | some (x, s2) => match s2.A.get l with
                | .loop r2 v2 => if s2.dfr = [] then match x with
                    | .normal => some (.bool true, s2.A.set l (.loop { r2 with st := .ready, pending := none } (v2 + 1)))
                    | .ret => some (.bool false, s2.A.set l (.loop { r2 with st := .done, pending := some .ret } (v2 + 1)))
                    | .exit id => some (.bool false, s2.A.set l (.loop { r2 with st := .done, pending := some (.exit id) } (v2 + 1)))
                  else none
                | _ => none
              | none => none
            else none
          | _ => none
        | _ => none
      else none
    | _ => none
  | _ + 1, _, _, _ => none
end Go.AM

