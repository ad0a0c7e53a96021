/-
  AM: codecs of plain elements, errors' lists, arguments taken apart.
-/
import Derived.Test.YthfphmbjhmaomaaAmSimp
import Derived.Shelf.SlSortCmp.NoneTotal
import Derived.Test.YthfphmbjhmaomaaAmRange
import Derived.Test.YthfphmbjhmaomaaAmCon
import Derived.Laws.StructEq
import Derived.Test.YthfphmbjhmaomaaAmRow
namespace Go.AM
variable {P : Program} {A A' : CW} {ov : Ov}

def cI (k : IntKind) : Codec Int := ⟨1, by omega, fun n => [.int k n], fun | [.f (.int k' n)] => if k' = k then some n else none | _ => none, fun _ => rfl, fun _ => rfl, fun x => by simp, fun row x h => by
  split at h
  · split at h
    · rename_i hk; subst hk; cases h; rfl
    · cases h
  · cases h⟩
def cII : Codec (Int × Int) := ⟨2, by omega, fun p => [.int .i64 p.1, .int .i64 p.2], fun | [.f (.int .i64 m), .f (.int .i64 n)] => some (m, n) | _ => none, fun _ => rfl, fun _ => rfl, fun x => by simp, fun row x h => by
  split at h
  · cases h; rfl
  · cases h⟩
@[simp] theorem cI_es (k : IntKind) : (cI k).es = 1 := Eq.trans rfl rfl
@[simp] theorem cI_enc (k : IntKind) (n : Int) : (cI k).enc n = [.int k n] := Eq.trans rfl rfl
@[simp] theorem cII_es : cII.es = 2 := Eq.trans rfl rfl
@[simp] theorem cII_enc (p : Int × Int) : cII.enc p = [.int .i64 p.1, .int .i64 p.2] := Eq.trans rfl rfl

theorem IsSl.new {α : Type} {c : Codec α} {l : List α} {e : TypeId} {lo ro : Bool} {ver : Nat} (h : szOf P e = some c.es) : IsSl P (A.push (.cells (l.flatMap c.enc) e lo ro ver)) c (some ⟨A.n, 0, none⟩) l.length l := by
  refine ⟨Nat.le_refl _, fun h => (by cases h), fun q hq => ?_⟩
  cases hq
  have hlen : (l.flatMap c.enc).length = l.length * c.es := by
    induction l with
    | nil => simp
    | cons x l ih => rw [List.flatMap_cons, List.length_append, ih, c.len, List.length_cons, Nat.succ_mul, Nat.add_comm]
  refine ⟨⟨_, _, _, _, _, CW.get_push_self A _, h, by simp only [Nat.zero_add]; omega, by rw [← hlen]; exact List.take_length⟩, by simp, rfl, ?_⟩
  rw [CW.get_push_self]
  refine okOb_up (n := 0) (by omega) ?_
  simp only [okOb, cellsB, List.all_eq_true, List.mem_flatMap]
  rintro v ⟨x, _, hv⟩
  exact List.all_eq_true.1 (c.flat x) v hv

/-- The first error among values. -/
def firstV : List Value → Int
  | .int _ e :: r => if e = 0 then firstV r else e
  | _ => 0
def firstE : List Int → Int
  | [] => 0
  | e :: l => if e = 0 then firstE l else e
def intV : List Value → Bool
  | [] => true
  | .int .i64 _ :: r => intV r
  | _ => false
@[simp] theorem intV_nil : intV [] = true := Eq.trans rfl rfl
@[simp] theorem intV_cons (n : Int) (r : List Value) : intV (.int .i64 n :: r) = intV r := Eq.trans rfl rfl
theorem intV_spec : ∀ (vs : List Value), intV vs = true → ∃ l : List Int, vs = l.flatMap (cI .i64).enc ∧ vs.length = l.length ∧ firstV vs = firstE l
  | [], _ => ⟨[], rfl, rfl, rfl⟩
  | .int .i64 n :: r, h => by
    obtain ⟨l, rfl, h2, h3⟩ := intV_spec r h
    exact ⟨n :: l, rfl, by simp [h2], by simp only [firstV, firstE, h3]⟩
theorem first_at {f : FuncId} {e : TypeId} (hsz : szOf P e = some 1) (hf : ∀ (A : CW) (a : Option Addr) (cap : Nat) (l : List Int), l.length < 2 ^ 47 → IsSl P A (cI .i64) a cap l → den P ov (.func f) #[.slice a l.length cap] A = some (.int .i64 (firstE l), A))
    {k n : Nat} {vs : List Value} (hk : k = A.n) (hn : n = vs.length) (hv : intV vs = true) (hl : vs.length < 1000) :
    den P ov (.func f) #[.slice (some ⟨k, 0, none⟩) n n] (A.push (.cells vs e false false 0)) = some (.int .i64 (firstV vs), A.push (.cells vs e false false 0)) := by
  subst hk hn
  obtain ⟨l, rfl, h2, h3⟩ := intV_spec vs hv
  rw [h2, h3]
  exact hf _ _ _ l (by omega) (IsSl.new hsz)

/-! arguments taken apart -/
theorem args1 {f : Value → Option DT} {args : Array Value} {d1 : DT} (h : mapO f args.toList = some [d1]) : ∃ v1, args = #[v1] ∧ f v1 = some d1 := by
  obtain ⟨l⟩ := args
  cases l with
  | nil => simp [mapO] at h
  | cons v1 l =>
    simp only [mapO] at h
    split at h
    · rename_i y hy
      obtain ⟨z, hz, e⟩ := Option.map_eq_some_iff.1 h
      cases e
      cases l with
      | nil => exact ⟨v1, rfl, hy⟩
      | cons v2 l =>
        simp only [mapO] at hz
        split at hz
        · obtain ⟨z, hz, e⟩ := Option.map_eq_some_iff.1 hz; cases e
        · cases hz
    · cases h
theorem args_cons {f : Value → Option DT} {l : List Value} {d : DT} {ds : List DT} (h : mapO f l = some (d :: ds)) : ∃ v l', l = v :: l' ∧ f v = some d ∧ mapO f l' = some ds := by
  cases l with
  | nil => simp [mapO] at h
  | cons v l =>
    simp only [mapO] at h
    split at h
    · rename_i y hy
      obtain ⟨z, hz, e⟩ := Option.map_eq_some_iff.1 h
      cases e
      exact ⟨v, l, rfl, hy, hz⟩
    · cases h
theorem args_nil {f : Value → Option DT} {l : List Value} (h : mapO f l = some []) : l = [] := by
  cases l with
  | nil => rfl
  | cons v l =>
    simp only [mapO] at h
    split at h
    · obtain ⟨z, hz, e⟩ := Option.map_eq_some_iff.1 h; cases e
    · cases h
theorem args2 {f : Value → Option DT} {args : Array Value} {d1 d2 : DT} (h : mapO f args.toList = some [d1, d2]) : ∃ v1 v2, args = #[v1, v2] ∧ f v1 = some d1 ∧ f v2 = some d2 := by
  obtain ⟨l⟩ := args
  obtain ⟨v1, l, rfl, h1, h⟩ := args_cons h
  obtain ⟨v2, l, rfl, h2, h⟩ := args_cons h
  obtain rfl := args_nil h
  exact ⟨v1, v2, rfl, h1, h2⟩
theorem args3 {f : Value → Option DT} {args : Array Value} {d1 d2 d3 : DT} (h : mapO f args.toList = some [d1, d2, d3]) : ∃ v1 v2 v3, args = #[v1, v2, v3] ∧ f v1 = some d1 ∧ f v2 = some d2 ∧ f v3 = some d3 := by
  obtain ⟨l⟩ := args
  obtain ⟨v1, l, rfl, h1, h⟩ := args_cons h
  obtain ⟨v2, l, rfl, h2, h⟩ := args_cons h
  obtain ⟨v3, l, rfl, h3, h⟩ := args_cons h
  obtain rfl := args_nil h
  exact ⟨v1, v2, v3, rfl, h1, h2, h3⟩
theorem args4 {f : Value → Option DT} {args : Array Value} {d1 d2 d3 d4 : DT} (h : mapO f args.toList = some [d1, d2, d3, d4]) : ∃ v1 v2 v3 v4, args = #[v1, v2, v3, v4] ∧ f v1 = some d1 ∧ f v2 = some d2 ∧ f v3 = some d3 ∧ f v4 = some d4 := by
  obtain ⟨l⟩ := args
  obtain ⟨v1, l, rfl, h1, h⟩ := args_cons h
  obtain ⟨v2, l, rfl, h2, h⟩ := args_cons h
  obtain ⟨v3, l, rfl, h3, h⟩ := args_cons h
  obtain ⟨v4, l, rfl, h4, h⟩ := args_cons h
  obtain rfl := args_nil h
  exact ⟨v1, v2, v3, v4, rfl, h1, h2, h3, h4⟩
/-! cells of values -/
section
variable (k : IntKind) (fk : FloatKind) (n : Int) (m : Nat) (b : Bool) (str : ByteArray) (ad : Option Addr) (l c : Nat) (cs : Array Value) (fn : Fn) (mp : Option Nat)
@[simp] theorem cells_agg : (Value.agg cs).cells = cs := Eq.trans rfl rfl
@[simp] theorem cells_int : (Value.int k n).cells = #[.int k n] := Eq.trans rfl rfl
@[simp] theorem cells_bool : (Value.bool b).cells = #[.bool b] := Eq.trans rfl rfl
@[simp] theorem cells_string : (Value.string str).cells = #[.string str] := Eq.trans rfl rfl
@[simp] theorem cells_float : (Value.float fk m).cells = #[.float fk m] := Eq.trans rfl rfl
@[simp] theorem cells_pointer : (Value.pointer ad).cells = #[.pointer ad] := Eq.trans rfl rfl
@[simp] theorem cells_slice : (Value.slice ad l c).cells = #[.slice ad l c] := Eq.trans rfl rfl
@[simp] theorem cells_map : (Value.map mp).cells = #[.map mp] := Eq.trans rfl rfl
@[simp] theorem cells_func (a : Array Value) : (Value.func fn a cs).cells = #[.func fn a cs] := Eq.trans rfl rfl
@[simp] theorem one_int : oneB (.int k n) = true := Eq.trans rfl rfl
@[simp] theorem one_bool : oneB (.bool b) = true := Eq.trans rfl rfl
@[simp] theorem one_string : oneB (.string str) = true := Eq.trans rfl rfl
@[simp] theorem one_float : oneB (.float fk m) = true := Eq.trans rfl rfl
@[simp] theorem one_pointer : oneB (.pointer ad) = true := Eq.trans rfl rfl
@[simp] theorem one_slice : oneB (.slice ad l c) = true := Eq.trans rfl rfl
@[simp] theorem one_map : oneB (.map mp) = true := Eq.trans rfl rfl
@[simp] theorem one_func (a : Array Value) : oneB (.func fn a cs) = true := Eq.trans rfl rfl
@[simp] theorem flat_int : flatB (.int k n) = true := Eq.trans rfl rfl
@[simp] theorem flat_bool : flatB (.bool b) = true := Eq.trans rfl rfl
@[simp] theorem flat_string : flatB (.string str) = true := Eq.trans rfl rfl
@[simp] theorem flat_float : flatB (.float fk m) = true := Eq.trans rfl rfl
@[simp] theorem flat_nil : flatB (.slice none 0 0) = true := Eq.trans rfl rfl
@[simp] theorem flat_agg (vs : List Value) : flatB (.agg vs.toArray) = flatB.flatL vs := Eq.trans rfl rfl
@[simp] theorem flat_tuple (vs : List Value) : flatB (.tuple vs.toArray) = flatB.flatL vs := Eq.trans rfl rfl
@[simp] theorem flatL_nil : flatB.flatL [] = true := Eq.trans rfl rfl
@[simp] theorem flatL_cons (v : Value) (vs : List Value) : flatB.flatL (v :: vs) = (flatB v && flatB.flatL vs) := Eq.trans rfl rfl
end
attribute [simp] allocV boxV newCells

/-! what comes of a call -/
def OutQ [Q : Held (Value → CW → Prop)] (v : Value) (A : CW) : Prop := Q.val v A
def OutK [Q : Held (Value → CW → Prop)] : Option (Value × CW) → Prop
  | some (v, A) => @OutQ Q v A
  | none => False
@[simp] theorem OutK_some (Q : Held (Value → CW → Prop)) (v : Value) (A : CW) : @OutK Q (some (v, A)) = @OutQ Q v A := Eq.trans rfl rfl
theorem den_out {f : FuncId} {fn : Func} {c : Code} {args : Array Value} (hov : ov f = none) (hfn : P.funcs[f]? = some fn) (hb : fn.body = some c) (hc : args.size ≤ fn.ntmps ∧ fn.name ≠ "runtime.NumGoroutine") {Q : Value → CW → Prop}
    (h : @OutK ⟨Q⟩ (leaveK P fn (xden P ov none c { τ := initT args.toList, nt := fn.ntmps, A, dfr := [] }))) : ∃ v A', den P ov (.func f) args A = some (v, A') ∧ Q v A' := by
  cases hx : leaveK P fn (xden P ov none c { τ := initT args.toList, nt := fn.ntmps, A, dfr := [] }) with
  | none => rw [hx] at h; exact h.elim
  | some r =>
    rw [hx] at h
    exact ⟨r.1, r.2, den_func hov hfn hb hc hx, h⟩
theorem Grow.push1 (A : CW) (o : Ob) : Grow A (A.push o) := (Grow.refl A).push o
end Go.AM

/-
  AM: a slice that a function appends to.
-/
namespace Go.AM
variable {P : Program} {A A' A₁ : CW}

/-- A slice of a function's own that is appended to: nil, or a row of its own, not below m. -/
structure Acc (A : CW) (m : Nat) (a : Option Addr) (len cap : Nat) (cells : List Value) (e : TypeId) (sz : Nat) : Prop where
  one : cells.all oneB = true
  ex : (a = none ∧ len = 0 ∧ cap = 0 ∧ cells = []) ∨ (∃ k ver, a = some ⟨k, 0, some sz⟩ ∧ cap = len ∧ m ≤ k ∧ k < A.n ∧ A.get k = .cells cells e true false ver ∧ len * sz = cells.length ∧ 1 ≤ len)
theorem Acc.nil (A : CW) (m : Nat) (e : TypeId) (sz : Nat) : Acc A m none 0 0 [] e sz := ⟨rfl, .inl ⟨rfl, rfl, rfl, rfl⟩⟩
theorem Acc.len {m : Nat} {a : Option Addr} {len cap : Nat} {cells : List Value} {e : TypeId} {sz : Nat} (h : Acc A m a len cap cells e sz) : len * sz = cells.length := by
  rcases h.ex with ⟨_, rfl, _, rfl⟩ | ⟨k, ver, _, _, _, _, _, h6, _⟩
  · simp
  · exact h6
/-- What comes after leaves it alone. -/
theorem Acc.keep {m : Nat} {a : Option Addr} {len cap : Nat} {cells : List Value} {e : TypeId} {sz : Nat} (h : Acc A m a len cap cells e sz) (hn : A.n ≤ A'.n) (hk : ∀ k, m ≤ k → k < A.n → A'.get k = A.get k) : Acc A' m a len cap cells e sz := by
  refine ⟨h.one, ?_⟩
  rcases h.ex with h1 | ⟨k, ver, h1, h2, h3, h4, h5, h6, h7⟩
  · exact .inl h1
  · exact .inr ⟨k, ver, h1, h2, h3, by omega, by rw [hk k h3 h4]; exact h5, h6, h7⟩
theorem Acc.push {m : Nat} {a : Option Addr} {len cap : Nat} {cells : List Value} {e : TypeId} {sz : Nat} (h : Acc A m a len cap cells e sz) (o : Ob) : Acc (A.push o) m a len cap cells e sz :=
  h.keep (by simp) fun k _ hk => CW.get_push_ne _ _ (by omega)
theorem Keeps.trans {n : Nat} {A₂ : CW} (h : Keeps n A A₁) (h' : Keeps n A₁ A₂) : Keeps n A A₂ := fun k hk => (h' k hk).trans (h k hk)
theorem Keeps.set {n k : Nat} {o : Ob} (h : n ≤ k) : Keeps n A (A.set k o) := fun j hj => CW.get_set_ne _ _ (by omega)

theorem acc_append {m : Nat} {a : Option Addr} {len cap : Nat} {cells : List Value} {e e2 sT xT : TypeId} {xe : TypeId} {sz by_ n k2 v2 : Nat} {z : Value} {new : List Value} {lo2 ro2 : Bool} {ap : Option (Value × CW)}
    (hap : append P A #[sT, xT] #[.slice a len cap, .slice (some ⟨k2, 0, none⟩) n n] = ap) (h : Acc A m a len cap cells e sz) (hm : m ≤ A.n) (hT : P.underlying sT = some (.slice e)) (hX : P.underlying xT = some (.slice xe)) (hs : szOf P e = some sz) (hb : bytesOf P e = some by_) (hz : zeroOf P e = some z) (hzs : z.cells.size = sz) (hs0 : sz ≠ 0)
    (hnew : A.get k2 = .cells new e2 lo2 ro2 v2) (hn : n * sz = new.length) (hn1 : 1 ≤ n) (hone : new.all oneB = true) (hbound : (len + n) * (by_ + 1) ≤ 2 ^ 40) (hby : by_ ≤ 2 ^ 30) :
    ∃ A', ap = some (.slice (some ⟨A.n, 0, some sz⟩) (len + n) (len + n), A') ∧ Acc A' m (some ⟨A.n, 0, some sz⟩) (len + n) (len + n) (cells ++ new) e sz ∧ A'.n = A.n + 1 ∧ Keeps m A A' := by
  have hel : elems A sz n (.slice (some ⟨k2, 0, none⟩) n n) = some new := by
    simp only [elems, cellsAt, hnew, Nat.zero_add]
    rw [if_pos (by omega), hn]; simp
  rcases h.ex with ⟨rfl, rfl, rfl, rfl⟩ | ⟨k, ver, rfl, rfl, h3, h4, h5, h6, h7⟩
  · refine ⟨A.push (.cells new e true false 0), ?_, ⟨by simpa using hone, .inr ⟨A.n, 0, rfl, rfl, hm, by simp, by rw [CW.get_push_self]; rfl, by simpa using hn, by omega⟩⟩, by simp, Keeps.push hm⟩
    rw [← hap]
    have hno : newOf A sz z.cells.toList (isInt (P.underlying xT)) (.slice (some ⟨k2, 0, none⟩) n n) = some (n, new) := by
      simp [newOf, hX, isInt, lenOf, hel, hn]
    rw [hX] at hno
    simp only [append, List.getElem?_toArray, List.getElem?_cons_zero, List.getElem?_cons_succ, hT, hs, hb, hz, hX, hno]
    have hbk : baseOk A none = true := rfl
    rw [if_pos ⟨hs0, hzs, by simpa using hbound, hby, rfl, hbk⟩, if_neg (by omega)]
    simp only [elems, List.nil_append]
    rw [if_pos hone]
    simp [kill]
  · refine ⟨(A.set k .dead).push (.cells (cells ++ new) e true false 0), ?_, ⟨by simp only [List.all_append, Bool.and_eq_true]; exact ⟨h.one, hone⟩, .inr ⟨A.n, 0, rfl, rfl, hm, by simp, by have := CW.get_push_self (A.set k .dead) (.cells (cells ++ new) e true false 0); simpa using this, by rw [List.length_append, Nat.add_mul]; omega, by omega⟩⟩, by simp, ?_⟩
    · rw [← hap]
      have hno : newOf A sz z.cells.toList (isInt (P.underlying xT)) (.slice (some ⟨k2, 0, none⟩) n n) = some (n, new) := by
        simp [newOf, hX, isInt, lenOf, hel, hn]
      rw [hX] at hno
      have hold : elems A sz cap (.slice (some ⟨k, 0, some sz⟩) cap cap) = some cells := by
        simp only [elems, cellsAt, h5, Nat.zero_add]
        rw [if_pos (by omega), h6]; simp
      simp only [append, List.getElem?_toArray, List.getElem?_cons_zero, List.getElem?_cons_succ, hT, hs, hb, hz, hX, hno]
      have hbk : baseOk A (some ⟨k, 0, some sz⟩) = true := by simp [baseOk, h5]
      rw [if_pos ⟨hs0, hzs, hbound, hby, by simp [spotOk], hbk⟩, if_neg (by omega)]
      simp only [hold]
      rw [if_pos (by simp only [List.all_append, Bool.and_eq_true]; exact ⟨h.one, hone⟩)]
      simp [kill, looseAt, h5]
    · exact (Keeps.set h3).trans (Keeps.push (by simpa using hm))

theorem acc_append' {B X : CW} {m : Nat} {a : Option Addr} {len cap : Nat} {cells : List Value} {e e2 sT xT : TypeId} {xe : TypeId} {sz by_ n k2 v2 : Nat} {z : Value} {new : List Value} {lo2 ro2 : Bool} {ap : Option (Value × CW)}
    (hap : append P X #[sT, xT] #[.slice a len cap, .slice (some ⟨k2, 0, none⟩) n n] = ap) (h : Acc B m a len cap cells e sz) (hBX : B.n ≤ X.n) (hkeep : ∀ k, m ≤ k → k < B.n → X.get k = B.get k) (hm : m ≤ X.n) (hT : P.underlying sT = some (.slice e)) (hX : P.underlying xT = some (.slice xe)) (hs : szOf P e = some sz) (hb : bytesOf P e = some by_) (hz : zeroOf P e = some z) (hzs : z.cells.size = sz) (hs0 : sz ≠ 0)
    (hnew : X.get k2 = .cells new e2 lo2 ro2 v2) (hn : n * sz = new.length) (hn1 : 1 ≤ n) (hone : new.all oneB = true) (hbound : (len + n) * (by_ + 1) ≤ 2 ^ 40) (hby : by_ ≤ 2 ^ 30) :
    ∃ A', ap = some (.slice (some ⟨X.n, 0, some sz⟩) (len + n) (len + n), A') ∧ Acc A' m (some ⟨X.n, 0, some sz⟩) (len + n) (len + n) (cells ++ new) e sz ∧ A'.n = X.n + 1 ∧ (∀ j, (j < m ∨ B.n ≤ j) → j ≠ X.n → A'.get j = X.get j) := by
  have hel : elems X sz n (.slice (some ⟨k2, 0, none⟩) n n) = some new := by
    simp only [elems, cellsAt, hnew, Nat.zero_add]
    rw [if_pos (by omega), hn]; simp
  have hno : newOf X sz z.cells.toList (isInt (P.underlying xT)) (.slice (some ⟨k2, 0, none⟩) n n) = some (n, new) := by
    simp [newOf, hX, isInt, lenOf, hel, hn]
  rw [hX] at hno
  rcases h.ex with ⟨rfl, rfl, rfl, rfl⟩ | ⟨k, ver, rfl, rfl, h3, h4, h5, h6, h7⟩
  · refine ⟨X.push (.cells new e true false 0), ?_, ⟨by simpa using hone, .inr ⟨X.n, 0, rfl, rfl, hm, by simp, by rw [CW.get_push_self]; rfl, by simpa using hn, by omega⟩⟩, by simp, fun j _ hj => CW.get_push_ne _ _ hj⟩
    rw [← hap]
    simp only [append, List.getElem?_toArray, List.getElem?_cons_zero, List.getElem?_cons_succ, hT, hs, hb, hz, hX, hno]
    have hbk : baseOk X none = true := rfl
    rw [if_pos ⟨hs0, hzs, by simpa using hbound, hby, rfl, hbk⟩, if_neg (by omega)]
    simp only [elems, List.nil_append]
    rw [if_pos hone]
    simp [kill]
  · have h5' : X.get k = .cells cells e true false ver := by rw [hkeep k h3 h4]; exact h5
    refine ⟨(X.set k .dead).push (.cells (cells ++ new) e true false 0), ?_, ⟨by simp only [List.all_append, Bool.and_eq_true]; exact ⟨h.one, hone⟩, .inr ⟨X.n, 0, rfl, rfl, hm, by simp, by have := CW.get_push_self (X.set k .dead) (.cells (cells ++ new) e true false 0); simpa using this, by rw [List.length_append, Nat.add_mul]; omega, by omega⟩⟩, by simp, ?_⟩
    · rw [← hap]
      have hold : elems X sz cap (.slice (some ⟨k, 0, some sz⟩) cap cap) = some cells := by
        simp only [elems, cellsAt, h5', Nat.zero_add]
        rw [if_pos (by omega), h6]; simp
      simp only [append, List.getElem?_toArray, List.getElem?_cons_zero, List.getElem?_cons_succ, hT, hs, hb, hz, hX, hno]
      have hbk : baseOk X (some ⟨k, 0, some sz⟩) = true := by simp [baseOk, h5']
      rw [if_pos ⟨hs0, hzs, hbound, hby, by simp [spotOk], hbk⟩, if_neg (by omega)]
      simp only [hold]
      rw [if_pos (by simp only [List.all_append, Bool.and_eq_true]; exact ⟨h.one, hone⟩)]
      simp [kill, looseAt, h5']
    · intro j hj hjn
      rw [CW.get_push_ne _ _ (by simpa using hjn), CW.get_set_ne _ _ (by omega)]

theorem acc_app {B X : CW} {m : Nat} {a : Option Addr} {len cap : Nat} {cells : List Value} {e e2 sT xT : TypeId} {xe : TypeId} {sz by_ n k2 v2 : Nat} {z : Value} {new : List Value} {lo2 ro2 : Bool} {ap : Option (Value × CW)}
    (hap : append P (X.push (.cells new e2 lo2 ro2 v2)) #[sT, xT] #[.slice a len cap, .slice (some ⟨k2, 0, none⟩) n n] = ap) (h : Acc B m a len cap cells e sz) (hT : P.underlying sT = some (.slice e)) (hX : P.underlying xT = some (.slice xe)) (hs : szOf P e = some sz) (hb : bytesOf P e = some by_) (hz : zeroOf P e = some z) (hzs : z.cells.size = sz) (hs0 : sz ≠ 0)
    (hn : n * sz = new.length) (hn1 : 1 ≤ n) (hone : new.all oneB = true) (hby : by_ ≤ 2 ^ 30) (hk2 : k2 = X.n) (hBX : B.n ≤ X.n) (hm : m ≤ X.n) (hbound : (len + n) * (by_ + 1) ≤ 2 ^ 40) (hkeep : ∀ k, m ≤ k → k < B.n → X.get k = B.get k) :
    ∃ A', ap = some (.slice (some ⟨X.n + 1, 0, some sz⟩) (len + n) (len + n), A') ∧ Acc A' m (some ⟨X.n + 1, 0, some sz⟩) (len + n) (len + n) (cells ++ new) e sz ∧ A'.n = X.n + 1 + 1 ∧ (∀ j, (j < m ∨ B.n ≤ j) → j ≤ X.n → A'.get j = (X.push (.cells new e2 lo2 ro2 v2)).get j) ∧ ∀ A : CW, A.n ≤ m → A.n ≤ B.n → Grow A X → Grow A A' := by
  subst hk2
  obtain ⟨A', h1, h2, h3, h4⟩ := acc_append' hap h (by simp; omega) (fun k h1 h2 => by rw [CW.get_push_ne _ _ (by omega)]; exact hkeep k h1 h2) (by simp; omega) hT hX hs hb hz hzs hs0 (CW.get_push_self _ _) hn hn1 hone hbound hby
  exact ⟨A', h1, h2, by simpa using h3, fun j hj hjn => h4 j hj (by simp; omega), fun A hA hB hg => ⟨by have := hg.n; rw [h3]; simp; omega, fun j hj => by rw [h4 j (.inl (by omega)) (by have := hg.n; simp; omega), CW.get_push_ne _ _ (by have := hg.n; omega), hg.old j hj]⟩⟩

/-- The result that is a slice that was appended to. -/
def accR (cells : List Value) (e : TypeId) (sz len : Nat) (wrap : Option (List Value × List Value)) : Res := if len = 0 then .v (Res.wr (.slice none 0 0) wrap) else .s cells e true sz len wrap
theorem Acc.res {B : CW} {m : Nat} {a : Option Addr} {len cap : Nat} {cells : List Value} {e : TypeId} {sz : Nat} (h : Acc B m a len cap cells e sz) (hm : A.n ≤ m) (wrap : Option (List Value × List Value)) : ResIs A B (Res.wr (.slice a len cap) wrap) (accR cells e sz len wrap) := by
  unfold accR
  rcases h.ex with ⟨rfl, rfl, rfl, rfl⟩ | ⟨k, ver, rfl, rfl, h3, h4, h5, h6, h7⟩
  · simp [ResIs]
  · rw [if_neg (by omega)]
    exact ⟨k, ver, by omega, h4, h5, rfl⟩
theorem accR_lay {α : Type} {c : Codec α} {l : List α} {e : TypeId} (he : szOf P e = some c.es) (hx : ∀ x, (c.enc x).all oneB = true) (wrap : Option (List Value × List Value)) {r : Res} (hr : r = accR (l.flatMap c.enc) e c.es l.length wrap) :
    ∃ a cap A1, r.lay A = (Res.wr (.slice a l.length cap) wrap, A1) ∧ IsSl P A1 c a cap l ∧ Grow A A1 ∧ Acc A1 A.n a l.length cap (l.flatMap c.enc) e c.es := by
  subst hr
  unfold accR
  have hone : (l.flatMap c.enc).all oneB = true := by
    rw [List.all_eq_true]
    intro v hv
    obtain ⟨x, _, hv⟩ := List.mem_flatMap.1 hv
    exact List.all_eq_true.1 (hx x) v hv
  have hlen : l.length * c.es = (l.flatMap c.enc).length := by
    induction l with
    | nil => simp
    | cons x l ih => rw [List.flatMap_cons, List.length_append, ← ih (by simp only [List.flatMap_cons, List.all_append, Bool.and_eq_true] at hone; exact hone.2), c.len, List.length_cons, Nat.succ_mul, Nat.add_comm]
  by_cases h : l.length = 0
  · have : l = [] := List.eq_nil_of_length_eq_zero h
    subst this
    exact ⟨none, 0, A, rfl, IsSl.nil c, Grow.refl _, Acc.nil _ _ _ _⟩
  · rw [if_neg h]
    refine ⟨some ⟨A.n, 0, some c.es⟩, l.length, _, rfl, ?_, Grow.push1 _ _, ⟨hone, .inr ⟨A.n, 0, rfl, rfl, Nat.le_refl _, by simp, CW.get_push_self _ _, hlen, by omega⟩⟩⟩
    refine ⟨Nat.le_refl _, fun h => (by cases h), fun q hq => ?_⟩
    cases hq
    refine ⟨⟨_, _, _, _, _, CW.get_push_self A _, he, by simp only [Nat.zero_add]; omega, by rw [hlen]; exact List.take_length⟩, by simp, by simp [spotOk], ?_⟩
    rw [CW.get_push_self]
    refine okOb_up (n := 0) (by omega) ?_
    simp only [okOb, cellsB, List.all_eq_true, List.mem_flatMap]
    rintro v ⟨x, _, hv⟩
    exact List.all_eq_true.1 (c.flat x) v hv

theorem Acc.isSl {α : Type} {c : Codec α} {l : List α} {B : CW} {m : Nat} {a : Option Addr} {len cap : Nat} {e : TypeId} (h : Acc B m a len cap (l.flatMap c.enc) e c.es) (he : szOf P e = some c.es) : IsSl P B c a cap l ∧ len = l.length := by
  have hlen : l.length * c.es = (l.flatMap c.enc).length := by
    clear h
    induction l with
    | nil => simp
    | cons x l ih => rw [List.flatMap_cons, List.length_append, ← ih, c.len, List.length_cons, Nat.succ_mul, Nat.add_comm]
  rcases h.ex with ⟨rfl, rfl, rfl, h2⟩ | ⟨k, ver, rfl, rfl, h3, h4, h5, h6, h7⟩
  · have : l.length = 0 := by
      rw [h2] at hlen
      rcases Nat.mul_eq_zero.1 hlen with h | h
      · exact h
      · have := c.pos; omega
    have : l = [] := List.eq_nil_of_length_eq_zero this
    subst this
    exact ⟨IsSl.nil c, rfl⟩
  · have hll : cap = l.length := Nat.eq_of_mul_eq_mul_right c.pos (by omega)
    subst hll
    refine ⟨⟨Nat.le_refl _, fun h => (by cases h), fun q hq => ?_⟩, rfl⟩
    cases hq
    refine ⟨⟨_, _, _, _, _, h5, he, by simp only [Nat.zero_add]; omega, by rw [hlen]; exact List.take_length⟩, h4, by simp [spotOk], ?_⟩
    rw [h5]
    refine okOb_up (n := 0) (by omega) ?_
    simp only [okOb, cellsB, List.all_eq_true, List.mem_flatMap]
    rintro v ⟨x, _, hv⟩
    exact List.all_eq_true.1 (c.flat x) v hv
theorem accR_ok {α : Type} {c : Codec α} {l : List α} {e : TypeId} {sz n : Nat} {wrap : Option (List Value × List Value)} (hw : (match wrap with | none => true | some (pre, post) => pre.all flatB && post.all flatB) = true) : (accR (l.flatMap c.enc) e sz n wrap).ok = true := by
  unfold accR
  split
  · cases wrap with
    | none => rfl
    | some w =>
      obtain ⟨pre, post⟩ := w
      simp only [Bool.and_eq_true] at hw
      have h2 : ∀ l : List Value, flatB.flatL l = l.all flatB := fun l => by induction l with
        | nil => rfl
        | cons x l ih => simp [flatB.flatL, ih]
      simp only [Res.ok, Res.wr]
      rw [flatB, h2, List.all_append, List.all_cons, hw.1, hw.2]; rfl
  · have h1 : (l.flatMap c.enc).all flatB = true := by
      simp only [List.all_eq_true, List.mem_flatMap]
      rintro v ⟨x, _, hv⟩
      exact List.all_eq_true.1 (c.flat x) v hv
    simp only [Res.ok, h1, Bool.true_and]
    exact hw

/-! cells in heaps that are built up -/
def obCell (off : Nat) : Ob → Option Value
  | .cells vs _ _ _ _ => vs[off]?
  | _ => none
def obCells (off n : Nat) : Ob → Option (List Value)
  | .cells vs _ _ _ _ => if off + n ≤ vs.length then some ((vs.drop off).take n) else none
  | _ => none
@[simp] theorem obCell_cells (vs : List Value) (e : TypeId) (lo ro : Bool) (ver off : Nat) : obCell off (.cells vs e lo ro ver) = vs[off]? := Eq.trans rfl rfl
@[simp] theorem obCells_cells (vs : List Value) (e : TypeId) (lo ro : Bool) (ver off n : Nat) : obCells off n (.cells vs e lo ro ver) = if off + n ≤ vs.length then some ((vs.drop off).take n) else none := Eq.trans rfl rfl
theorem cellAt_eq (k off : Nat) : cellAt A k off = obCell off (A.get k) := by unfold cellAt obCell; cases A.get k <;> rfl
theorem cellsAt_eq (k off n : Nat) : cellsAt A k off n = obCells off n (A.get k) := by unfold cellsAt obCells; cases A.get k <;> rfl
@[simp] theorem cellAt_push (o : Ob) (k off : Nat) : cellAt (A.push o) k off = if k = A.n then obCell off o else cellAt A k off := by
  rw [cellAt_eq, CW.get_push]; split
  · rfl
  · rw [cellAt_eq]
@[simp] theorem cellsAt_push (o : Ob) (k off n : Nat) : cellsAt (A.push o) k off n = if k = A.n then obCells off n o else cellsAt A k off n := by
  rw [cellsAt_eq, CW.get_push]; split
  · rfl
  · rw [cellsAt_eq]
@[simp] theorem cellAt_set (o : Ob) (j k off : Nat) : cellAt (A.set j o) k off = if k = j then obCell off o else cellAt A k off := by
  rw [cellAt_eq, CW.get_set]; split
  · rfl
  · rw [cellAt_eq]
@[simp] theorem cellsAt_set (o : Ob) (j k off n : Nat) : cellsAt (A.set j o) k off n = if k = j then obCells off n o else cellsAt A k off n := by
  rw [cellsAt_eq, CW.get_set]; split
  · rfl
  · rw [cellsAt_eq]
@[simp] theorem loadAt_ptr (e : TypeId) (k o : Nat) (sp : Option Nat) : loadAt P A e (.pointer (some ⟨k, o, sp⟩)) = match aggB P e with
    | some true => match szOf P e with
      | some s => match cellsAt A k o s with
        | some cs => some (.agg cs.toArray)
        | none => none
      | none => none
    | some false => cellAt A k o
    | none => none := Eq.trans rfl rfl
@[simp] theorem maxV_int (ts : Array TypeId) (t : TypeId) (k : IntKind) (m n : Int) : maxV P ts t true #[.int k m, .int k n] = some (.int k (max m n)) := by
  have h : maxV P ts t true #[.int k m, .int k n] = some (.int k (if n > m then n else m)) := rfl
  rw [h]; congr 2; split <;> omega
@[simp] theorem minV_int (ts : Array TypeId) (t : TypeId) (k : IntKind) (m n : Int) : maxV P ts t false #[.int k m, .int k n] = some (.int k (min m n)) := by
  have h : maxV P ts t false #[.int k m, .int k n] = some (.int k (if n < m then n else m)) := rfl
  rw [h]; congr 2; split <;> omega
@[simp] theorem lt_2 (n : Nat) : (n < n + 1 + 1) = True := eq_true (by omega)
@[simp] theorem lt_3 (n : Nat) : (n < n + 1 + 1 + 1) = True := eq_true (by omega)
@[simp] theorem lt_4 (n : Nat) : (n < n + 1 + 1 + 1 + 1) = True := eq_true (by omega)
@[simp] theorem lt_5 (n : Nat) : (n < n + 1 + 1 + 1 + 1 + 1) = True := eq_true (by omega)
@[simp] theorem eq_2 (n : Nat) : (n = n + 1 + 1) = False := eq_false (by omega)
@[simp] theorem eq_3 (n : Nat) : (n = n + 1 + 1 + 1) = False := eq_false (by omega)
@[simp] theorem eq_4 (n : Nat) : (n = n + 1 + 1 + 1 + 1) = False := eq_false (by omega)
@[simp] theorem eq_5 (n : Nat) : (n = n + 1 + 1 + 1 + 1 + 1) = False := eq_false (by omega)
attribute [simp] fieldAddr buildSlice rep fillAt splice len goInt indexAddr field build part placeOf storeAt putCells CW.get_push CW.get_set intV_nil intV_cons
end Go.AM

/-
  AM: slices.SortFunc, by the library's contract.
-/
namespace Go.AM
open Go.Proofs Go.Sort Go.Shelf
variable {P : Program} {γ : Gam} {A A' : CW} {w w' : World} {ov : Ov} {α : Type}

/-- Blocks that nobody names are laid. -/
theorem Step.grown (h : WRel P γ A w) (os : Array Obj) : Step P γ A w γ A (grow w os) where
  calm := ⟨rfl, rfl, by simp [grow], fun a ha => by
    unfold World.frozen? grow
    simp only
    rw [Array.getElem?_append_left ha]⟩
  ext := .refl _
  dom _ _ h := .inl h
  fresh k h1 h2 := absurd h2 (Nat.not_lt.2 h1)
  rel := ⟨fun k e hk hn => by
      rcases h.blk k e hk with hb | ⟨_, hh⟩
      · have : (grow w os).heap[e.b]? = w.heap[e.b]? := by simp [grow, Array.getElem?_append_left hb]
        rw [this]; exact h.obj k e hk hn
      · exact (h.obj k e hk hn).of_harmless hh,
    h.sep, fun k e hk => (h.blk k e hk).imp (fun hb => by simp [grow]; omega) id, h.glob, h.wf⟩
  n := Nat.le_refl _
  cfr _ _ _ := rfl
  le _ _ := .refl _
  ro _ _ _ := rfl
  size := by simp [grow]
  old k e hk hn := by rw [hk] at hn; cases hn
  wfr b hb _ := by simp [grow, Array.getElem?_append_left hb]

def decL (c : Codec α) : Nat → List Value → Option (List α)
  | 0, [] => some []
  | 0, _ => none
  | n + 1, vs => match c.dec ((vs.take c.es).map .f), decL c n (vs.drop c.es) with
    | some x, some l => some (x :: l)
    | _, _ => none
theorem map_f_inj : ∀ {a b : List Value}, a.map DT.f = b.map DT.f → a = b
  | [], [], _ => rfl
  | x :: a, y :: b, h => by
    simp only [List.map_cons, List.cons.injEq, DT.f.injEq] at h
    rw [h.1, map_f_inj h.2]
  | [], _ :: _, h => by simp at h
  | _ :: _, [], h => by simp at h
theorem decL_eq {c : Codec α} : ∀ {n : Nat} {vs : List Value} {l : List α}, decL c n vs = some l → vs = l.flatMap c.enc ∧ l.length = n
  | 0, vs, l, h => by
    unfold decL at h
    split at h <;> simp_all
  | n + 1, vs, l, h => by
    rw [decL] at h
    split at h
    · rename_i x l' hx hl'
      cases h
      obtain ⟨h1, h2⟩ := decL_eq hl'
      have h3 := map_f_inj (c.enc_dec _ _ hx)
      refine ⟨?_, by simp [h2]⟩
      rw [List.flatMap_cons, ← h1, ← h3, List.take_append_drop]
    · cases h
theorem decL_enc {c : Codec α} : ∀ (l : List α), decL c l.length (l.flatMap c.enc) = some l
  | [] => rfl
  | x :: l => by
    rw [List.length_cons, decL, List.flatMap_cons]
    have h1 : (c.enc x ++ l.flatMap c.enc).take c.es = c.enc x := by rw [← c.len x]; exact List.take_left
    have h2 : (c.enc x ++ l.flatMap c.enc).drop c.es = l.flatMap c.enc := by rw [← c.len x]; exact List.drop_left
    rw [h1, h2, c.dec_enc, decL_enc l]

/-- What a sort makes of a row, where whatever two elements that are not one are parted. -/
def srtL (lt : α → α → Bool) [DecidableEq α] (l : List α) : Option (List α) := if (l.all fun x => l.all fun y => lt x y || lt y x || decide (x = y)) = true then some (l.mergeSort fun x y => !lt y x) else none
theorem srtL_uniq [Inhabited α] [DecidableEq α] {lt : α → α → Bool} (hS : SWO lt) (l l' : List α) (h : srtL lt l = some l') (d' : Array α) (hp : PermIn 0 l.length l.toArray d') (hso : SortedIn lt 0 l.length d') : d'.toList = l' := by
  unfold srtL at h
  split at h
  case isFalse => cases h
  rename_i hall
  cases h
  obtain ⟨hsz, _, hperm⟩ := hp
  have e0 : l.toArray.size = l.length := by simp
  have e1 : d'.extract 0 l.length = d' := by rw [← e0, ← hsz]; exact Array.extract_size
  have e2 : l.toArray.extract 0 l.length = l.toArray := by rw [← e0]; exact Array.extract_size
  rw [e1, e2] at hperm
  refine List.Perm.eq_of_pairwise (le := fun x y => (!lt y x) = true) ?_ ?_ ?_ (hperm.trans (List.mergeSort_perm _ _).symm)
  · intro a b ha hb h1 h2
    simp only [Bool.not_eq_true'] at h1 h2
    have ha' : a ∈ l := by simpa using hperm.mem_iff.1 ha
    have hb' : b ∈ l := (List.mergeSort_perm l _).mem_iff.1 hb
    have := List.all_eq_true.1 (List.all_eq_true.1 hall a ha') b hb'
    rw [h1, h2] at this
    simpa using this
  · rw [List.pairwise_iff_getElem]
    intro i j hi hj hij
    have hi' : i < d'.size := by simpa using hi
    have hj' : j < d'.size := by simpa using hj
    have := hso i j (Nat.zero_le _) hij (by omega)
    rw [getElem!_pos d' j hj', getElem!_pos d' i hi'] at this
    simpa using this
  · refine List.pairwise_mergeSort ?_ ?_ _
    · intro a b c h1 h2
      simp only [Bool.not_eq_true'] at h1 h2 ⊢
      exact hS.ntrans c b a h2 h1
    · intro a b
      cases h : lt b a with
      | false => simp
      | true => simp [hS.asymmA h]
def sortOv (P : Program) (c : Codec α) (g : FuncId) (srt : List α → Option (List α)) (args : Array Value) (A : CW) : Option (Value × CW) := match args.toList with
  | [.slice none 0 0, .func (.func g') a b] => if g' = g ∧ a.size = 0 ∧ b.size = 0 then some (.tuple #[], A) else none
  | [.slice (some ⟨k, 0, _⟩) n cap, .func (.func g') a b] => match A.get k with
    | .cells vs e lo false ver => if g' = g ∧ a.size = 0 ∧ b.size = 0 ∧ k < A.n ∧ 1 ≤ n ∧ n ≤ cap ∧ n < 2 ^ 40 ∧ vs.length = n * c.es then match decL c n vs with
        | some l => match srt l with
          | some l' => some (.tuple #[], A.set k (.cells (l'.flatMap c.enc) e lo false (ver + 1)))
          | none => none
        | none => none
      else none
    | _ => none
  | _ => none

theorem flatMap_len {c : Codec α} : ∀ (l : List α), (l.flatMap c.enc).length = l.length * c.es
  | [] => by simp
  | x :: l => by rw [List.flatMap_cons, List.length_append, flatMap_len l, c.len, List.length_cons, Nat.succ_mul, Nat.add_comm]
theorem flatMap_get {c : Codec α} (l : List α) (t : Nat) (h : t < l.length * c.es) : ∃ hi : t / c.es < l.length, (l.flatMap c.enc)[t]? = (c.enc l[t / c.es])[t % c.es]? := by
  have hi : t / c.es < l.length := (Nat.div_lt_iff_lt_mul c.pos).2 h
  refine ⟨hi, ?_⟩
  have h1 := flatMap_take (c := c) l (t / c.es) hi
  rw [← h1, List.getElem?_take, if_pos (Nat.mod_lt _ c.pos), List.getElem?_drop, Nat.mul_comm, Nat.div_add_mod]
theorem flatK_list [Inhabited α] (c : Codec α) (d : Array α) : (flatK c.enc c.es d).toList = d.toList.flatMap c.enc := by
  have hs : (flatK c.enc c.es d).size = d.size * c.es := size_flatK _ _ _
  apply List.ext_getElem?
  intro t
  by_cases h : t < d.size * c.es
  · obtain ⟨hi, h2⟩ := flatMap_get (c := c) d.toList t (by simpa using h)
    rw [h2]
    have h3 := get_flatK c.enc c.es d t h
    have h4 : (flatK c.enc c.es d).toList[t]? = some (flatK c.enc c.es d)[t]! := by
      rw [getElem!_pos _ t (by omega), Array.getElem?_toList, Array.getElem?_eq_getElem]
    rw [h4, h3]
    have hi' : t / c.es < d.size := by simpa using hi
    rw [getElem!_pos d _ hi']
    have hm : t % c.es < (c.enc d[t / c.es]).length := by rw [c.len]; exact Nat.mod_lt _ c.pos
    rw [getElem!_pos (c.enc d[t / c.es]) (t % c.es) hm, List.getElem?_eq_getElem (by simpa using hm)]
    simp
  · rw [List.getElem?_eq_none (by simp [hs]; omega), List.getElem?_eq_none (by rw [flatMap_len]; simp; omega)]

theorem putCells_len (F : Array Value) (off : Nat) (cs : Array Value) : (Go.Sort.putCells id off F cs).size = cs.size := by simp [Go.Sort.putCells]
theorem putCells_list (F cs : Array Value) (off : Nat) (h : off + F.size ≤ cs.size) : ((Go.Sort.putCells id off F cs).toList.drop off).take F.size = F.toList := by
  apply List.ext_getElem?
  intro t
  rw [List.getElem?_take, List.getElem?_drop]
  by_cases ht : t < F.size
  · rw [if_pos ht]
    simp only [Go.Sort.putCells, Array.getElem?_toList, Array.getElem?_mapIdx]
    rw [Array.getElem?_eq_getElem (show off + t < cs.size by omega), Option.map_some, if_pos (by omega), Nat.add_sub_cancel_left, id, getElem!_pos F t ht, Array.getElem?_eq_getElem ht]
  · rw [if_neg ht, List.getElem?_eq_none (by simpa using ht)]

theorem permIn_list [Inhabited α] {d d' : Array α} (h : PermIn 0 d.size d d') : d'.size = d.size := h.1
theorem VL.of_flats {γ : Gam} : ∀ (l : List Value), (∀ v ∈ l, flatB v = true) → VL γ l l
  | [], _ => .nil
  | v :: l, h => .cons (.of_flat γ v (h v (by simp))) (VL.of_flats l fun x hx => h x (by simp [hx]))
theorem OvSound.addSort [Inhabited α] (ho : OvSound P ov) {f g : FuncId} (hent : enters P f = true) (c : Codec α) {lt : α → α → Bool} {srt : List α → Option (List α)}
    (h0 : ∀ w, Calls P f #[.slice Option.none 0 0, .func (.func g) #[] #[]] w fun e w' => e = .returned (.tuple #[]) ∧ w' = w)
    (h1 : ∀ (blk off cap : Nat) (d : Array α) (w : World), HoldsK c.enc c.es w blk off d → blk < w.heap.size → d.size < 4611686018427387904 →
      Calls P f #[.slice (some ⟨blk, off, Option.none⟩) d.size cap, .func (.func g) #[] #[]] w fun e w' => e = .returned (.tuple #[]) ∧ ∃ d' n os, PermIn 0 d.size d d' ∧ SortedIn lt 0 d.size d' ∧ w' = sortWorldK c.enc c.es w blk off n d' os)
    (hs : ∀ l l', srt l = some l' → ∀ d' : Array α, PermIn 0 l.length l.toArray d' → SortedIn lt 0 l.length d' → d'.toList = l') :
    OvSound P (ov.add f (sortOv P c g srt)) := by
  refine ⟨fun f' c' hg args A v A' h => ?_, fun f' c' hg F hF args A v A' h γ w args' hw hf ha => ?_⟩
  · unfold Ov.add at hg
    split at hg
    · cases hg
      unfold sortOv at h
      split at h
      · split at h
        · cases h; exact .refl _
        · cases h
      · split at h
        · rename_i hk
          split at h
          · split at h
            · split at h
              · cases h
                exact .set A (by rw [hk]; simp) (by rw [hk]; exact .inr (.inr ⟨by simp, by simp, by simp [Ob.ver]⟩))
              · cases h
            · cases h
          · cases h
        · cases h
      · cases h
    · exact ho.step f' c' hg args A v A' h
  · unfold Ov.add at hg
    split at hg
    case isFalse => exact ho.sound f' c' hg F hF args A v A' h γ w args' hw hf ha
    rename_i hgf
    cases hg
    subst hgf
    rw [enters_run hent]
    refine CallsIn.ofWide hF ?_
    obtain ⟨al⟩ := args
    obtain ⟨al'⟩ := args'
    simp only [VA] at ha
    unfold sortOv at h
    split at h
    · rename_i g' a b hal
      simp only at hal
      subst hal
      split at h
      case isFalse => cases h
      rename_i hc
      obtain ⟨rfl, ha0, hb0⟩ := hc
      cases h
      obtain ⟨v1, l1, rfl, r1, ha⟩ := ha.inv_cons
      obtain ⟨v2, l2, rfl, r2, ha⟩ := ha.inv_cons
      obtain rfl := ha.inv_nil
      cases r1
      obtain ⟨a', b', rfl, q1, q2⟩ := r2.inv_func
      have ea : a' = #[] := by have := q1.1; rw [Array.length_toList, ha0] at this; exact Array.eq_empty_of_size_eq_zero (by simpa using this.symm)
      have eb : b' = #[] := by have := q2.1; rw [Array.length_toList, hb0] at this; exact Array.eq_empty_of_size_eq_zero (by simpa using this.symm)
      subst ea eb
      refine callsIn_wide.2 ((h0 w).mono ?_)
      rintro e w' ⟨rfl, rfl⟩
      exact ⟨_, rfl, γ, .refl hw, .of_flat _ _ rfl⟩
    · rename_i k sp n cap g' a b hal
      simp only at hal
      subst hal
      split at h
      case h_2 => cases h
      rename_i vs et lo ver hk
      split at h
      case isFalse => cases h
      rename_i hc
      obtain ⟨rfl, ha0, hb0, hkn, hn1, hncap, hn40, hlen⟩ := hc
      split at h
      case h_2 => cases h
      rename_i l hl
      split at h
      case h_2 => cases h
      rename_i l' hl'
      cases h
      obtain ⟨hvs, hln⟩ := decL_eq hl
      subst hvs hln
      obtain ⟨v1, l1, rfl, r1, ha⟩ := ha.inv_cons
      obtain ⟨v2, l2, rfl, r2, ha⟩ := ha.inv_cons
      obtain rfl := ha.inv_nil
      obtain ⟨a', b', rfl, q1, q2⟩ := r2.inv_func
      have ea : a' = #[] := by have := q1.1; rw [Array.length_toList, ha0] at this; exact Array.eq_empty_of_size_eq_zero (by simpa using this.symm)
      have eb : b' = #[] := by have := q2.1; rw [Array.length_toList, hb0] at this; exact Array.eq_empty_of_size_eq_zero (by simpa using this.symm)
      subst ea eb
      obtain ⟨e, o', cap', hge, rfl, hcc, hcc2, ho', _⟩ := r1.inv_slice
      obtain rfl : o' = e.sh := by rcases ho' with h | h <;> omega
      have hob := hw.obj k e hge hkn
      rw [hk] at hob
      obtain ⟨hlo, hlo2, hob⟩ := hob
      rcases hob with ⟨_, h⟩ | ⟨cs, t', fr, hheap, hlim, hfit, hvl, hfr⟩
      · cases h
      have hflat : ∀ v ∈ l.flatMap c.enc, flatB v = true := fun v hv => by
        obtain ⟨x, _, hv⟩ := List.mem_flatMap.1 hv
        exact List.all_eq_true.1 (c.flat x) v hv
      have hflat' : ∀ v ∈ l'.flatMap c.enc, flatB v = true := fun v hv => by
        obtain ⟨x, _, hv⟩ := List.mem_flatMap.1 hv
        exact List.all_eq_true.1 (c.flat x) v hv
      have hbs : e.b < w.heap.size := hw.lt hge (by
        rw [hk]
        have : (l.flatMap c.enc).length ≠ 0 := by rw [flatMap_len]; have := c.pos; exact Nat.mul_ne_zero (by omega) (by omega)
        cases hl2 : l.flatMap c.enc with
        | nil => rw [hl2] at this; simp at this
        | cons => rfl)
      have hF : (flatK c.enc c.es l.toArray).toList = l.flatMap c.enc := by rw [flatK_list]
      have hFs : (flatK c.enc c.es l.toArray).size = (l.flatMap c.enc).length := by rw [← hF]; simp
      have hH : HoldsK c.enc c.es w e.b e.sh l.toArray := by
        intro j hj
        have hj' : j < (l.flatMap c.enc).length := by omega
        have e1 : (l.flatMap c.enc)[j]? = some (flatK c.enc c.es l.toArray)[j]! := by
          rw [← hF, getElem!_pos _ j hj, Array.getElem?_toList, Array.getElem?_eq_getElem hj]
        obtain ⟨v', g1, g2⟩ := hvl.2 j _ e1
        rw [List.getElem?_take, if_pos hj', List.getElem?_drop, Array.getElem?_toList] at g1
        have g3 := flat_eq g2 (hflat _ (List.mem_of_getElem? e1))
        subst g3
        constructor
        · unfold World.cell?
          rw [hheap]
          exact g1
        · unfold World.frozen?
          rw [hheap]
          have := hfr rfl (e.sh + j) (by omega) (by omega)
          simp only [Bool.and_eq_false_iff, decide_eq_false_iff_not]
          by_cases q : fr.1 ≤ e.sh + j
          · right; intro q2; exact this ⟨q, q2⟩
          · left; exact q
      have hc1 := h1 e.b e.sh cap' l.toArray w hH hbs (by simp; omega)
      simp only [List.size_toArray] at hc1
      refine callsIn_wide.2 (hc1.mono ?_)
      rintro e2 w' ⟨rfl, d', n, os, hp, hso, rfl⟩
      have hd := hs l l' hl' d' hp hso
      have hsz : d'.size = l.length := by simpa using hp.1
      have hll : l'.length = l.length := by rw [← hd]; simpa using hsz
      have hF' : (flatK c.enc c.es d').toList = l'.flatMap c.enc := by rw [flatK_list, hd]
      have hFs' : (flatK c.enc c.es d').size = (l'.flatMap c.enc).length := by rw [← hF']; simp
      have hlens : (l'.flatMap c.enc).length = (l.flatMap c.enc).length := by rw [flatMap_len, flatMap_len, hll]
      refine ⟨_, rfl, γ, ?_, .of_flat _ _ rfl⟩
      have hheap1 : (putRowK c.enc c.es (Go.Sort.ahead w n) e.b e.sh d').heap = w.heap.modify e.b (onCells (Go.Sort.putCells id e.sh (flatK c.enc c.es d'))) := rfl
      have hst : Step P γ A w γ (A.set k (.cells (l'.flatMap c.enc) et lo false (ver + 1))) (putRowK c.enc c.es (Go.Sort.ahead w n) e.b e.sh d') := by
        refine Step.set hw hge hkn _ (by rw [hk]; exact .inr (.inr ⟨by simp, by simp, by simp [Ob.ver]⟩)) (by rw [hk]; simp) (by rw [hk]; rfl) (by
          rw [hk]
          have : (l.flatMap c.enc).length ≠ 0 := by rw [flatMap_len]; have := c.pos; exact Nat.mul_ne_zero (by omega) (by omega)
          cases hl2 : l.flatMap c.enc with
          | nil => rw [hl2] at this; simp at this
          | cons => rfl) ?_ (by rw [hheap1]; simp) ?_ ?_
        · rw [hheap1, Array.getElem?_modify, if_pos rfl, hheap]
          refine ⟨hlo, hlo2, .inr ⟨Go.Sort.putCells id e.sh (flatK c.enc c.es d') cs, t', fr, rfl, by rw [putCells_len]; exact hlim, by omega, ?_, hfr⟩⟩
          have := putCells_list (flatK c.enc c.es d') cs e.sh (by omega)
          rw [← hFs', this, hF']
          exact .of_flats _ hflat'
        · intro b hb
          rw [hheap1, Array.getElem?_modify, if_neg (fun h => hb h.symm)]
        · refine ⟨rfl, rfl, by rw [hheap1]; simp, fun a ha => ?_⟩
          show (Go.Sort.putRow id (Go.Sort.ahead w n) e.b e.sh (flatK c.enc c.es d')).frozen? a = w.frozen? a
          rw [frozen?_putRow]
          rfl
      exact hst.trans (Step.grown hst.rel os)
    · cases h
end Go.AM

/-
  AM: lists appended to lists.
-/
namespace Go.AM
variable {P : Program} {A A' : CW} {α : Type}

theorem IsSl.elems {c : Codec α} {a : Option Addr} {cap n : Nat} {l : List α} (h : IsSl P A c a cap l) {x : Nat} : elems A c.es l.length (.slice a n x) = some (l.flatMap c.enc) := by
  cases a with
  | none => obtain ⟨rfl, _⟩ := h.2.1 rfl; rfl
  | some q => exact (h.2.2 q rfl).all
theorem IsSl.newOf {c : Codec α} {a : Option Addr} {cap : Nat} {l : List α} (h : IsSl P A c a cap l) (z : List Value) : newOf A c.es z false (.slice a l.length cap) = some (l.length, l.flatMap c.enc) := by
  unfold AM.newOf
  rw [if_neg (by simp)]
  simp only [lenOf, h.elems]
  rw [if_pos (flatMap_len l)]
theorem all_one {c : Codec α} (hone : ∀ x, (c.enc x).all oneB = true) (l : List α) : (l.flatMap c.enc).all oneB = true := by
  rw [List.all_eq_true]
  intro v hv
  obtain ⟨x, _, hv⟩ := List.mem_flatMap.1 hv
  exact List.all_eq_true.1 (hone x) v hv
theorem okOb_list {c : Codec α} {A : CW} (l : List α) (e : TypeId) (lo ro : Bool) (ver : Nat) : okOb A 3 (.cells (l.flatMap c.enc) e lo ro ver) = true := by
  refine okOb_up (n := 0) (by omega) ?_
  simp only [okOb, cellsB, List.all_eq_true, List.mem_flatMap]
  rintro v ⟨x, _, hv⟩
  exact List.all_eq_true.1 (c.flat x) v hv
/-- A whole block as a slice. -/
theorem IsSl.block {c : Codec α} {l : List α} {k : Nat} {e : TypeId} {lo ro : Bool} {ver : Nat} {sp : Option Nat} (hk : k < A.n) (hg : A.get k = .cells (l.flatMap c.enc) e lo ro ver) (he : szOf P e = some c.es) (hsp : spotOk (some ⟨k, 0, sp⟩) c.es = true) {cap : Nat} (hcap : l.length ≤ cap) : IsSl P A c (some ⟨k, 0, sp⟩) cap l := by
  refine ⟨hcap, fun h => (by cases h), fun q hq => ?_⟩
  cases hq
  exact ⟨⟨_, _, _, _, _, hg, he, by rw [flatMap_len]; exact Nat.le_of_eq (Nat.zero_add _), by rw [List.drop_zero, ← flatMap_len]; exact List.take_length⟩, hk, hsp, by rw [hg]; exact okOb_list ..⟩

theorem app_copy {c : Codec α} {l : List α} {k ver : Nat} {a : Option Addr} {ca : Nat} {e sT xT xe : TypeId} {by_ : Nat} {z : Value} {ap : Option (Value × CW)}
    (hap : append P A #[sT, xT] #[.slice (some ⟨k, 0, none⟩) 0 0, .slice a l.length ca] = ap) (hk : A.get k = .cells [] e false false ver) (hkn : k < A.n) (h : IsSl P A c a ca l)
    (hT : P.underlying sT = some (.slice e)) (hX : P.underlying xT = some (.slice xe)) (hs : szOf P e = some c.es) (hb : bytesOf P e = some by_) (hz : zeroOf P e = some z) (hzs : z.cells.size = c.es) (hone : ∀ x, (c.enc x).all oneB = true) (hby : by_ ≤ 2 ^ 30) (hbound : l.length * (by_ + 1) ≤ 2 ^ 40) :
    ∃ a' c' A', ap = some (.slice a' l.length c', A') ∧ IsSl P A' c a' c' l ∧ A.n ≤ A'.n ∧ (∀ j, j ≠ k → j < A.n → A'.get j = A.get j) ∧
      ((l = [] ∧ a' = some ⟨k, 0, none⟩ ∧ c' = 0 ∧ ∃ ver', A'.get k = .cells [] e false false ver') ∨ (l ≠ [] ∧ Acc A' A.n a' l.length c' (l.flatMap c.enc) e c.es)) := by
  have hno := h.newOf z.cells.toList
  have h0 : c.es ≠ 0 := by have := c.pos; omega
  have hi : isInt (some (TypeDesc.slice xe)) = false := rfl
  by_cases hl : l = []
  · subst hl
    refine ⟨some ⟨k, 0, none⟩, 0, A.set k (.cells [] e false false (ver + 1)), ?_, ?_, by simp, fun j hj _ => CW.get_set_ne _ _ hj, .inl ⟨rfl, rfl, rfl, _, CW.get_set_self _ _ _⟩⟩
    · rw [← hap]
      simp only [append, List.getElem?_toArray, List.getElem?_cons_zero, List.getElem?_cons_succ, hT, hs, hb, hz, hX, hi, hno]
      rw [if_pos ⟨h0, hzs, by simp, hby, rfl, by simp [baseOk, hk]⟩, if_pos (by simp)]
      simp [putCells, hk, splice]
    · exact IsSl.block (by simpa using hkn) (by rw [CW.get_set_self]; rfl) hs rfl (by simp)
  · have hlen : 1 ≤ l.length := by cases l with | nil => contradiction | cons => simp
    refine ⟨some ⟨A.n, 0, some c.es⟩, l.length, A.push (.cells (l.flatMap c.enc) e true false 0), ?_, ?_, by simp, fun j _ hj => CW.get_push_ne _ _ (by omega), .inr ⟨hl, ⟨all_one hone l, .inr ⟨A.n, 0, rfl, rfl, Nat.le_refl _, by simp, CW.get_push_self _ _, (flatMap_len l).symm, hlen⟩⟩⟩⟩
    · rw [← hap]
      simp only [append, List.getElem?_toArray, List.getElem?_cons_zero, List.getElem?_cons_succ, hT, hs, hb, hz, hX, hi, hno]
      rw [if_pos ⟨h0, hzs, by simpa using hbound, hby, rfl, by simp [baseOk, hk]⟩, if_neg (by omega)]
      simp only [elems, cellsAt, hk]
      rw [if_pos (by simp)]
      simp only [List.drop_zero, Nat.zero_mul, List.take_zero, List.nil_append]
      rw [if_pos (all_one hone l)]
      simp [kill, looseAt, hk]
    · exact IsSl.block (by simp) (CW.get_push_self _ _) hs (by simp [spotOk]) (Nat.le_refl _)

theorem acc_appL {c : Codec α} {l0 l : List α} {m len : Nat} {b a : Option Addr} {cap ca : Nat} {e sT xT xe : TypeId} {by_ : Nat} {z : Value} {ap : Option (Value × CW)}
    (hap : append P A #[sT, xT] #[.slice b len cap, .slice a l.length ca] = ap) (hacc : Acc A m b len cap (l0.flatMap c.enc) e c.es) (h : IsSl P A c a ca l)
    (hT : P.underlying sT = some (.slice e)) (hX : P.underlying xT = some (.slice xe)) (hs : szOf P e = some c.es) (hb : bytesOf P e = some by_) (hz : zeroOf P e = some z) (hzs : z.cells.size = c.es) (hone : ∀ x, (c.enc x).all oneB = true) (hby : by_ ≤ 2 ^ 30) (hm : m ≤ A.n) (hbound : (len + l.length) * (by_ + 1) ≤ 2 ^ 40) :
    ∃ a' c' A', ap = some (.slice a' (len + l.length) c', A') ∧ Acc A' m a' (len + l.length) c' ((l0 ++ l).flatMap c.enc) e c.es ∧ A.n ≤ A'.n ∧ ∀ j, j < m → A'.get j = A.get j := by
  have hno := h.newOf z.cells.toList
  have h0 : c.es ≠ 0 := by have := c.pos; omega
  have hi : isInt (some (TypeDesc.slice xe)) = false := rfl
  rcases hacc.ex with ⟨rfl, rfl, rfl, hnil⟩ | ⟨k, ver, rfl, rfl, h3, h4, h5, h6, h7⟩
  · have hl0 : l0 = [] := by
      have := flatMap_len (c := c) l0
      rw [hnil] at this
      have h2 : l0.length = 0 := by
        rcases Nat.mul_eq_zero.1 this.symm with h | h
        · exact h
        · omega
      exact List.eq_nil_of_length_eq_zero h2
    subst hl0
    by_cases hl : l = []
    · subst hl
      refine ⟨none, 0, A, ?_, ⟨rfl, .inl ⟨rfl, rfl, rfl, rfl⟩⟩, Nat.le_refl _, fun _ _ => rfl⟩
      rw [← hap]
      simp only [append, List.getElem?_toArray, List.getElem?_cons_zero, List.getElem?_cons_succ, hT, hs, hb, hz, hX, hi, hno]
      rw [if_pos ⟨h0, hzs, by simp, hby, rfl, rfl⟩, if_pos (by simp)]
    · have hlen : 1 ≤ l.length := by cases l with | nil => contradiction | cons => simp
      refine ⟨some ⟨A.n, 0, some c.es⟩, l.length, A.push (.cells (l.flatMap c.enc) e true false 0), ?_, ⟨all_one hone _, .inr ⟨A.n, 0, rfl, by omega, hm, by simp, CW.get_push_self _ _, by simpa using (flatMap_len l).symm, by omega⟩⟩, by simp, fun j hj => CW.get_push_ne _ _ (by omega)⟩
      rw [← hap]
      simp only [append, List.getElem?_toArray, List.getElem?_cons_zero, List.getElem?_cons_succ, hT, hs, hb, hz, hX, hi, hno]
      rw [if_pos ⟨h0, hzs, by simpa using hbound, hby, rfl, rfl⟩, if_neg (by omega)]
      simp only [elems, List.nil_append]
      rw [if_pos (all_one hone l)]
      simp [kill]
  · have hbk : baseOk A (some ⟨k, 0, some c.es⟩) = true := by simp [baseOk, h5]
    by_cases hl : l = []
    · subst hl
      refine ⟨some ⟨k, 0, some c.es⟩, cap, A.set k (.cells (l0.flatMap c.enc) e true false (ver + 1)), ?_, ⟨by simpa using all_one hone l0, .inr ⟨k, ver + 1, rfl, by simp, h3, by simpa using h4, by rw [CW.get_set_self]; simp, by simpa using h6, by simpa using h7⟩⟩, by simp, fun j hj => CW.get_set_ne _ _ (by omega)⟩
      rw [← hap]
      simp only [append, List.getElem?_toArray, List.getElem?_cons_zero, List.getElem?_cons_succ, hT, hs, hb, hz, hX, hi, hno]
      rw [if_pos ⟨h0, hzs, by simpa using hbound, hby, by simp [spotOk], hbk⟩, if_pos (by simp)]
      simp only [putCells, h5]
      rw [if_pos ⟨trivial, by rw [List.flatMap_nil, List.length_nil]; omega, rfl⟩]
      simp [splice]
    · have hlen : 1 ≤ l.length := by cases l with | nil => contradiction | cons => simp
      refine ⟨some ⟨A.n, 0, some c.es⟩, cap + l.length, (A.set k .dead).push (.cells (l0.flatMap c.enc ++ l.flatMap c.enc) e true false 0), ?_, ⟨all_one hone _, .inr ⟨A.n, 0, rfl, rfl, hm, by simp, ?_, ?_, by omega⟩⟩, by simp, fun j hj => ?_⟩
      · rw [← hap]
        have hold : elems A c.es cap (.slice (some ⟨k, 0, some c.es⟩) cap cap) = some (l0.flatMap c.enc) := by
          simp only [elems, cellsAt, h5, Nat.zero_add]
          rw [if_pos (by omega), h6, List.drop_zero, List.take_length]
        simp only [append, List.getElem?_toArray, List.getElem?_cons_zero, List.getElem?_cons_succ, hT, hs, hb, hz, hX, hi, hno]
        rw [if_pos ⟨h0, hzs, hbound, hby, by simp [spotOk], hbk⟩, if_neg (by omega)]
        simp only [hold]
        rw [if_pos (by rw [List.all_append, all_one hone, all_one hone]; rfl)]
        simp [kill, looseAt, h5]
      · simp
      · rw [List.flatMap_append, List.length_append, Nat.add_mul, h6, flatMap_len l]
      · rw [CW.get_push_ne _ _ (by simp; omega), CW.get_set_ne _ _ (by omega)]

/-- .. appended to once more. -/
theorem app_more {c : Codec α} {l0 l : List α} {k m len : Nat} {b a : Option Addr} {cap ca : Nat} {e sT xT xe : TypeId} {by_ : Nat} {z : Value} {ap : Option (Value × CW)}
    (hap : append P A #[sT, xT] #[.slice b len cap, .slice a l.length ca] = ap) (hlen : len = l0.length) (hkm : k < m) (hm : m ≤ A.n)
    (ho : (l0 = [] ∧ b = some ⟨k, 0, none⟩ ∧ cap = 0 ∧ ∃ ver', A.get k = .cells [] e false false ver') ∨ (l0 ≠ [] ∧ Acc A m b l0.length cap (l0.flatMap c.enc) e c.es)) (h : IsSl P A c a ca l)
    (hT : P.underlying sT = some (.slice e)) (hX : P.underlying xT = some (.slice xe)) (hs : szOf P e = some c.es) (hb : bytesOf P e = some by_) (hz : zeroOf P e = some z) (hzs : z.cells.size = c.es) (hone : ∀ x, (c.enc x).all oneB = true) (hby : by_ ≤ 2 ^ 30) (hbound : (len + l.length) * (by_ + 1) ≤ 2 ^ 40) :
    ∃ a' c' A', ap = some (.slice a' (len + l.length) c', A') ∧ IsSl P A' c a' c' (l0 ++ l) ∧ A.n ≤ A'.n ∧ ∀ j, j < k → A'.get j = A.get j := by
  subst hlen
  rcases ho with ⟨rfl, rfl, rfl, ver', hk⟩ | ⟨_, hacc⟩
  · obtain ⟨a', c', A', h1, h2, h3, h4, _⟩ := app_copy hap hk (by omega) h hT hX hs hb hz hzs hone hby (by simpa using hbound)
    exact ⟨a', c', A', by simpa using h1, by simpa using h2, h3, fun j hj => h4 j (by omega) (by omega)⟩
  · obtain ⟨a', c', A', h1, h2, h3, h4⟩ := acc_appL hap hacc h hT hX hs hb hz hzs hone hby hm hbound
    exact ⟨a', c', A', h1, (h2.isSl hs).1, h3, fun j hj => h4 j (by omega)⟩

theorem app_fill {c : Codec α} {l : List α} {k ver n cap : Nat} {vs : List Value} {a : Option Addr} {ca : Nat} {e sT xT xe : TypeId} {by_ : Nat} {z : Value} {ap : Option (Value × CW)}
    (hap : append P A #[sT, xT] #[.slice (some ⟨k, 0, some c.es⟩) n cap, .slice a l.length ca] = ap) (hk : A.get k = .cells vs e true false ver) (h : IsSl P A c a ca l)
    (hT : P.underlying sT = some (.slice e)) (hX : P.underlying xT = some (.slice xe)) (hs : szOf P e = some c.es) (hb : bytesOf P e = some by_) (hz : zeroOf P e = some z) (hzs : z.cells.size = c.es) (hone : ∀ x, (c.enc x).all oneB = true) (hby : by_ ≤ 2 ^ 30) (hbound : (n + l.length) * (by_ + 1) ≤ 2 ^ 40)
    (hroom : n + l.length ≤ cap) (hfit : n * c.es + l.length * c.es ≤ vs.length) :
    ap = some (.slice (some ⟨k, 0, some c.es⟩) (n + l.length) cap, A.set k (.cells (splice vs (n * c.es) (l.flatMap c.enc)) e true false (ver + 1))) := by
  have hno := h.newOf z.cells.toList
  have h0 : c.es ≠ 0 := by have := c.pos; omega
  have hi : isInt (some (TypeDesc.slice xe)) = false := rfl
  rw [← hap]
  simp only [append, List.getElem?_toArray, List.getElem?_cons_zero, List.getElem?_cons_succ, hT, hs, hb, hz, hX, hi, hno]
  rw [if_pos ⟨h0, hzs, hbound, hby, by simp [spotOk], by simp [baseOk, hk]⟩, if_pos hroom]
  simp only [putCells, hk, Nat.zero_add]
  rw [if_pos ⟨trivial, by rw [flatMap_len]; exact hfit, all_one hone l⟩]
end Go.AM

/-
  AM: contracts over data of functions that walk a map.
-/
namespace Go.AM
variable {P : Program} {ov : Ov} {A A' : CW}
theorem lay_cstep (A : CW) (r : Res) : CStep A (r.lay A).2 := by
  cases r with
  | v x => exact .refl A
  | s => exact .push _ _
theorem OvSound.addFC (ho : OvSound P ov) {f : FuncId} {fn : Func} {body : Code} (hfn : P.funcs[f]? = some fn) (hb : fn.body = some body) (hent : enters P f = true) (F : List DT → Option Res)
    (h : ∀ (args : Array Value) (A : CW) (ds : List DT) (r : Res), gOk P A = true → mapO (decV P A 4) args.toList = some ds → F ds = some r → args.size ≤ fn.ntmps ∧
      CSound P Fence.wide Option.none body { τ := initT args.toList, nt := fn.ntmps, A := A, dfr := [] } fun x s => ∃ v1 A1, leaveK P fn (some (x, s)) = some (v1, A1) ∧ Grow A A1 ∧ ResIs A A1 v1 r) :
    OvSound P (ov.add f (con P F)) := by
  refine ho.addC hfn hb hent (fun args A v A' hc => ?_) (fun args A v A' hc => ?_)
  · unfold con at hc
    split at hc
    · split at hc
      · split at hc
        · split at hc
          · rename_i r _ _
            cases hc' : r.lay A with
            | mk v0 A0 =>
              rw [hc'] at hc; cases hc
              have := lay_cstep A r
              rw [hc'] at this; exact this
          · cases hc
        · cases hc
      · cases hc
    · cases hc
  · unfold con at hc
    split at hc
    · rename_i hg
      split at hc
      · rename_i ds hds
        split at hc
        · rename_i r hr
          split at hc
          · rename_i hok
            cases hc' : r.lay A with
            | mk v0 A0 =>
              rw [hc'] at hc; cases hc
              obtain ⟨h1, h2⟩ := h args (keep A) ds r (gOk_keep hg) (mapO_mono (decV_same (.keep A) 4) _ _ hds) hr
              have hpre : TrimPre P args A args (keep A) id (Sok A) := by
                obtain ⟨v1, A1, hgr, hres⟩ : ∃ v1 A1, Grow (keep A) A1 ∧ ResIs (keep A) A1 v1 r := by
                  cases r with
                  | v x => exact ⟨x, keep A, Grow.refl _, rfl⟩
                  | s cells e lo sz len wrap => exact ⟨_, _, Grow.push (Grow.refl _) (.cells cells e lo false 0), _, 0, Nat.le_refl _, by simp, CW.get_push_self _ _, rfl⟩
                obtain ⟨ρ, ht⟩ := con_trim (F := F) hg hds hok hc' hgr hres
                exact ht.toTrimPre
              refine ⟨args, keep A, id, Sok A, hpre, h1, h2.conseq fun x s hq => ?_⟩
              obtain ⟨v1, A1, e1, e2, e3⟩ := hq
              obtain ⟨ρ, ht⟩ := con_trim (F := F) hg hds hok hc' e2 e3
              exact ⟨v1, A1, ρ, e1, ht⟩
          · cases hc
        · cases hc
      · cases hc
    · cases hc

/-! code that is run as it stands, ahead of a walk over a map and behind it -/
section
variable {F : Fence} {round : Option Nat} {c d : Code} {s : St} {Q : Ex → St → Prop}
theorem CSound.pre (ho : OvSound P ov) (hm : P.follows .mixedOrders = true) (hP : OkProg P) (hF : WideF F) (hok : okCode P.globals.size c = true) {s1 : St} (h : xden P ov round c s = some (.normal, s1)) (hd : CSound P F round d s1 Q) : CSound P F round (.seq c d) s Q :=
  CSound.seq (CSound.det ho hm hP hF hok h) (fun s' ⟨_, e⟩ => e ▸ hd) (fun x s' ⟨e, _⟩ hx => absurd e hx)
theorem CSound.preE (ho : OvSound P ov) (hm : P.follows .mixedOrders = true) (hP : OkProg P) (hF : WideF F) (hok : okCode P.globals.size c = true) {R : St → Prop} (h : ∃ s1, xden P ov round c s = some (.normal, s1) ∧ R s1) (hd : ∀ s1, R s1 → CSound P F round d s1 Q) : CSound P F round (.seq c d) s Q :=
  let ⟨s1, h1, h2⟩ := h
  CSound.pre ho hm hP hF hok h1 (hd s1 h2)
theorem CSound.leave (ho : OvSound P ov) (hm : P.follows .mixedOrders = true) (hP : OkProg P) (hF : WideF F) (hok : okCode P.globals.size c = true) {fn : Func} {K : Value → CW → Prop} (h : @OutK ⟨K⟩ (leaveK P fn (xden P ov round c s))) : CSound P F round c s fun x s' => ∃ v1 A1, leaveK P fn (some (x, s')) = some (v1, A1) ∧ K v1 A1 := by
  cases hx : xden P ov round c s with
  | none => rw [hx] at h; exact h.elim
  | some r =>
    rw [hx] at h
    refine (CSound.det ho hm hP hF hok (x := r.1) (s' := r.2) hx).conseq ?_
    rintro x s' ⟨rfl, rfl⟩
    cases hl : leaveK P fn (some (r.1, r.2)) with
    | none => rw [show r = (r.1, r.2) from rfl, hl] at h; exact h.elim
    | some y =>
      rw [show r = (r.1, r.2) from rfl, hl] at h
      exact ⟨y.1, y.2, rfl, h⟩
end
end Go.AM

/-
  AM: maps from integers.
-/
namespace Go.AM
open Go.Proofs
variable {P : Program} {A A' : CW}

/-- The entries of a map from integers into which these were put, one after another. -/
def entsI (k : IntKind) : Nat → List (Int × Value) → List MapEntry
  | _, [] => []
  | b, x :: l => { key := .int k x.1, val := x.2, born := b } :: entsI k (b + 1) l
def insI (t : Int) (v : Value) : List (Int × Value) → List (Int × Value)
  | [] => [(t, v)]
  | x :: l => if x.1 = t then (t, v) :: l else x :: insI t v l
theorem entsI_len (k : IntKind) : ∀ (b : Nat) (l : List (Int × Value)), (entsI k b l).length = l.length
  | _, [] => rfl
  | b, x :: l => by simp [entsI, entsI_len k (b + 1) l]
theorem entsI_born (k : IntKind) : ∀ (b : Nat) (l : List (Int × Value)), (entsI k b l).map (·.born) = List.range' b l.length
  | _, [] => rfl
  | b, x :: l => by simp [entsI, entsI_born k (b + 1) l, List.range'_succ]
theorem entsI_app (k : IntKind) : ∀ (b : Nat) (l l' : List (Int × Value)), entsI k b (l ++ l') = entsI k b l ++ entsI k (b + l.length) l'
  | _, [], _ => by simp [entsI]
  | b, x :: l, l' => by simp [entsI, entsI_app k (b + 1) l l']; congr 1; omega
theorem entsI_mem {k : IntKind} : ∀ {b : Nat} {l : List (Int × Value)} {e : MapEntry}, e ∈ entsI k b l → ∃ t, e.key = .int k t ∧ (t, e.val) ∈ l ∧ b ≤ e.born ∧ e.born < b + l.length
  | _, [], _, h => by simp [entsI] at h
  | b, x :: l, e, h => by
    rcases List.mem_cons.1 h with rfl | h
    · exact ⟨x.1, rfl, by simp, Nat.le_refl _, by simp⟩
    · obtain ⟨t, h1, h2, h3, h4⟩ := entsI_mem h
      exact ⟨t, h1, by simp [h2], by omega, by simp only [List.length_cons]; omega⟩
theorem sameNow_int (k : IntKind) (a b : Int) : Instr.sameNow (.int k) (.int k a) (.int k b) = some (a == b) := by
  simp [Instr.sameNow]
theorem findNow_int (k : IntKind) (t : Int) (v : Value) : ∀ (l : List (Int × Value)) (b i : Nat), ∃ r, Instr.findNow (.int k) (.int k t) (entsI k b l) i = some r ∧
    ((r = none ∧ insI t v l = l ++ [(t, v)]) ∨ ∃ j w, r = some (i + j, w) ∧ (entsI k b l).modify j (fun e => { e with key := .int k t, val := v }) = entsI k b (insI t v l) ∧ (insI t v l).length = l.length)
  | [], b, i => ⟨none, rfl, .inl ⟨rfl, rfl⟩⟩
  | x :: l, b, i => by
    simp only [entsI, Instr.findNow, sameNow_int]
    by_cases h : x.1 = t
    · refine ⟨some (i, x.2), by simp [h], .inr ⟨0, x.2, by simp, ?_, ?_⟩⟩
      · simp [insI, h, entsI]
      · simp [insI, h]
    · have h' : (t == x.1) = false := by simp; omega
      obtain ⟨r, h1, h2⟩ := findNow_int k t v l (b + 1) (i + 1)
      simp only [h', h1, insI, if_neg h]
      refine ⟨r, rfl, ?_⟩
      rcases h2 with ⟨rfl, h2⟩ | ⟨j, w, rfl, h2, h3⟩
      · exact .inl ⟨rfl, by rw [h2]; rfl⟩
      · exact .inr ⟨j + 1, w, by congr 2; omega, by simp [entsI, h2], by simp [h3]⟩
theorem mapUpdate_int {T kt et : TypeId} {k : IntKind} {m ver : Nat} {l : List (Int × Value)} (hT : P.underlying T = some (.map kt et)) (hk : P.underlying kt = some (.int k)) (hm : A.get m = .map (entsI k 0 l) l.length ver) (t : Int) (v : Value) :
    mapUpdate P A T (.map (some m)) (.int k t) v = some (A.set m (.map (entsI k 0 (insI t v l)) (insI t v l).length (ver + 1))) := by
  have hkk : keyKind P kt = some (.int k) := by simp [keyKind, hk]
  obtain ⟨r, h1, h2⟩ := findNow_int k t v l 0 0
  simp only [mapUpdate, hT, hkk, hm]
  rw [if_pos ⟨rfl, rfl⟩, h1]
  rcases h2 with ⟨rfl, h2⟩ | ⟨j, w, rfl, h2, h3⟩
  · simp only [h2, entsI_app, entsI]
    simp
  · simp only [Nat.zero_add]
    rw [h2, h3]
theorem insI_keys (t : Int) (v : Value) : ∀ (l : List (Int × Value)) (x : Int), x ∈ (insI t v l).map (·.1) ↔ x = t ∨ x ∈ l.map (·.1)
  | [], x => by simp [insI]
  | y :: l, x => by
    rw [insI]
    split
    · rename_i h; simp [h]
    · rw [List.map_cons, List.mem_cons, insI_keys t v l x, List.map_cons, List.mem_cons]
      constructor <;> (intro h; rcases h with h | h | h <;> simp [h])
theorem insI_nodup (t : Int) (v : Value) : ∀ (l : List (Int × Value)), (l.map (·.1)).Nodup → ((insI t v l).map (·.1)).Nodup
  | [], _ => by simp [insI]
  | y :: l, h => by
    rw [List.map_cons, List.nodup_cons] at h
    rw [insI]
    split
    · rename_i hy; rw [List.map_cons, List.nodup_cons]; exact ⟨by rw [← hy]; exact h.1, h.2⟩
    · rename_i hy
      rw [List.map_cons, List.nodup_cons]
      refine ⟨fun hm => ?_, insI_nodup t v l h.2⟩
      rcases (insI_keys t v l y.1).1 hm with h1 | h1
      · exact hy h1
      · exact h.1 h1

/-! walks over such a map -/
def shapeB (opsR opsN opsE : Array Oper) (T : TypeId) (m d tn t te : Tmp) : Bool := match opsR.toList.getLast?, opsN.toList, opsE.toList with
  | some ⟨some d', .range T' (.tmp m'), _, _, _, none⟩, [⟨some tn', .next (.tmp d2) false, _, _, _, none⟩, ⟨some t', .extract (.tmp tn2) 0, _, _, _, none⟩], ⟨some te', .entry (.tmp d3), _, _, _, none⟩ :: _ =>
    d' == d && T' == T && m' == m && tn' == tn && d2 == d && t' == t && tn2 == tn && te' == te && d3 == d
  | _, _, _ => false
theorem snoc_last {β : Type} {l : List β} {x : β} (h : l.getLast? = some x) : l = l.dropLast ++ [x] := by
  cases l with
  | nil => cases h
  | cons y l => rw [List.getLast?_eq_some_getLast (by simp)] at h; cases h; exact (List.dropLast_concat_getLast _).symm
theorem cons_tail {β : Type} {l t : List β} {x : β} (h : l = x :: t) : l = x :: l.tail := by subst h; rfl
theorem RangeShape.of {r rn re id j : Nat} {opsR opsN opsE : Array Oper} {body : Code} {T : TypeId} {m d tn t te : Tmp} (h : shapeB opsR opsN opsE T m d tn t te = true) :
    RangeShape (.seq (.region r opsR false) (.block id (.loop (.seq (.region rn opsN false) (.seq (.cond (.tmp t) .skip (.exit id)) (.block j (.seq (.region re opsE false) body))))))) T m d tn t te opsR.toList.dropLast opsR opsN opsE opsE.toList.tail id j body := by
  unfold shapeB at h
  split at h
  · rename_i hR hN hE
    simp only [Bool.and_eq_true, beq_iff_eq] at h
    obtain ⟨⟨⟨⟨⟨⟨⟨⟨rfl, rfl⟩, rfl⟩, rfl⟩, h2⟩, rfl⟩, h3⟩, rfl⟩, h4⟩ := h
    subst h2 h3 h4
    exact ⟨⟨r, rn, re, _, _, _, _, rfl, snoc_last hR, rfl, rfl, rfl, hN, rfl, rfl, rfl, rfl, rfl, rfl, cons_tail hE, rfl, rfl, rfl⟩⟩
  · cases h
def ofE (e : MapEntry) : Int × Value := (match e.key with | .int _ t => t | _ => 0, e.val)
theorem entsI_of (k : IntKind) : ∀ (b : Nat) (l : List (Int × Value)), (entsI k b l).map ofE = l
  | _, [] => rfl
  | b, x :: l => by simp [entsI, entsI_of k (b + 1) l, ofE]
def StepN [I : Held (St → Prop)] (s : St) : Prop := I.val s
def StepK (j : Nat) [I : Held (St → Prop)] : Option (Ex × St) → Prop
  | some (.normal, s) => @StepN I s
  | some (.exit i, s) => i = j ∧ @StepN I s
  | _ => False
@[simp] theorem StepK_normal (j : Nat) (I : Held (St → Prop)) (s : St) : @StepK j I (some (.normal, s)) = @StepN I s := Eq.trans rfl rfl
@[simp] theorem StepK_exit (j i : Nat) (I : Held (St → Prop)) (s : St) : @StepK j I (some (.exit i, s)) = (i = j ∧ @StepN I s) := Eq.trans rfl rfl
theorem nodup_lt : ∀ (n : Nat) (l : List Nat), l.Nodup → (∀ x ∈ l, x < n) → l.length ≤ n
  | 0, l, _, h => by
    cases l with
    | nil => simp
    | cons x l => exact absurd (h x (by simp)) (by omega)
  | n + 1, l, hn, h => by
    by_cases hm : n ∈ l
    · have h1 := nodup_lt n (l.erase n) (hn.erase n) fun x hx => by
        have h2 := h x (List.mem_of_mem_erase hx)
        have h3 : x ≠ n := fun he => by subst he; exact (hn.mem_erase_iff.1 hx).1 rfl
        omega
      rw [List.length_erase_of_mem hm] at h1
      have := List.length_pos_of_mem hm
      omega
    · have h1 := nodup_lt n l hn fun x hx => by
        have h2 := h x hx
        have h3 : x ≠ n := fun he => by subst he; exact hm hx
        omega
      omega
theorem CSound.rangeI {ov : Ov} {F : Fence} {round : Option Nat} (ho : OvSound P ov) (hm : P.follows .mixedOrders = true) (hP : OkProg P) (hF : WideF F) {r rn re id j : Nat} {opsR opsN opsE : Array Oper} {body : Code} {T kt et : TypeId} {m d tn t te : Tmp}
    (hsh : shapeB opsR opsN opsE T m d tn t te = true) (hok : okCode P.globals.size (.seq (.region r opsR false) (.block id (.loop (.seq (.region rn opsN false) (.seq (.cond (.tmp t) .skip (.exit id)) (.block j (.seq (.region re opsE false) body))))))) = true)
    (hT : P.underlying T = some (.map kt et)) {s0 s1 : St} (hpre : runOps P (den P ov) opsR opsR.toList.dropLast s0 = some s1) {k : Nat} (hk : ev s1.τ (.tmp m) = .map (some k)) {kd : IntKind} {l : List (Int × Value)} {ver : Nat} (hmap : s1.A.get k = .map (entsI kd 0 l) l.length ver)
    (hd : d < s1.nt) (htn : tn < s1.nt) (ht : t < s1.nt) (hte : te < s1.nt) (hdt : tn ≠ d ∧ t ≠ d ∧ t ≠ tn)
    (Inv : List (Int × Value) → St → Prop) (h0 : Inv [] { s1 with τ := s1.τ.set d (.pointer (some ⟨s1.A.n, 0, none⟩)), A := s1.A.push .dead })
    (hinv : ∀ done s, Inv done s → s.nt = s1.nt ∧ s.τ.get d = some (.pointer (some ⟨s1.A.n, 0, none⟩)) ∧ s.A.get k = .map (entsI kd 0 l) l.length ver)
    (hstep : ∀ done s x b, Inv done s → x ∈ l → done.length < l.length → (∀ y ∈ done, y ∈ l) → ∃ s2, runOps P (den P ov) opsE opsE.toList.tail (roundSt s tn t te ⟨.int kd x.1, x.2, b⟩) = some s2 ∧ @StepK j ⟨fun s3 => Inv (done ++ [x]) s3⟩ (xden P ov round body s2))
    {Q : Ex → St → Prop} (hend : ∀ done s, Inv done s → done.Perm l → Q .normal (endSt s tn t)) :
    CSound P F round (.seq (.region r opsR false) (.block id (.loop (.seq (.region rn opsN false) (.seq (.cond (.tmp t) .skip (.exit id)) (.block j (.seq (.region re opsE false) body))))))) s0 Q := by
  refine CSound.range ho hm hP hF (RangeShape.of hsh) hok hT hpre hk hmap (fun e he => ?_) ?_ (fun e he => ?_) hd htn ht hte hdt (fun done s => Inv (done.map ofE) s ∧ (done.map (·.born)).Nodup ∧ ∀ e ∈ done, e ∈ entsI kd 0 l) ⟨h0, by simp, by simp⟩ (fun done s h => hinv _ s h.1) (fun done s e ⟨hI, hnd, hsub⟩ he hnb => ?_) (fun done s ⟨hI, _⟩ hp => hend _ s hI ?_)
  · obtain ⟨_, _, _, _, h4⟩ := entsI_mem he; omega
  · rw [entsI_born]; exact List.nodup_range'
  · obtain ⟨_, h1, _⟩ := entsI_mem he; rw [h1]; rfl
  · obtain ⟨tt, h1, h2, _, _⟩ := entsI_mem he
    have hnd' : ((done ++ [e]).map (·.born)).Nodup := by
      rw [List.map_append, List.map_cons, List.map_nil, List.nodup_append]
      refine ⟨hnd, by simp, fun a ha b hb => ?_⟩
      simp only [List.mem_singleton] at hb
      subst hb
      exact fun h => hnb (h ▸ ha)
    have hsub' : ∀ y ∈ done ++ [e], y ∈ entsI kd 0 l := fun y hy => by
      rcases List.mem_append.1 hy with h | h
      · exact hsub y h
      · simp only [List.mem_singleton] at h; subst h; exact he
    have hlt := nodup_lt l.length _ hnd' fun x hx => by
      obtain ⟨y, hy, rfl⟩ := List.mem_map.1 hx
      obtain ⟨_, _, _, _, h4⟩ := entsI_mem (hsub' y hy)
      omega
    simp only [List.length_map, List.length_append, List.length_cons, List.length_nil] at hlt
    obtain ⟨s2, q1, q5⟩ := hstep (done.map ofE) s (tt, e.val) e.born hI h2 (by rw [List.length_map]; omega) (fun y hy => by
      obtain ⟨z, hz, rfl⟩ := List.mem_map.1 hy
      obtain ⟨tz, g1, g2, _, _⟩ := entsI_mem (hsub z hz)
      have : ofE z = (tz, z.val) := by simp [ofE, g1]
      rw [this]; exact g2)
    have he' : e = ⟨.int kd tt, e.val, e.born⟩ := by rw [← h1]
    obtain ⟨x, s3, q2, q3, q4⟩ : ∃ x s3, xden P ov round body s2 = some (x, s3) ∧ (x = .normal ∨ x = .exit j) ∧ Inv (done.map ofE ++ [(tt, e.val)]) s3 := by
      unfold StepK at q5
      split at q5
      · rename_i s3 hx; exact ⟨_, s3, hx, .inl rfl, q5⟩
      · rename_i i s3 hx; exact ⟨_, s3, hx, .inr (by rw [q5.1]), q5.2⟩
      · exact q5.elim
    refine ⟨s2, s3, x, by rw [he']; exact q1, q2, q3, ?_, hnd', hsub'⟩
    have : ofE e = (tt, e.val) := by simp [ofE, h1]
    rw [List.map_append, List.map_cons, List.map_nil, this]
    exact q4
  · rw [← entsI_of kd 0 l]; exact hp.map _
end Go.AM

/-
  AM: structs of integers compared.
-/
namespace Go.AM
open Go.Proofs
variable {P : Program}

theorem pureRun_bind {α β : Type} (m : Sem α) (f : α → Sem β) : pureRun P (m >>= f) = (pureRun P m).bind fun a => pureRun P (f a) := by
  show pureRun P (Sem.bind m f) = _
  induction m with
  | pure a => rfl
  | program k ih => exact ih P
  | mark s k ih => exact ih
  | _ => rfl
theorem pureRun_pure {α : Type} (a : α) : pureRun P (pure a : Sem α) = some a := rfl
theorem pureRun_struct (d : Nat) (t : TypeId) (xs ys : Array Value) (ht : pureRun P (underlying t) = some (.struct (P.fieldsOf t))) (hp : P.stoodInHeld t = false) :
    pureRun P (Op.equalIn (d + 1) t (.agg xs) (.agg ys)) = pureRun P (Op.eqFields d xs ys (P.fieldsOf t).toList) := by
  have hpr : pureRun P Go.program = some P := rfl
  simp only [Op.equalIn, pureRun_bind, ht, Option.bind_some, hpr, hp, Bool.false_eq_true, if_false]
  rw [← Array.forIn_toList]
  generalize (P.fieldsOf t).toList = fs
  clear ht
  induction fs with
  | nil => rfl
  | cons f fs ih =>
    simp only [List.forIn_cons, Op.eqFields, pureRun_bind]
    by_cases hn : f.name ≠ "_"
    · rw [if_pos hn, if_pos hn]
      simp only [pureRun_bind]
      cases pureRun P (Go.part f.type xs f.offset) with
      | none => rfl
      | some a =>
        simp only [Option.bind_some]
        cases pureRun P (Go.part f.type ys f.offset) with
        | none => rfl
        | some b =>
          simp only [Option.bind_some]
          cases pureRun P (Op.equalIn d f.type a b) with
          | none => rfl
          | some r =>
            cases r with
            | false => rfl
            | true =>
              simp only [Option.bind_some, Bool.not_true, Bool.false_eq_true, if_false, pureRun_pure]
              rw [← ih]
    · rw [if_neg hn, if_neg hn]
      simp only [pureRun_pure, Option.bind_some]
      rw [← ih]
theorem pureRun_underlying {t : TypeId} {d : TypeDesc} (h : P.underlying t = some d) : pureRun P (underlying t) = some d := by
  have hpr : pureRun P Go.program = some P := rfl
  unfold underlying
  simp only [pureRun_bind, hpr, Option.bind_some, h]
  rfl
/-- The fields are integers, one behind another. -/
def fieldsB (P : Program) : List Field → Nat → Bool
  | [], _ => true
  | f :: fs, i => (f.name != "_") && (f.offset == i) && (match P.underlying f.type with | some (.int _) => true | _ => false) && fieldsB P fs (i + 1)
def ints (l : List Int) : Array Value := (l.map (Value.int .i64)).toArray
theorem part_int {t : TypeId} {k : IntKind} (h : P.underlying t = some (.int k)) {xs : List Int} {i : Nat} (hi : i < xs.length) : pureRun P (Go.part t (ints xs) i) = some (.int .i64 xs[i]) := by
  have h1 : pureRun P (isAgg t) = some false := by
    unfold isAgg
    simp only [pureRun_bind, pureRun_underlying h, Option.bind_some]
    rfl
  unfold Go.part
  simp only [pureRun_bind, h1, Option.bind_some, Bool.false_eq_true, if_false]
  have : (ints xs)[i]? = some (.int .i64 xs[i]) := by simp [ints, hi]
  rw [this]; rfl
theorem fields_eq (d : Nat) : ∀ (fs : List Field) (i : Nat) (xs ys : List Int), fieldsB P fs i = true → xs.length = i + fs.length → ys.length = i + fs.length →
    pureRun P (Op.eqFields (d + 1) (ints xs) (ints ys) fs) = some (decide (xs.drop i = ys.drop i))
  | [], i, xs, ys, _, hx, hy => by
    rw [List.drop_eq_nil_of_le (by simp at hx; omega), List.drop_eq_nil_of_le (by simp at hy; omega)]; rfl
  | f :: fs, i, xs, ys, h, hx, hy => by
    simp only [fieldsB, Bool.and_eq_true, bne_iff_ne, beq_iff_eq] at h
    obtain ⟨⟨⟨h1, h2⟩, h3⟩, h4⟩ := h
    simp only [List.length_cons] at hx hy
    have hix : i < xs.length := by omega
    have hiy : i < ys.length := by omega
    cases hu : P.underlying f.type with
    | none => rw [hu] at h3; cases h3
    | some dd =>
      cases dd with
      | int k =>
        have hE : pureRun P (Op.equalIn (d + 1) f.type (.int .i64 xs[i]) (.int .i64 ys[i])) = some (xs[i] == ys[i]) := by
          simp only [Op.equalIn, pureRun_bind, pureRun_underlying hu, Option.bind_some]
          rfl
        have hih := fields_eq d fs (i + 1) xs ys h4 (by omega) (by omega)
        have e1 : xs.drop i = xs[i] :: xs.drop (i + 1) := by simp
        have e2 : ys.drop i = ys[i] :: ys.drop (i + 1) := by simp
        simp only [Op.eqFields]
        rw [if_pos h1, pureRun_bind, h2, part_int hu hix, Option.bind_some, pureRun_bind, part_int hu hiy, Option.bind_some, pureRun_bind, hE, Option.bind_some]
        by_cases hq : xs[i] = ys[i]
        · have : (xs[i] == ys[i]) = true := by simp [hq]
          rw [this]
          simp only [Bool.not_true, Bool.false_eq_true, if_false]
          rw [hih]
          congr 1
          rw [decide_eq_decide]
          exact ⟨fun h => by rw [e1, e2, hq, h], fun h => by rw [e1, e2] at h; exact (List.cons.inj h).2⟩
        · have : (xs[i] == ys[i]) = false := by simp [hq]
          have hne : ¬ xs.drop i = ys.drop i := fun he => by
            rw [e1, e2] at he
            exact hq (List.cons.inj he).1
          rw [this]
          simp [hne, pureRun_pure]
      | _ => rw [hu] at h3; cases h3
theorem flat_ints (l : List Int) : flatB (.agg (ints l)) = true := by
  have : ∀ l : List Int, flatB.flatL (l.map (Value.int .i64)) = true := fun l => by
    induction l with
    | nil => rfl
    | cons x l ih => simp [flatB.flatL, flatB, ih]
  simp only [ints, flatB]
  exact this l
/-- Two structs of integers. -/
theorem binOp_ints {t : TypeId} (hS : P.underlying t = some (.struct (P.fieldsOf t))) (hp : P.stoodInHeld t = false) (hf : fieldsB P (P.fieldsOf t).toList 0 = true) (hg : P.eqGuardType P.depth t = false) (xo yo : Operand) (xs ys : List Int) (hx : xs.length = (P.fieldsOf t).size) (hy : ys.length = (P.fieldsOf t).size) :
    binOp P .neq t xo yo (.agg (ints xs)) (.agg (ints ys)) = some (.bool (!decide (xs = ys))) ∧ binOp P .eql t xo yo (.agg (ints xs)) (.agg (ints ys)) = some (.bool (decide (xs = ys))) := by
  have hpr : pureRun P Go.program = some P := rfl
  have hE : pureRun P (Op.equalIn 10000 t (.agg (ints xs)) (.agg (ints ys))) = some (decide (xs = ys)) := by
    rw [show (10000 : Nat) = 9999 + 1 from rfl, pureRun_struct 9999 t _ _ (pureRun_underlying hS) hp, show (9999 : Nat) = 9998 + 1 from rfl, fields_eq 9998 _ 0 xs ys hf (by simpa using hx) (by simpa using hy)]
    simp
  have hG : ∀ op : BinOp, op = .neq ∨ op = .eql → pureRun P (eqGuard op t xo yo (.agg (ints xs)) (.agg (ints ys))) = some () := fun op ho => by
    rcases ho with rfl | rfl
    · simp only [eqGuard]
      simp [pureRun_bind, hpr, hg, pureRun_pure]
    · simp only [eqGuard]
      simp [pureRun_bind, hpr, hg, pureRun_pure]
  constructor
  · simp only [binOp, flat_ints, Bool.and_self, if_true, pureRun_bind, hG .neq (.inl rfl), Option.bind_some]
    simp only [Go.binOp, Op.equal, Op.maxDepth, pureRun_bind, hE, Option.bind_some]
    rfl
  · simp only [binOp, flat_ints, Bool.and_self, if_true, pureRun_bind, hG .eql (.inr rfl), Option.bind_some]
    simp only [Go.binOp, Op.equal, Op.maxDepth, pureRun_bind, hE, Option.bind_some]
    rfl
end Go.AM

/-
  AM: inputs as lists.
-/
namespace Go.AM
open Go.Proofs
variable {P : Program} {H : Type} {enc : TypeId × Value → H} {w : World} {base : Nat} {spare : Nat → Bool} {held : Bool} {nested : Bool} {α : Type}

theorem lay_int {t : TypeId} {k : IntKind} (ht : P.underlying t = some (.int k)) {fuel : Nat} {cs : List Value} {x : DataW H × List MemPlace} (h : DataW.trod enc P w base spare held fuel t cs = some x) :
    ∃ n : Int, ∀ (m : Nat) (A : CW), lay P nested (m + 1) t x.1 A = some ([.int k n], A) := by
  obtain ⟨n, rfl, rfl, _⟩ := DataW.trod_int ht h
  exact ⟨n, fun m A => by simp [lay, ht]⟩
theorem layL_ints : ∀ (fs : List Field) (ks : List IntKind) (ds : List (DataW H)), fs.map (fun f => P.underlying f.type) = ks.map (fun k => some (.int k)) → ds.length = fs.length →
    (∀ (i : Nat) (f : Field) (d : DataW H), fs[i]? = some f → ds[i]? = some d → ∀ k, P.underlying f.type = some (.int k) → ∃ n : Int, d = .lit (.int k n)) →
    ∃ ns : List Int, ns.length = ks.length ∧ ∀ (m : Nat) (A : CW), layL (lay P nested (m + 1)) ((fs.map (·.type)).zip ds) A = some ((ks.zip ns).map fun p => .int p.1 p.2, A)
  | [], ks, ds, h1, h2, _ => by
    cases ks with
    | nil => exact ⟨[], rfl, fun m A => rfl⟩
    | cons => simp at h1
  | f :: fs, ks, ds, h1, h2, h3 => by
    cases ks with
    | nil => simp at h1
    | cons k ks =>
      cases ds with
      | nil => simp at h2
      | cons d ds =>
        simp only [List.map_cons, List.cons.injEq] at h1
        obtain ⟨n, rfl⟩ := h3 0 f d rfl rfl k h1.1
        obtain ⟨ns, h4, h5⟩ := layL_ints fs ks ds h1.2 (by simpa using h2) fun i f' d' hf hd => h3 (i + 1) f' d' (by simpa using hf) (by simpa using hd)
        refine ⟨n :: ns, by simp [h4], fun m A => ?_⟩
        have e1 : lay P nested (m + 1) f.type (.lit (.int k n) : DataW H) A = some ([.int k n], A) := by simp [lay, h1.1]
        simp only [List.map_cons, List.zip_cons_cons, layL, e1, h5]
        rfl
/-- A struct of integers. -/
theorem lay_ints {t : TypeId} {fs : Array Field} {ks : List IntKind} (ht : P.underlying t = some (.struct fs)) (hk : fs.toList.map (fun f => P.underlying f.type) = ks.map (fun k => some (.int k))) (htf : tightF P fs.toList 0 = some (P.cellsOf t))
    {fuel : Nat} {cs : List Value} {x : DataW H × List MemPlace} (h : DataW.trod enc P w base spare held fuel t cs = some x) :
    ∃ ns : List Int, ns.length = ks.length ∧ ∀ (m : Nat) (A : CW), lay P nested (m + 2) t x.1 A = some ((ks.zip ns).map fun p => .int p.1 p.2, A) := by
  obtain ⟨xs, n, rfl, rfl, h1, h2, h3⟩ := DataW.trod_struct ht h
  obtain ⟨ns, h4, h5⟩ := layL_ints (P := P) (nested := nested) fs.toList ks (xs.map (·.1)) hk (by simpa using h2) fun i f d hf hd k hu => by
    have := h3 i f (by simpa using hf)
    rw [List.getElem?_map] at hd
    cases hx : xs[i]? with
    | none => rw [hx] at hd; cases hd
    | some y =>
      rw [hx] at hd this
      simp only [Option.map_some, Option.some.injEq] at hd
      obtain ⟨n, _, rfl, _⟩ := DataW.trod_int hu this
      exact ⟨n, hd.symm⟩
  refine ⟨ns, h4, fun m A => ?_⟩
  simp only [lay, ht]
  rw [if_pos ⟨htf, by simpa using h2⟩]
  exact h5 m A
/-- A slice of what a codec lays. -/
theorem layL_codec {c : Codec α} {e : TypeId} {n : Nat} : ∀ (ds : List (DataW H)), (∀ d ∈ ds, ∃ y : α, ∀ A : CW, lay P nested n e d A = some (c.enc y, A)) →
    ∃ l : List α, l.length = ds.length ∧ ∀ A : CW, layL (lay P nested n) (ds.map fun d => (e, d)) A = some (l.flatMap c.enc, A)
  | [], _ => ⟨[], rfl, fun A => rfl⟩
  | d :: ds, h => by
    obtain ⟨y, hy⟩ := h d (by simp)
    obtain ⟨l, h1, h2⟩ := layL_codec ds fun d' hd => h d' (by simp [hd])
    refine ⟨y :: l, by simp [h1], fun A => ?_⟩
    simp only [List.map_cons, layL, hy, h2]
    rfl
theorem lay_sl {c : Codec α} {t e : TypeId} {n : Nat} (ht : P.underlying t = some (.slice e)) (he : szOf P e = some c.es) (hns : (nested || noSl P n e) = true)
    (hel : ∀ (fuel : Nat) (cs : List Value) (x' : DataW H × List MemPlace), DataW.trod enc P w base spare held fuel e cs = some x' → ∃ y : α, ∀ A : CW, lay P nested n e x'.1 A = some (c.enc y, A))
    {fuel : Nat} {cs : List Value} {x : DataW H × List MemPlace} (h : DataW.trod enc P w base spare held fuel t cs = some x) :
    ∃ l : List α, ∀ A : CW, ∃ a cap A', lay P nested (n + 1) t x.1 A = some ([.slice a l.length cap], A') ∧ IsSl P A' c a cap l ∧ Grow A A' := by
  rcases DataW.trod_slice ht h with ⟨_, rfl⟩ | ⟨a, len, cap, elems, rest, m, rfl, rfl, rfl, _, _, _, hlen, hE, _, _⟩
  · exact ⟨[], fun A => ⟨none, 0, A, by simp [lay, ht], IsSl.nil c, Grow.refl _⟩⟩
  · obtain ⟨l, h1, h2⟩ := layL_codec (P := P) (nested := nested) (c := c) (e := e) (n := n) (elems.map (·.1)) fun d hd => by
      obtain ⟨y, hy, rfl⟩ := List.mem_map.1 hd
      obtain ⟨i, hi, rfl⟩ := List.mem_iff_getElem.1 hy
      have := hE i (by omega)
      rw [List.getElem?_eq_getElem hi] at this
      cases hc : w.cells? base (a.add (i * P.cellsOf e)) (P.cellsOf e) with
      | none => rw [hc] at this; cases this
      | some cs' => rw [hc] at this; exact hel m cs' _ this
    obtain ⟨s, hs⟩ : ∃ s, c.es = s + 1 := ⟨c.es - 1, by have := c.pos; omega⟩
    have hll : l.length = elems.length := by simpa using h1
    refine ⟨l, fun A => ⟨some ⟨A.n, 0, some c.es⟩, l.length, A.push (.cells (l.flatMap c.enc) e true true 0), ?_, IsSl.block (by simp) (CW.get_push_self _ _) he (by simp [spotOk]) (Nat.le_refl _), Grow.push1 _ _⟩⟩
    simp only [lay, ht, he, hs]
    rw [if_pos hns, h2]
    simp [hll]
end Go.AM
