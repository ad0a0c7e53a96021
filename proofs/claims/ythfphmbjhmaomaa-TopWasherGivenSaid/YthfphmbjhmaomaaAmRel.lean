/-
  AM: the canonical heap and the real one: an embedding of ids into blocks, values that stand for each other, what a step keeps.
-/
import Derived.Test.YthfphmbjhmaomaaAmBase
namespace Go.AM

/-- Where an object lies: its block, from where on; up to where its slices may reach; the size of its elements; whether its room is unknown. -/
structure Emb where
  b : Nat
  sh : Nat
  lim : Nat
  es : Nat
  loose : Bool

abbrev Gam := Nat → Option Emb

inductive VR (γ : Gam) : Value → Value → Prop
  | bool (b : Bool) : VR γ (.bool b) (.bool b)
  | int (k : IntKind) (n : Int) : VR γ (.int k n) (.int k n)
  | float (k : FloatKind) (n : Nat) : VR γ (.float k n) (.float k n)
  | complex (k : FloatKind) (a b : Nat) : VR γ (.complex k a b) (.complex k a b)
  | string (s : ByteArray) : VR γ (.string s) (.string s)
  | pnil : VR γ (.pointer none) (.pointer none)
  | ptr {k o : Nat} {sp : Option Nat} {e : Emb} (h : γ k = some e) (hs : e.loose = true → sp ≠ none) : VR γ (.pointer (some ⟨k, o, sp⟩)) (.pointer (some ⟨e.b, e.sh + o, none⟩))
  | snil : VR γ (.slice none 0 0) (.slice none 0 0)
  | slice {k o len cap o' cap' : Nat} {sp : Option Nat} {e : Emb} (h : γ k = some e) (hl : len ≤ cap) (hc : cap ≤ cap') (ho : o' = e.sh + o ∨ cap' = 0)
      (hx : e.loose = false → cap' = cap) (hm : e.loose = true → o' + cap' * e.es ≤ e.lim ∧ sp = some e.es) : VR γ (.slice (some ⟨k, o, sp⟩) len cap) (.slice (some ⟨e.b, o', none⟩) len cap')
  | mnil : VR γ (.map none) (.map none)
  | map {k : Nat} {e : Emb} (h : γ k = some e) : VR γ (.map (some k)) (.map (some e.b))
  | func {f : FuncId} {a c a' c' : Array Value} (ha : a.size = a'.size) (hc : c.size = c'.size)
      (h1 : ∀ (i : Nat) (h : i < a.size) (h' : i < a'.size), VR γ a[i] a'[i]) (h2 : ∀ (i : Nat) (h : i < c.size) (h' : i < c'.size), VR γ c[i] c'[i]) :
      VR γ (.func (.func f) a c) (.func (.func f) a' c')
  | yield {l : Nat} {e : Emb} (h : γ l = some e) : VR γ (.func (.yield l) #[] #[]) (.func (.yield e.b) #[] #[])
  | nilFunc : VR γ .nilFunc .nilFunc
  | nilIface : VR γ .nilIface .nilIface
  | agg {a a' : Array Value} (ha : a.size = a'.size) (h : ∀ (i : Nat) (h : i < a.size) (h' : i < a'.size), VR γ a[i] a'[i]) : VR γ (.agg a) (.agg a')
  | tuple {a a' : Array Value} (ha : a.size = a'.size) (h : ∀ (i : Nat) (h : i < a.size) (h' : i < a'.size), VR γ a[i] a'[i]) : VR γ (.tuple a) (.tuple a')

def VL (γ : Gam) (a a' : List Value) : Prop := a.length = a'.length ∧ ∀ (i : Nat) v, a[i]? = some v → ∃ v', a'[i]? = some v' ∧ VR γ v v'
abbrev VA (γ : Gam) (a a' : Array Value) : Prop := VL γ a.toList a'.toList

def Ext (γ γ' : Gam) : Prop := ∀ k e, γ k = some e → γ' k = some e
theorem Ext.refl (γ : Gam) : Ext γ γ := fun _ _ h => h
theorem Ext.trans {a b c : Gam} (h : Ext a b) (h' : Ext b c) : Ext a c := fun k e x => h' k e (h k e x)

theorem VR.mono {γ γ' : Gam} (hx : Ext γ γ') {v v' : Value} (h : VR γ v v') : VR γ' v v' := by
  induction h with
  | bool => exact .bool _
  | int => exact .int ..
  | float => exact .float ..
  | complex => exact .complex ..
  | string => exact .string _
  | pnil => exact .pnil
  | ptr h hs => exact .ptr (hx _ _ h) hs
  | snil => exact .snil
  | slice h hl hc ho hx' hm => exact .slice (hx _ _ h) hl hc ho hx' hm
  | mnil => exact .mnil
  | map h => exact .map (hx _ _ h)
  | func ha hc _ _ h1 h2 => exact .func ha hc h1 h2
  | yield h => exact .yield (hx _ _ h)
  | nilFunc => exact .nilFunc
  | nilIface => exact .nilIface
  | agg ha _ h => exact .agg ha h
  | tuple ha _ h => exact .tuple ha h

theorem VL.mono {γ γ' : Gam} (hx : Ext γ γ') {a a' : List Value} (h : VL γ a a') : VL γ' a a' :=
  ⟨h.1, fun i v hv => let ⟨v', h1, h2⟩ := h.2 i v hv; ⟨v', h1, h2.mono hx⟩⟩
theorem VL.nil {γ : Gam} : VL γ [] [] := ⟨rfl, fun i v h => by simp at h⟩
theorem VL.cons {γ : Gam} {v v' : Value} {a a' : List Value} (h : VR γ v v') (h' : VL γ a a') : VL γ (v :: a) (v' :: a') := by
  refine ⟨by simp [h'.1], fun i x hx => ?_⟩
  cases i with
  | zero => simp at hx; subst hx; exact ⟨v', by simp, h⟩
  | succ i => simp at hx; obtain ⟨y, h1, h2⟩ := h'.2 i x hx; exact ⟨y, by simpa using h1, h2⟩
theorem VL.inv_cons {γ : Gam} {v : Value} {a l : List Value} (h : VL γ (v :: a) l) : ∃ v' a', l = v' :: a' ∧ VR γ v v' ∧ VL γ a a' := by
  cases l with
  | nil => have := h.1; simp at this
  | cons v' a' =>
    obtain ⟨y, h1, h2⟩ := h.2 0 v (by simp)
    simp at h1; subst h1
    refine ⟨_, a', rfl, h2, by simpa using h.1, fun i x hx => ?_⟩
    obtain ⟨z, h3, h4⟩ := h.2 (i + 1) x (by simpa using hx)
    exact ⟨z, by simpa using h3, h4⟩
theorem VL.inv_nil {γ : Gam} {l : List Value} (h : VL γ [] l) : l = [] := by
  have := h.1; simp at this; exact List.eq_nil_of_length_eq_zero this.symm
theorem VL.append {γ : Gam} {a a' b b' : List Value} (h : VL γ a a') (h' : VL γ b b') : VL γ (a ++ b) (a' ++ b') := by
  induction a generalizing a' with
  | nil => rw [h.inv_nil]; exact h'
  | cons v a ih =>
    obtain ⟨v', l, rfl, h1, h2⟩ := h.inv_cons
    exact .cons h1 (ih h2)
theorem VL.take {γ : Gam} {a a' : List Value} (h : VL γ a a') (n : Nat) : VL γ (a.take n) (a'.take n) := by
  refine ⟨by simp [h.1], fun i v hv => ?_⟩
  rw [List.getElem?_take] at hv
  split at hv
  · rename_i hi
    obtain ⟨v', h1, h2⟩ := h.2 i v hv
    exact ⟨v', by rw [List.getElem?_take, if_pos hi]; exact h1, h2⟩
  · cases hv
theorem VL.drop {γ : Gam} {a a' : List Value} (h : VL γ a a') (n : Nat) : VL γ (a.drop n) (a'.drop n) := by
  refine ⟨by simp [h.1], fun i v hv => ?_⟩
  rw [List.getElem?_drop] at hv
  obtain ⟨v', h1, h2⟩ := h.2 _ v hv
  exact ⟨v', by rw [List.getElem?_drop]; exact h1, h2⟩
theorem VL.get {γ : Gam} {a a' : List Value} (h : VL γ a a') {i : Nat} {v : Value} (hv : a[i]? = some v) : ∃ v', a'[i]? = some v' ∧ VR γ v v' := h.2 i v hv
theorem VL.map {γ : Gam} {α : Type} (l : List α) (f g : α → Value) (h : ∀ x ∈ l, VR γ (f x) (g x)) : VL γ (l.map f) (l.map g) := by
  induction l with
  | nil => exact .nil
  | cons x l ih => exact .cons (h x (by simp)) (ih fun y hy => h y (by simp [hy]))

theorem VR.aggL {γ : Gam} {a a' : Array Value} (h : VA γ a a') : VR γ (.agg a) (.agg a') :=
  .agg (by simpa using h.1) fun i hi hi' => by
    obtain ⟨v', h1, h2⟩ := h.2 i a[i] (by simp [hi])
    simp [hi'] at h1; rw [h1]; exact h2
theorem VR.tupleL {γ : Gam} {a a' : Array Value} (h : VA γ a a') : VR γ (.tuple a) (.tuple a') :=
  .tuple (by simpa using h.1) fun i hi hi' => by
    obtain ⟨v', h1, h2⟩ := h.2 i a[i] (by simp [hi])
    simp [hi'] at h1; rw [h1]; exact h2
theorem VA.of_get {γ : Gam} {a a' : Array Value} (ha : a.size = a'.size) (h : ∀ (i : Nat) (h : i < a.size) (h' : i < a'.size), VR γ a[i] a'[i]) : VA γ a a' := by
  refine ⟨by simpa using ha, fun i v hv => ?_⟩
  simp at hv
  obtain ⟨hi, rfl⟩ := Array.getElem?_eq_some_iff.1 hv
  exact ⟨a'[i]'(ha ▸ hi), by simp [ha ▸ hi], h i hi (ha ▸ hi)⟩
theorem VR.inv_agg {γ : Gam} {a : Array Value} {v : Value} (h : VR γ (.agg a) v) : ∃ a', v = .agg a' ∧ VA γ a a' := by
  cases h with | agg ha h => exact ⟨_, rfl, .of_get ha h⟩
theorem VR.inv_tuple {γ : Gam} {a : Array Value} {v : Value} (h : VR γ (.tuple a) v) : ∃ a', v = .tuple a' ∧ VA γ a a' := by
  cases h with | tuple ha h => exact ⟨_, rfl, .of_get ha h⟩
theorem VR.inv_func {γ : Gam} {f : FuncId} {a c : Array Value} {v : Value} (h : VR γ (.func (.func f) a c) v) : ∃ a' c', v = .func (.func f) a' c' ∧ VA γ a a' ∧ VA γ c c' := by
  cases h with | func ha hc h1 h2 => exact ⟨_, _, rfl, .of_get ha h1, .of_get hc h2⟩
theorem VR.funcL {γ : Gam} {f : FuncId} {a c a' c' : Array Value} (h1 : VA γ a a') (h2 : VA γ c c') : VR γ (.func (.func f) a c) (.func (.func f) a' c') :=
  .func (by simpa using h1.1) (by simpa using h2.1)
    (fun i hi hi' => by obtain ⟨v', h3, h4⟩ := h1.2 i a[i] (by simp [hi]); simp [hi'] at h3; rw [h3]; exact h4)
    (fun i hi hi' => by obtain ⟨v', h3, h4⟩ := h2.2 i c[i] (by simp [hi]); simp [hi'] at h3; rw [h3]; exact h4)

theorem VR.cells {γ : Gam} {v v' : Value} (h : VR γ v v') : VA γ v.cells v'.cells := by
  cases h with
  | agg ha h => exact .of_get ha h
  | bool => exact .cons (.bool _) .nil
  | int => exact .cons (.int ..) .nil
  | float => exact .cons (.float ..) .nil
  | complex => exact .cons (.complex ..) .nil
  | string => exact .cons (.string _) .nil
  | pnil => exact .cons .pnil .nil
  | ptr h hs => exact .cons (.ptr h hs) .nil
  | snil => exact .cons .snil .nil
  | slice h hl hc ho hx hm => exact .cons (.slice h hl hc ho hx hm) .nil
  | mnil => exact .cons .mnil .nil
  | map h => exact .cons (.map h) .nil
  | func ha hc h1 h2 => exact .cons (.func ha hc h1 h2) .nil
  | yield h => exact .cons (.yield h) .nil
  | nilFunc => exact .cons .nilFunc .nil
  | nilIface => exact .cons .nilIface .nil
  | tuple ha h => exact .cons (.tuple ha h) .nil
theorem VR.cells_size {γ : Gam} {v v' : Value} (h : VR γ v v') : v'.cells.size = v.cells.size := by simpa using h.cells.1.symm
theorem VR.oneB {γ : Gam} {v v' : Value} (h : VR γ v v') : oneB v' = oneB v := by cases h <;> rfl

/-! ### What holds no address stands for itself -/
theorem flatL_all : ∀ (l : List Value), flatB.flatL l = true → ∀ v ∈ l, flatB v = true
  | [], _, _, h => by cases h
  | x :: r, hf, v, h => by
    simp only [flatB.flatL, Bool.and_eq_true] at hf
    cases h with
    | head => exact hf.1
    | tail _ h => exact flatL_all r hf.2 v h
theorem flat_eq {γ : Gam} {v v' : Value} (h : VR γ v v') : flatB v = true → v' = v := by
  induction h with
  | ptr => intro hf; simp [flatB] at hf
  | slice => intro hf; simp [flatB] at hf
  | map => intro hf; simp [flatB] at hf
  | func => intro hf; simp [flatB] at hf
  | yield => intro hf; simp [flatB] at hf
  | agg ha h ih =>
    intro hf
    simp only [flatB] at hf
    congr 1
    refine Array.ext ha.symm fun i h1 h2 => ?_
    exact ih i h2 h1 (flatL_all _ hf _ (by simp))
  | tuple ha h ih =>
    intro hf
    simp only [flatB] at hf
    congr 1
    refine Array.ext ha.symm fun i h1 h2 => ?_
    exact ih i h2 h1 (flatL_all _ hf _ (by simp))
  | _ => intro _; rfl
theorem VR.of_flat (γ : Gam) : ∀ (v : Value), flatB v = true → VR γ v v
  | .bool _, _ => .bool _
  | .int .., _ => .int ..
  | .float .., _ => .float ..
  | .complex .., _ => .complex ..
  | .string _, _ => .string _
  | .pointer none, _ => .pnil
  | .pointer (some _), h => by simp [flatB] at h
  | .slice none 0 0, _ => .snil
  | .slice none 0 (_ + 1), h => by simp [flatB] at h
  | .slice none (_ + 1) _, h => by simp [flatB] at h
  | .slice (some _) _ _, h => by simp [flatB] at h
  | .map none, _ => .mnil
  | .map (some _), h => by simp [flatB] at h
  | .chan _, h => by simp [flatB] at h
  | .func .., h => by simp [flatB] at h
  | .nilFunc, _ => .nilFunc
  | .nilIface, _ => .nilIface
  | .iface .., h => by simp [flatB] at h
  | .agg cs, h => .agg rfl fun i hi _ => VR.of_flat γ cs[i] (flatL_all _ (by simpa [flatB] using h) _ (by simp))
  | .tuple cs, h => .tuple rfl fun i hi _ => VR.of_flat γ cs[i] (flatL_all _ (by simpa [flatB] using h) _ (by simp))
termination_by v => SizeOf.sizeOf v
decreasing_by
  all_goals
    simp_wf
    have := Array.sizeOf_getElem cs i hi
    omega
theorem flatB_VR {γ : Gam} {v v' : Value} (h : VR γ v v') (hf : flatB v = true) : flatB v' = true := by rw [flat_eq h hf]; exact hf

/-! ### The heaps -/
def okOperand (G : Nat) : Operand → Bool
  | .tmp _ => true
  | .const v => flatB v
  | .global g => decide (g < G)
  | .func _ => true
def okOp (G : Nat) (o : Oper) : Bool := o.op.operands.all (okOperand G)
def okCode (G : Nat) : Code → Bool
  | .region _ ops _ => ops.all (okOp G)
  | .seq a b => okCode G a && okCode G b
  | .cond c a b => okOperand G c && okCode G a && okCode G b
  | .block _ c | .loop c | .scope c => okCode G c
  | .rangeFunc f _ a b => okOperand G f && okCode G a && okCode G b
  | _ => true

def isRo : Ob → Bool
  | .cells _ _ _ ro _ => ro
  | _ => false
def harmless : Ob → Bool
  | .dead => true
  | .cells [] _ _ true _ => true
  | _ => false

/-- The temporaries. -/
def TR (γ : Gam) (τ : T Value) (nt : Nat) (tmps : Array Value) : Prop :=
  tmps.size = nt ∧ ∀ t, VR γ ((τ.get t).getD undef) (tmps.getD t undef)

/-- An object, and what lies in the real heap for it. -/
def OR (P : Program) (γ : Gam) (e : Emb) (o : Option Obj) : Ob → Prop
  | .dead => True
  | .cells vs t loose ro _ => e.loose = loose ∧ (loose = true → szOf P t = some e.es) ∧ ((vs = [] ∧ ro = true) ∨
      ∃ cs t' fr, o = some (.cells cs t' fr) ∧ e.lim ≤ cs.size ∧ e.sh + vs.length ≤ e.lim ∧ VL γ vs ((cs.toList.drop e.sh).take vs.length) ∧
        (ro = false → ∀ i, e.sh ≤ i → i < e.lim → ¬(fr.1 ≤ i ∧ i < fr.2)))
  | .map es clock _ => ∃ es', o = some (.map es' clock) ∧ es'.size = es.length ∧
      ∀ (i : Nat) en, es[i]? = some en → ∃ en', es'[i]? = some en' ∧ en'.key = en.key ∧ en'.born = en.born ∧ VR γ en.val en'.val
  | .siter s pos _ => o = some (.stringIter s pos) ∧ e.sh = 0
  | .loop r _ => ∃ L, o = some (.loop L) ∧ L.state = r.st ∧ L.pending = r.pending ∧ L.params.toList = r.params ∧ L.assign = r.assign ∧ L.body = r.body ∧
      TR γ r.tmps r.nt L.tmps ∧ (∃ e', γ r.dfr = some e' ∧ e'.b = L.defers) ∧ okCode P.globals.size r.assign = true ∧ okCode P.globals.size r.body = true
  | .dfr _ => o = some (.deferred (some []))

theorem TR.mono {γ γ' : Gam} (hx : Ext γ γ') {τ : T Value} {nt : Nat} {tmps : Array Value} (h : TR γ τ nt tmps) : TR γ' τ nt tmps := ⟨h.1, fun t => (h.2 t).mono hx⟩
theorem OR.mono {P : Program} {γ γ' : Gam} (hx : Ext γ γ') {e : Emb} {o : Option Obj} {x : Ob} (h : OR P γ e o x) : OR P γ' e o x := by
  cases x with
  | dead => trivial
  | cells vs t l ro ver =>
    obtain ⟨h0, h00, h⟩ := h
    rcases h with h | ⟨cs, t', fr, h1, h2, h3, h4, h5⟩
    · exact ⟨h0, h00, .inl h⟩
    · exact ⟨h0, h00, .inr ⟨cs, t', fr, h1, h2, h3, h4.mono hx, h5⟩⟩
  | map es clock ver =>
    obtain ⟨es', h1, h2, h3⟩ := h
    exact ⟨es', h1, h2, fun i en hi => let ⟨en', a, b, c, d⟩ := h3 i en hi; ⟨en', a, b, c, d.mono hx⟩⟩
  | siter => exact h
  | loop r ver =>
    obtain ⟨L, h1, h2, h3, h5, h6, h7, h8, ⟨e', h9, h10⟩, h11⟩ := h
    exact ⟨L, h1, h2, h3, h5, h6, h7, h8.mono hx, ⟨e', hx _ _ h9, h10⟩, h11⟩
  | dfr => exact h

structure WRel (P : Program) (γ : Gam) (A : CW) (w : World) : Prop where
  obj : ∀ k e, γ k = some e → k < A.n → OR P γ e w.heap[e.b]? (A.get k)
  sep : ∀ k₁ e₁ k₂ e₂, γ k₁ = some e₁ → γ k₂ = some e₂ → k₁ ≠ k₂ → e₁.b = e₂.b →
    (k₁ < A.n ∧ harmless (A.get k₁) = true) ∨ (k₂ < A.n ∧ harmless (A.get k₂) = true) ∨ (k₁ < A.n ∧ k₂ < A.n ∧ isRo (A.get k₁) = true ∧ isRo (A.get k₂) = true)
  blk : ∀ k e, γ k = some e → e.b < w.heap.size ∨ (k < A.n ∧ harmless (A.get k) = true)
  glob : ∀ g, g < P.globals.size → ∃ e, γ g = some e ∧ e.b = g ∧ e.sh = 0 ∧ e.loose = false
  wf : ∀ k, A.n ≤ k → A.get k = .dead

theorem WRel.lt {P : Program} {γ : Gam} {A : CW} {w : World} (h : WRel P γ A w) {k : Nat} {e : Emb} (hg : γ k = some e) (hl : harmless (A.get k) = false) : e.b < w.heap.size :=
  (h.blk k e hg).resolve_right fun ⟨_, hh⟩ => by rw [hl] at hh; cases hh
theorem OR.of_harmless {P : Program} {γ : Gam} {e : Emb} {o o' : Option Obj} {x : Ob} (hh : harmless x = true) (h : OR P γ e o x) : OR P γ e o' x := by
  cases x with
  | dead => trivial
  | cells vs t l r v =>
    obtain ⟨h0, h00, _⟩ := h
    cases vs with
    | nil => cases r with
      | true => exact ⟨h0, h00, .inl ⟨rfl, rfl⟩⟩
      | false => simp [harmless] at hh
    | cons => simp [harmless] at hh
  | map => simp [harmless] at hh
  | siter => simp [harmless] at hh
  | loop => simp [harmless] at hh
  | dfr => simp [harmless] at hh

/-- How an object may turn. -/
def Le (x y : Ob) : Prop := y = x ∨ (x ≠ .dead ∧ y = .dead) ∨ (x ≠ .dead ∧ y ≠ .dead ∧ x.ver < y.ver)
theorem Le.refl (x : Ob) : Le x x := .inl rfl
theorem Ob.ver_dead {x : Ob} (h : x.ver = 0) : x = .dead := by cases x <;> simp [Ob.ver] at h ⊢
theorem Le.trans {x y z : Ob} (h : Le x y) (h' : Le y z) : Le x z := by
  rcases h with rfl | ⟨h1, rfl⟩ | ⟨h1, h2, h3⟩
  · exact h'
  · rcases h' with rfl | ⟨h4, _⟩ | ⟨h4, _⟩
    · exact .inr (.inl ⟨h1, rfl⟩)
    · exact absurd rfl h4
    · exact absurd rfl h4
  · rcases h' with rfl | ⟨_, rfl⟩ | ⟨_, h5, h6⟩
    · exact .inr (.inr ⟨h1, h2, h3⟩)
    · exact .inr (.inl ⟨h1, rfl⟩)
    · exact .inr (.inr ⟨h1, h5, by omega⟩)
theorem Le.back {x y : Ob} (h : Le x y) (h' : Le y x) : y = x := by
  rcases h with rfl | ⟨h1, rfl⟩ | ⟨h1, h2, h3⟩
  · rfl
  · rcases h' with h | ⟨h4, _⟩ | ⟨h4, _⟩
    · exact h.symm
    · exact absurd rfl h4
    · exact absurd rfl h4
  · rcases h' with h | ⟨_, h⟩ | ⟨_, _, h6⟩
    · exact h.symm
    · exact absurd h h1
    · omega
theorem Le.of_ver {x y : Ob} (h : Le x y) (hv : y.ver = x.ver) : y = x := by
  rcases h with rfl | ⟨h1, rfl⟩ | ⟨h1, h2, h3⟩
  · rfl
  · exact absurd (Ob.ver_dead (by rw [← hv]; rfl)) h1
  · omega
theorem Le.dead {y : Ob} (h : Le .dead y) : y = .dead := by
  rcases h with h | ⟨h, _⟩ | ⟨h, _⟩
  · exact h
  · exact absurd rfl h
  · exact absurd rfl h

/-- What the model's runs leave alone: the system, the output, what is frozen. -/
structure Calm (w w' : World) : Prop where
  os : w'.os = w.os
  out : w'.output = w.output
  size : w.heap.size ≤ w'.heap.size
  frz : ∀ a, a.block < w.heap.size → w'.frozen? a = w.frozen? a
theorem Calm.refl (w : World) : Calm w w := ⟨rfl, rfl, Nat.le_refl _, fun _ _ => rfl⟩
theorem Calm.trans {w w₁ w₂ : World} (h : Calm w w₁) (h' : Calm w₁ w₂) : Calm w w₂ :=
  ⟨h'.os.trans h.os, h'.out.trans h.out, Nat.le_trans h.size h'.size, fun a ha => (h'.frz a (Nat.lt_of_lt_of_le ha h.size)).trans (h.frz a ha)⟩
def Quiet (w w' : World) : Prop := w'.os = w.os ∧ w'.output = w.output
theorem Calm.of_heap {w w' : World} (hh : w'.heap = w.heap) (hq : Quiet w w') : Calm w w' := ⟨hq.1, hq.2, by rw [hh]; exact Nat.le_refl _, fun a _ => by unfold World.frozen?; rw [hh]⟩
theorem Calm.push {w w' : World} {obj : Obj} (hh : w'.heap = w.heap.push obj) (hq : Quiet w w') : Calm w w' := by
  refine ⟨hq.1, hq.2, by rw [hh, Array.size_push]; omega, fun a ha => ?_⟩
  unfold World.frozen?
  rw [hh, Array.getElem?_push, if_neg (by omega)]
def notCells : Obj → Bool
  | .cells .. => false
  | _ => true
theorem Calm.setObj {w w' : World} {b : Nat} {o o' : Obj} (h : w.heap[b]? = some o) (hn : notCells o = true) (hn' : notCells o' = true) (hh : w'.heap = w.heap.setIfInBounds b o') (hq : Quiet w w') : Calm w w' := by
  refine ⟨hq.1, hq.2, by rw [hh, Array.size_setIfInBounds]; exact Nat.le_refl _, fun a _ => ?_⟩
  unfold World.frozen?
  rw [hh, Array.getElem?_setIfInBounds]
  by_cases ha : b = a.block
  · have hlt := (Array.getElem?_eq_some_iff.1 h).1
    rw [if_pos ha, ← ha, if_pos hlt, h]
    cases o <;> cases o' <;> first | rfl | (simp [notCells] at hn; done) | (simp [notCells] at hn'; done)
  · rw [if_neg ha]
theorem Calm.setCell (w : World) (a : Addr) (v : Value) : Calm w (w.setCell a v) := by
  refine ⟨rfl, rfl, by unfold World.setCell; simp, fun q _ => ?_⟩
  unfold World.frozen? World.setCell
  simp only [Array.getElem?_modify]
  by_cases hq : a.block = q.block
  · rw [if_pos hq]
    cases w.heap[q.block]? with
    | none => rfl
    | some o => cases o <;> rfl
  · rw [if_neg hq]

/-- What a step keeps. -/
structure Step (P : Program) (γ : Gam) (A : CW) (w : World) (γ' : Gam) (A' : CW) (w' : World) : Prop where
  calm : Calm w w'
  ext : Ext γ γ'
  dom : ∀ k e, γ' k = some e → γ k = some e ∨ (A.n ≤ k ∧ k < A'.n)
  fresh : ∀ k, A.n ≤ k → k < A'.n → γ k = none
  rel : WRel P γ' A' w'
  n : A.n ≤ A'.n
  cfr : ∀ k, k < A.n → γ k = none → A'.get k = A.get k
  le : ∀ k, k < A.n → Le (A.get k) (A'.get k)
  ro : ∀ k, k < A.n → isRo (A.get k) = true → A'.get k = A.get k
  size : w.heap.size ≤ w'.heap.size
  old : ∀ k e, γ' k = some e → γ k = none → e.b < w.heap.size →
    ∃ k₀ e₀, γ k₀ = some e₀ ∧ k₀ < A.n ∧ e₀.b = e.b ∧ (A'.get k₀ ≠ A.get k₀ ∨ isRo (A'.get k) = true)
  wfr : ∀ b, b < w.heap.size → (∀ k e, γ k = some e → e.b = b → k < A.n → A'.get k = A.get k) → w'.heap[b]? = w.heap[b]?

theorem Step.refl {P : Program} {γ : Gam} {A : CW} {w : World} (h : WRel P γ A w) : Step P γ A w γ A w :=
  ⟨.refl _, .refl _, fun _ _ h => .inl h, fun _ h1 h2 => absurd h2 (Nat.not_lt.2 h1), h, Nat.le_refl _, fun _ _ _ => rfl, fun _ _ => .refl _, fun _ _ _ => rfl, Nat.le_refl _,
    fun _ _ h h' => (by rw [h] at h'; cases h'), fun _ _ _ => rfl⟩

theorem Step.same {P : Program} {γ γ₁ γ₂ : Gam} {A A₁ A₂ : CW} {w w₁ w₂ : World} (h : Step P γ A w γ₁ A₁ w₁) (h' : Step P γ₁ A₁ w₁ γ₂ A₂ w₂) {k : Nat} (hk : k < A.n)
    (h2 : A₂.get k = A.get k) : A₁.get k = A.get k ∧ A₂.get k = A₁.get k := by
  have h3 := h.le k hk
  have h4 := h'.le k (Nat.lt_of_lt_of_le hk h.n)
  rw [h2] at h4
  have h5 := h3.back h4
  exact ⟨h5, by rw [h2, h5]⟩

theorem Step.trans {P : Program} {γ γ₁ γ₂ : Gam} {A A₁ A₂ : CW} {w w₁ w₂ : World} (h : Step P γ A w γ₁ A₁ w₁) (h' : Step P γ₁ A₁ w₁ γ₂ A₂ w₂) : Step P γ A w γ₂ A₂ w₂ where
  calm := h.calm.trans h'.calm
  ext := h.ext.trans h'.ext
  dom k e x := by
    rcases h'.dom k e x with x | ⟨a, b⟩
    · rcases h.dom k e x with x | ⟨a, b⟩
      · exact .inl x
      · exact .inr ⟨a, Nat.lt_of_lt_of_le b h'.n⟩
    · exact .inr ⟨Nat.le_trans h.n a, b⟩
  fresh k a b := by
    by_cases hk : k < A₁.n
    · exact h.fresh k a hk
    · cases hg : γ k with
      | none => rfl
      | some e => have := h'.fresh k (by omega) b; rw [h.ext k e hg] at this; cases this
  rel := h'.rel
  n := Nat.le_trans h.n h'.n
  cfr k hk hg := by
    rw [h'.cfr k (Nat.lt_of_lt_of_le hk h.n) ?_, h.cfr k hk hg]
    cases hc : γ₁ k with
    | none => rfl
    | some e => rcases h.dom k e hc with x | ⟨a, _⟩
                · rw [hg] at x; cases x
                · omega
  le k hk := (h.le k hk).trans (h'.le k (Nat.lt_of_lt_of_le hk h.n))
  ro k hk hr := by rw [h'.ro k (Nat.lt_of_lt_of_le hk h.n) (by rw [h.ro k hk hr]; exact hr), h.ro k hk hr]
  size := Nat.le_trans h.size h'.size
  old k e hg hn hb := by
    cases h1 : γ₁ k with
    | some e₁ =>
      have : e₁ = e := by have := h'.ext k e₁ h1; rw [hg] at this; exact (Option.some.inj this).symm
      subst this
      have hk : k < A₁.n := by
        rcases h.dom k e₁ h1 with x | ⟨_, b⟩
        · rw [hn] at x; cases x
        · exact b
      obtain ⟨k₀, e₀, a, b, c, d⟩ := h.old k e₁ h1 hn hb
      refine ⟨k₀, e₀, a, b, c, ?_⟩
      rcases d with d | hr
      · exact .inl fun x => d (h.same h' b x).1
      · exact .inr (by rw [h'.ro k hk hr]; exact hr)
    | none =>
      obtain ⟨k₀, e₀, a, b, c, d⟩ := h'.old k e hg h1 (Nat.lt_of_lt_of_le hb h.size)
      cases h0 : γ k₀ with
      | some e₁ =>
        have : e₁ = e₀ := by have := h.ext k₀ e₁ h0; rw [a] at this; exact (Option.some.inj this).symm
        subst this
        have hk : k₀ < A.n := by
          by_cases hk : k₀ < A.n
          · exact hk
          · have := h.fresh k₀ (by omega) b; rw [h0] at this; cases this
        refine ⟨k₀, e₁, h0, hk, c, ?_⟩
        rcases d with d | hr
        · exact .inl fun x => d (h.same h' hk x).2
        · exact .inr hr
      | none =>
        obtain ⟨k₁, e₁, a', b', c', d'⟩ := h.old k₀ e₀ a h0 (by rw [c]; exact hb)
        refine ⟨k₁, e₁, a', b', by rw [c', c], ?_⟩
        rcases d with d | hr
        · rcases d' with d' | hr'
          · exact .inl fun x => d' (h.same h' b' x).1
          · exact absurd (h'.ro k₀ b hr') d
        · exact .inr hr
  wfr b hb hall := by
    have h1 : ∀ k e, γ k = some e → e.b = b → k < A.n → A₁.get k = A.get k ∧ A₂.get k = A₁.get k := fun k e hg he hk => h.same h' hk (hall k e hg he hk)
    rw [h'.wfr b (Nat.lt_of_lt_of_le hb h.size) ?_, h.wfr b hb fun k e hg he hk => (h1 k e hg he hk).1]
    intro k e hg he hk
    cases h0 : γ k with
    | some e₁ =>
      have : e₁ = e := by have := h.ext k e₁ h0; rw [hg] at this; exact (Option.some.inj this).symm
      subst this
      have hk' : k < A.n := by
        by_cases hk' : k < A.n
        · exact hk'
        · have := h.fresh k (by omega) hk; rw [h0] at this; cases this
      exact (h1 k e₁ h0 he hk').2
    | none =>
      obtain ⟨k₁, e₁, a', b', c', d'⟩ := h.old k e hg h0 (by rw [he]; exact hb)
      rcases d' with d' | hr
      · exact absurd (h1 k₁ e₁ a' (by rw [c', he]) b').1 d'
      · exact h'.ro k hk hr
end Go.AM

