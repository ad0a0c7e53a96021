/-
  AM: what a call has made, without what nobody can reach any more: contracts in their plainest form.
-/
import Derived.Test.YthfphmbjhmaomaaAmDen
namespace Go.AM
variable {P : Program} {γ γ₁ γ₂ : Gam} {A A' A₁ : CW} {w w' : World}

/-! ### Other numbers for the same objects -/
inductive RN (ρ : Nat → Nat) (S : Nat → Prop) : Value → Value → Prop
  | flat {v : Value} (h : flatB v = true) : RN ρ S v v
  | ptr {k o : Nat} {sp : Option Nat} (h : S k) : RN ρ S (.pointer (some ⟨k, o, sp⟩)) (.pointer (some ⟨ρ k, o, sp⟩))
  | slice {k o len cap : Nat} {sp : Option Nat} (h : S k) : RN ρ S (.slice (some ⟨k, o, sp⟩) len cap) (.slice (some ⟨ρ k, o, sp⟩) len cap)
  | map {k : Nat} (h : S k) : RN ρ S (.map (some k)) (.map (some (ρ k)))
  | agg {a a' : Array Value} (ha : a.size = a'.size) (h : ∀ (i : Nat) (h : i < a.size) (h' : i < a'.size), RN ρ S a[i] a'[i]) : RN ρ S (.agg a) (.agg a')
  | tuple {a a' : Array Value} (ha : a.size = a'.size) (h : ∀ (i : Nat) (h : i < a.size) (h' : i < a'.size), RN ρ S a[i] a'[i]) : RN ρ S (.tuple a) (.tuple a')
  | func {f : FuncId} {a c a' c' : Array Value} (ha : a.size = a'.size) (hc : c.size = c'.size)
      (h1 : ∀ (i : Nat) (h : i < a.size) (h' : i < a'.size), RN ρ S a[i] a'[i]) (h2 : ∀ (i : Nat) (h : i < c.size) (h' : i < c'.size), RN ρ S c[i] c'[i]) :
      RN ρ S (.func (.func f) a c) (.func (.func f) a' c')

theorem RN.rel {ρ : Nat → Nat} {S : Nat → Prop} (hγ : ∀ k e, S k → γ₁ (ρ k) = some e → γ₂ k = some e) {v v1 : Value} (h : RN ρ S v v1) : ∀ {v' : Value}, VR γ₁ v1 v' → VR γ₂ v v' := by
  induction h with
  | flat hf => intro v' h'; rw [flat_eq h' hf]; exact .of_flat _ _ hf
  | ptr hk => intro v' h'; cases h' with | ptr h hs => exact .ptr (hγ _ _ hk h) hs
  | slice hk => intro v' h'; cases h' with | slice h hl hc ho hx hm => exact .slice (hγ _ _ hk h) hl hc ho hx hm
  | map hk => intro v' h'; cases h' with | map h => exact .map (hγ _ _ hk h)
  | agg ha _ ih =>
    intro v' h'
    cases h' with
    | agg ha' h2 => exact .agg (ha.trans ha') fun i h1 h3 => ih i h1 (by omega) (h2 i (by omega) h3)
  | tuple ha _ ih =>
    intro v' h'
    cases h' with
    | tuple ha' h2 => exact .tuple (ha.trans ha') fun i h1 h3 => ih i h1 (by omega) (h2 i (by omega) h3)
  | func ha hc _ _ ih1 ih2 =>
    intro v' h'
    cases h' with
    | func ha' hc' h1 h2 => exact .func (ha.trans ha') (hc.trans hc') (fun i a b => ih1 i a (by omega) (h1 i (by omega) b)) (fun i a b => ih2 i a (by omega) (h2 i (by omega) b))

inductive RL (ρ : Nat → Nat) (S : Nat → Prop) : List Value → List Value → Prop
  | nil : RL ρ S [] []
  | cons {v v1 : Value} {l l1 : List Value} (h : RN ρ S v v1) (hl : RL ρ S l l1) : RL ρ S (v :: l) (v1 :: l1)
theorem RL.length {ρ : Nat → Nat} {S : Nat → Prop} {l l1 : List Value} (h : RL ρ S l l1) : l.length = l1.length := by
  induction h with
  | nil => rfl
  | cons _ _ ih => simp [ih]
theorem RL.rel {ρ : Nat → Nat} {S : Nat → Prop} (hγ : ∀ k e, S k → γ₁ (ρ k) = some e → γ₂ k = some e) {l l1 : List Value} (h : RL ρ S l l1) : ∀ {l' : List Value}, VL γ₁ l1 l' → VL γ₂ l l' := by
  induction h with
  | nil => intro l' h'; rw [h'.inv_nil]; exact .nil
  | cons h _ ih =>
    intro l' h'
    obtain ⟨v', r', rfl, h1, h2⟩ := h'.inv_cons
    exact .cons (h.rel hγ h1) (ih h2)
theorem RL.flat {ρ : Nat → Nat} {S : Nat → Prop} : ∀ {l : List Value}, l.all flatB = true → RL ρ S l l
  | [], _ => .nil
  | v :: l, h => by
    simp only [List.all_cons, Bool.and_eq_true] at h
    exact .cons (.flat h.1) (RL.flat h.2)

/-- An object and the one that it is of the heap behind the call. -/
inductive OB (ρ : Nat → Nat) (S : Nat → Prop) : Ob → Ob → Prop
  | dead : OB ρ S .dead .dead
  | cells {vs vs1 : List Value} {e : TypeId} {lo ro : Bool} {ver ver1 : Nat} (h : RL ρ S vs vs1) : OB ρ S (.cells vs e lo ro ver) (.cells vs1 e lo ro ver1)
  | map {es es1 : List MapEntry} {c ver ver1 : Nat} (hl : es.length = es1.length) (h : ∀ (i : Nat) en en1, es[i]? = some en → es1[i]? = some en1 → en1.key = en.key ∧ en1.born = en.born ∧ RN ρ S en.val en1.val) : OB ρ S (.map es c ver) (.map es1 c ver1)
theorem OB.harmless {ρ : Nat → Nat} {S : Nat → Prop} {o o1 : Ob} (h : OB ρ S o o1) : AM.harmless o1 = AM.harmless o := by
  cases h with
  | dead => rfl
  | cells h =>
    rename_i lo ro _ _
    cases h <;> cases ro <;> rfl
  | map => rfl
theorem OB.isRo {ρ : Nat → Nat} {S : Nat → Prop} {o o1 : Ob} (h : OB ρ S o o1) : AM.isRo o1 = AM.isRo o := by cases h <;> rfl
theorem OB.rel {ρ : Nat → Nat} {S : Nat → Prop} (hγ : ∀ k e, S k → γ₁ (ρ k) = some e → γ₂ k = some e) {o o1 : Ob} (h : OB ρ S o o1) {e : Emb} {obj : Option Obj} (ho : OR P γ₁ e obj o1) : OR P γ₂ e obj o := by
  cases h with
  | dead => trivial
  | cells h =>
    obtain ⟨h0, h00, hh⟩ := ho
    refine ⟨h0, h00, ?_⟩
    rcases hh with ⟨h1, h2⟩ | ⟨cs, t', fr, h1, h2, h3, h4, h5⟩
    · subst h1; cases h; exact .inl ⟨rfl, h2⟩
    · exact .inr ⟨cs, t', fr, h1, h2, by rw [h.length]; exact h3, by rw [h.length]; exact h.rel hγ h4, h5⟩
  | map hl h =>
    obtain ⟨es', h1, h2, h3⟩ := ho
    refine ⟨es', h1, by rw [h2, hl], fun i en hi => ?_⟩
    rename_i es es1 c ver ver1
    have hlt := (List.getElem?_eq_some_iff.1 hi).1
    obtain ⟨en1, hi1⟩ : ∃ en1, es1[i]? = some en1 := ⟨es1[i]'(by omega), by simp⟩
    obtain ⟨a, b, c⟩ := h i en en1 hi hi1
    obtain ⟨en', d1, d2, d3, d4⟩ := h3 i en1 hi1
    exact ⟨en', d1, by rw [d2, a], by rw [d3, b], c.rel hγ d4⟩

/-- A call of a small heap (argsS, As): its live part is S, numbered by ρs in the great one. -/
structure TrimPre (P : Program) (args : Array Value) (A : CW) (argsS : Array Value) (As : CW) (ρs : Nat → Nat) (S : Nat → Prop) : Prop where
  sLt : ∀ k, S k → k < As.n ∧ ρs k < A.n
  sInj : ∀ j k, S j → S k → ρs j = ρs k → j = k
  sG : ∀ g, g < P.globals.size → S g ∧ ρs g = g
  sWf : ∀ k, As.n ≤ k → As.get k = .dead
  sArgs : RL ρs S argsS.toList args.toList
  sOb : ∀ k, S k → OB ρs S (As.get k) (A.get (ρs k))
/-- What the great heap is behind it. -/
structure TrimOk (P : Program) (args : Array Value) (A : CW) (v : Value) (A' : CW) (argsS : Array Value) (As : CW) (v1 : Value) (A1 : CW) (ρs ρ : Nat → Nat) (S : Nat → Prop) : Prop extends TrimPre P args A argsS As ρs S where
  old1 : ∀ k, S k → A1.get k = As.get k
  old' : ∀ k, k < A.n → A'.get k = A.get k
  n' : A.n ≤ A'.n
  wf' : (∀ k, A.n ≤ k → A.get k = .dead) → ∀ k, A'.n ≤ k → A'.get k = .dead
  ρnew : ∀ k, A.n ≤ k → k < A'.n → As.n ≤ ρ k ∧ ρ k < A1.n
  inj : ∀ j k, A.n ≤ j → j < A'.n → A.n ≤ k → k < A'.n → ρ j = ρ k → j = k
  ob : ∀ k, A.n ≤ k → k < A'.n → OB ρ (fun k => (A.n ≤ k ∧ k < A'.n) ∨ (k < A.n ∧ S (ρ k) ∧ ρs (ρ k) = k)) (A'.get k) (A1.get (ρ k))
  noRo : ∀ k, A.n ≤ k → k < A'.n → isRo (A'.get k) = true → harmless (A'.get k) = true
  val : RN ρ (fun k => (A.n ≤ k ∧ k < A'.n) ∨ (k < A.n ∧ S (ρ k) ∧ ρs (ρ k) = k)) v v1

noncomputable def restr (γ : Gam) (ρs : Nat → Nat) (S : Nat → Prop) : Gam := fun k => open Classical in if S k then γ (ρs k) else none
theorem restr_some {S : Nat → Prop} {ρs : Nat → Nat} {k : Nat} {e : Emb} : restr γ ρs S k = some e ↔ S k ∧ γ (ρs k) = some e := by
  unfold restr; split <;> simp_all

theorem trim_pre {args argsS : Array Value} {As : CW} {ρs : Nat → Nat} {S : Nat → Prop} (ht : TrimPre P args A argsS As ρs S) (h : WRel P γ A w) {args' : Array Value} (ha : VA γ args args') :
    WRel P (restr γ ρs S) As w ∧ VA (restr γ ρs S) argsS args' ∧ (∀ k, As.n ≤ k → restr γ ρs S k = none) := by
  have hγr : ∀ k e, S k → γ (ρs k) = some e → restr γ ρs S k = some e := fun k e hk hg => restr_some.2 ⟨hk, hg⟩
  have hnone : ∀ k, As.n ≤ k → restr γ ρs S k = none := fun k hk => by
    cases hg : restr γ ρs S k with
    | none => rfl
    | some e => have := (ht.sLt k (restr_some.1 hg).1).1; omega
  refine ⟨⟨fun k e hk hlt => ?_, fun k₁ e₁ k₂ e₂ h1 h2 hne hb => ?_, fun k e hk => ?_, fun g hg => ?_, ht.sWf⟩, ?_, hnone⟩
  · obtain ⟨h1, h2⟩ := restr_some.1 hk
    exact (ht.sOb k h1).rel hγr (h.obj (ρs k) e h2 (ht.sLt k h1).2)
  · obtain ⟨s1, g1⟩ := restr_some.1 h1
    obtain ⟨s2, g2⟩ := restr_some.1 h2
    have := h.sep (ρs k₁) e₁ (ρs k₂) e₂ g1 g2 (fun hh => hne (ht.sInj _ _ s1 s2 hh)) hb
    rw [(ht.sOb k₁ s1).harmless, (ht.sOb k₂ s2).harmless, (ht.sOb k₁ s1).isRo, (ht.sOb k₂ s2).isRo] at this
    rcases this with ⟨_, x⟩ | ⟨_, x⟩ | ⟨_, _, x, y⟩
    · exact .inl ⟨(ht.sLt _ s1).1, x⟩
    · exact .inr (.inl ⟨(ht.sLt _ s2).1, x⟩)
    · exact .inr (.inr ⟨(ht.sLt _ s1).1, (ht.sLt _ s2).1, x, y⟩)
  · obtain ⟨s1, g1⟩ := restr_some.1 hk
    rcases h.blk (ρs k) e g1 with x | ⟨_, x⟩
    · exact .inl x
    · exact .inr ⟨(ht.sLt _ s1).1, by rw [← (ht.sOb k s1).harmless]; exact x⟩
  · obtain ⟨e, h1, h2⟩ := h.glob g hg
    have := ht.sG g hg
    exact ⟨e, restr_some.2 ⟨this.1, by rw [this.2]; exact h1⟩, h2⟩
  · exact ht.sArgs.rel hγr ha
theorem trim_post {args argsS : Array Value} {v v1 : Value} {As A1 : CW} {ρs ρ : Nat → Nat} {S : Nat → Prop} (ht : TrimOk P args A v A' argsS As v1 A1 ρs ρ S) (h : WRel P γ A w) (hf : ∀ k, A.n ≤ k → k < A'.n → γ k = none)
    (γ1 : Gam) (w' : World) (v' : Value) (hs : Step P (restr γ ρs S) As w γ1 A1 w') (hv : VR γ1 v1 v') : ∃ γ'', Step P γ A w γ'' A' w' ∧ VR γ'' v v' := by
  have hnone : ∀ k, As.n ≤ k → restr γ ρs S k = none := fun k hk => by
    cases hg : restr γ ρs S k with
    | none => rfl
    | some e => have := (ht.sLt k (restr_some.1 hg).1).1; omega
  have hn' := ht.n'
  let γ'' : Gam := fun k => if A.n ≤ k ∧ k < A'.n then γ1 (ρ k) else γ k
  have hnew : ∀ k, A.n ≤ k → k < A'.n → γ'' k = γ1 (ρ k) := fun k h1 h2 => if_pos ⟨h1, h2⟩
  have hold : ∀ k, ¬ (A.n ≤ k ∧ k < A'.n) → γ'' k = γ k := fun k h1 => if_neg h1
  have hγ : ∀ k e, ((A.n ≤ k ∧ k < A'.n) ∨ (k < A.n ∧ S (ρ k) ∧ ρs (ρ k) = k)) → γ1 (ρ k) = some e → γ'' k = some e := fun k e hk hg => by
    rcases hk with ⟨a, b⟩ | ⟨a, b, c⟩
    · rw [hnew k a b]; exact hg
    · rw [hold k (by omega)]
      rcases hs.dom _ e hg with h1 | ⟨h1, _⟩
      · rw [← c]; exact (restr_some.1 h1).2
      · have := (ht.sLt _ b).1; omega
  have hext : Ext γ γ'' := fun k e hg => by
    by_cases hk : A.n ≤ k ∧ k < A'.n
    · rw [hf k hk.1 hk.2] at hg; cases hg
    · rw [hold k hk]; exact hg
  have hblk : ∀ b, b < w.heap.size → w'.heap[b]? = w.heap[b]? := fun b hb => hs.wfr b hb fun k e hg _ _ => ht.old1 k (restr_some.1 hg).1
  have hrel1 := hs.rel
  have hcase : ∀ k e, γ'' k = some e → (A.n ≤ k ∧ k < A'.n ∧ γ1 (ρ k) = some e) ∨ (¬ (A.n ≤ k ∧ k < A'.n) ∧ γ k = some e) := fun k e hk => by
    by_cases hc : A.n ≤ k ∧ k < A'.n
    · rw [hnew k hc.1 hc.2] at hk; exact .inl ⟨hc.1, hc.2, hk⟩
    · rw [hold k hc] at hk; exact .inr ⟨hc, hk⟩
  have holdnew : ∀ k₁ e₁ k₂ e₂, γ k₁ = some e₁ → A.n ≤ k₂ → k₂ < A'.n → γ1 (ρ k₂) = some e₂ → e₁.b = e₂.b → (k₁ < A.n ∧ harmless (A.get k₁) = true) ∨ harmless (A'.get k₂) = true := fun k₁ e₁ k₂ e₂ h1 a1 a2 h2 hb => by
    rcases h.blk k₁ e₁ h1 with hlt | hh
    · refine .inr (ht.noRo k₂ a1 a2 ?_)
      obtain ⟨k₀, e₀, c1, _, _, c4⟩ := hs.old (ρ k₂) e₂ h2 (hnone _ (ht.ρnew k₂ a1 a2).1) (by rw [← hb]; exact hlt)
      rcases c4 with c4 | c4
      · exact absurd (ht.old1 k₀ (restr_some.1 c1).1) c4
      · rw [← (ht.ob k₂ a1 a2).isRo]; exact c4
    · exact .inl hh
  refine ⟨γ'', ⟨hs.calm, hext, fun k e hk => ?_, hf, ⟨fun k e hk hlt => ?_, fun k₁ e₁ k₂ e₂ h1 h2 hne hb => ?_, fun k e hk => ?_, fun g hg => ?_, ht.wf' h.wf⟩, hn', fun k hk _ => ht.old' k hk, fun k hk => .inl (ht.old' k hk), fun k hk _ => ht.old' k hk, hs.size, fun k e hk hn hb => ?_, fun b hb _ => hblk b hb⟩, ht.val.rel hγ hv⟩
  · rcases hcase k e hk with ⟨a, b, _⟩ | ⟨_, b⟩
    · exact .inr ⟨a, b⟩
    · exact .inl b
  · rcases hcase k e hk with ⟨a, b, c⟩ | ⟨a, b⟩
    · exact (ht.ob k a b).rel hγ (hrel1.obj (ρ k) e c (ht.ρnew k a b).2)
    · have hk' : k < A.n := by omega
      rw [ht.old' k hk']
      have ho := h.obj k e b hk'
      rcases h.blk k e b with hb | ⟨_, hb⟩
      · rw [hblk _ hb]; exact ho.mono hext
      · exact OR.of_harmless hb (ho.mono hext)
  · rcases hcase k₁ e₁ h1 with ⟨a1, b1, c1⟩ | ⟨a1, b1⟩
    · rcases hcase k₂ e₂ h2 with ⟨a2, b2, c2⟩ | ⟨a2, b2⟩
      · have := hrel1.sep (ρ k₁) e₁ (ρ k₂) e₂ c1 c2 (fun hh => hne (ht.inj k₁ k₂ a1 b1 a2 b2 hh)) hb
        rw [(ht.ob k₁ a1 b1).harmless, (ht.ob k₂ a2 b2).harmless, (ht.ob k₁ a1 b1).isRo, (ht.ob k₂ a2 b2).isRo] at this
        rcases this with ⟨_, x⟩ | ⟨_, x⟩ | ⟨_, _, x, y⟩
        · exact .inl ⟨b1, x⟩
        · exact .inr (.inl ⟨b2, x⟩)
        · exact .inr (.inr ⟨b1, b2, x, y⟩)
      · rcases holdnew k₂ e₂ k₁ e₁ b2 a1 b1 c1 hb.symm with ⟨x, y⟩ | x
        · exact .inr (.inl ⟨by omega, by rw [ht.old' k₂ x]; exact y⟩)
        · exact .inl ⟨b1, x⟩
    · rcases hcase k₂ e₂ h2 with ⟨a2, b2, c2⟩ | ⟨a2, b2⟩
      · rcases holdnew k₁ e₁ k₂ e₂ b1 a2 b2 c2 hb with ⟨x, y⟩ | x
        · exact .inl ⟨by omega, by rw [ht.old' k₁ x]; exact y⟩
        · exact .inr (.inl ⟨b2, x⟩)
      · rcases h.sep k₁ e₁ k₂ e₂ b1 b2 hne hb with ⟨x, y⟩ | ⟨x, y⟩ | ⟨x, y, z, t⟩
        · exact .inl ⟨by omega, by rw [ht.old' k₁ x]; exact y⟩
        · exact .inr (.inl ⟨by omega, by rw [ht.old' k₂ x]; exact y⟩)
        · exact .inr (.inr ⟨by omega, by omega, by rw [ht.old' k₁ x]; exact z, by rw [ht.old' k₂ y]; exact t⟩)
  · rcases hcase k e hk with ⟨a, b, c⟩ | ⟨a, b⟩
    · rcases hrel1.blk (ρ k) e c with x | ⟨_, x⟩
      · exact .inl x
      · exact .inr ⟨b, by rw [← (ht.ob k a b).harmless]; exact x⟩
    · rcases h.blk k e b with x | ⟨x, y⟩
      · exact .inl (Nat.lt_of_lt_of_le x hs.size)
      · exact .inr ⟨by omega, by rw [ht.old' k x]; exact y⟩
  · obtain ⟨e, h1, h2⟩ := h.glob g hg
    exact ⟨e, hext g e h1, h2⟩
  · rcases hcase k e hk with ⟨a, b, c⟩ | ⟨a, b⟩
    · obtain ⟨k₀, e₀, c1, _, c3, c4⟩ := hs.old (ρ k) e c (hnone _ (ht.ρnew k a b).1) hb
      obtain ⟨s0, g0⟩ := restr_some.1 c1
      refine ⟨ρs k₀, e₀, g0, (ht.sLt _ s0).2, c3, ?_⟩
      rcases c4 with c4 | c4
      · exact absurd (ht.old1 k₀ s0) c4
      · exact .inr (by rw [← (ht.ob k a b).isRo]; exact c4)
    · rw [hn] at b; cases b

/-- A contract proved over some others: taken in. -/
def Ov.add (ov : Ov) (f : FuncId) (c : Array Value → CW → Option (Value × CW)) : Ov := fun g => if g = f then some c else ov g
theorem OvSound.add {ov : Ov} (ho : OvSound P ov) (hm : P.follows .mixedOrders = true) (hP : OkProg P) {f : FuncId} {c : Array Value → CW → Option (Value × CW)}
    (hc : ∀ args A v A', c args A = some (v, A') → ∃ argsS As v1 A1 ρs ρ S, den P ov (.func f) argsS As = some (v1, A1) ∧ TrimOk P args A v A' argsS As v1 A1 ρs ρ S) : OvSound P (ov.add f c) := by
  refine ⟨fun g c' hg args A v A' h => ?_, fun g c' hg F hF args A v A' h γ w args' hw hf ha => ?_⟩
  · unfold Ov.add at hg
    split at hg
    · cases hg
      obtain ⟨argsS, As, v1, A1, ρs, ρ, S, _, ht⟩ := hc args A v A' h
      exact ⟨ht.n', fun k hk => .inl (ht.old' k hk), ht.wf'⟩
    · exact ho.step g c' hg args A v A' h
  · unfold Ov.add at hg
    split at hg
    · rename_i hgf
      cases hg
      subst hgf
      obtain ⟨argsS, As, v1, A1, ρs, ρ, S, hd, ht⟩ := hc args A v A' h
      obtain ⟨k, hk⟩ := den_some.1 hd
      obtain ⟨h1, h2, h3⟩ := trim_pre ht.toTrimPre hw ha
      have := inv_sound ho hm hP k F hF (.func g) argsS As v1 A1 hk _ w (.func g) args' h1 (fun j a _ => h3 j a) rfl h2
      exact this.mono fun v' w' ⟨γ1, hs, hv⟩ => trim_post ht hw hf γ1 w' v' hs hv
    · exact ho.sound g c' hg F hF args A v A' h γ w args' hw hf ha
end Go.AM

