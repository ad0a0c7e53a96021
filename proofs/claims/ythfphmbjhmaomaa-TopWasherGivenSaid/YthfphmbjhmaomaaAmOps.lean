/-
  AM: one operation of a region, a call of a function among them: what follows in the canonical run follows in the model's.
-/
import Derived.Test.YthfphmbjhmaomaaAmPrim5
import Derived.Test.YthfphmbjhmaomaaAmCan
namespace Go.AM
variable {P : Program} {γ γ' : Gam} {A A' : CW} {w w' : World}

/-- The two kinds of fences that we walk in: they shut nothing out. -/
def WideF (F : Fence) : Prop := F = Fence.wide ∨ ∃ l, F = Fence.wide.inRound l
theorem WideF.fn {F : Fence} (h : WideF F) (f : FuncId) : F.fn f := by rcases h with rfl | ⟨l, rfl⟩ <;> trivial
theorem WideF.depth {F : Fence} (h : WideF F) : F.depth = none := by rcases h with rfl | ⟨l, rfl⟩ <;> rfl
theorem WideF.dep {F : Fence} (h : WideF F) {n : Nat} : F.depth.isSome = true → 1 ≤ n := fun hd => by rw [h.depth] at hd; cases hd

/-- What follows an outcome. -/
def Up (F : Fence) (P : Program) (K : Value → World → Prop) : Result Next → Prop
  | .ok (.value v) w' => K v w'
  | .ok .skip w' => K undef w'
  | .ok (.enter f args) w' => CallsIn F 0 P f args w' fun e w'' => ∃ v, e = .returned v ∧ K v w''
  | .ok (.row row args) w' => RowsIn F 0 P row args w' K
  | .ok (.round l f tmps assign body) w' => RoundIn F 0 P l f tmps assign body w' fun e w'' => ∃ v, e = .returned v ∧ K v w''
  | _ => False

theorem Up.mono {F : Fence} {K K' : Value → World → Prop} (h : ∀ v w, K v w → K' v w) {R : Result Next} (hu : Up F P K R) : Up F P K' R := by
  cases R with
  | ok x w' =>
    cases x <;> simp only [Up] at hu ⊢ <;> first
      | exact h _ _ hu
      | exact hu.mono fun e w'' ⟨v, a, b⟩ => ⟨v, a, h _ _ b⟩
      | exact hu.mono fun v w'' b => h _ _ b
  | halt => exact hu

theorem Up.upon {F : Fence} (hF : WideF F) {o : Oper} {a : Act} {next : Act → World → Prop} {Q : Exit → Act → World → Prop} {R : Result Next} (h : Up F P (fun v w' => next (a.put o.dst v) w') R) :
    o.uponIn F 0 P a next Q R := by
  cases R with
  | ok x w' =>
    cases x <;> simp only [Up] at h <;> simp only [Oper.uponIn] <;> first
      | exact h
      | exact ⟨hF.dep, h.mono fun e w'' ⟨v, hv, hn⟩ => by subst hv; exact hn⟩
      | exact ⟨hF.dep, h⟩
  | halt => exact h.elim

theorem Out.up {F : Fence} {v : Value} {R : Result Next} (h : Out P γ A w v A' R) : Up F P (fun v' w' => ∃ γ', Step P γ A w γ' A' w' ∧ VR γ' v v') R := by
  obtain ⟨γ', w', r, rfl, h2, h3⟩ := h
  rcases h3 with ⟨v', rfl, h4⟩ | ⟨rfl, rfl⟩
  · exact ⟨γ', h2, h4⟩
  · exact ⟨γ', h2, .of_flat γ' undef rfl⟩

/-- A function value's head, called. -/
def callFn : Fn → Array Value → Sem Next
  | .func f, args => callFunc f args
  | .yield l, args => Instr.yield l args
  | _, _ => stuck ""

/-- The head of a function value, and that of the value that stands for it. -/
def FR (γ : Gam) : Fn → Fn → Prop
  | .func f, .func g => f = g
  | .yield l, .yield b => ∃ e, γ l = some e ∧ e.b = b
  | _, _ => False

/-- Calls of the canonical run stand for the model's. -/
def ISound (P : Program) (I : Inv) : Prop :=
  ∀ (F : Fence), WideF F → ∀ (fn : Fn) (args : Array Value) (A : CW) (v : Value) (A' : CW), I fn args A = some (v, A') →
    ∀ (γ : Gam) (w : World) (fn' : Fn) (args' : Array Value), WRel P γ A w → (∀ k, A.n ≤ k → k < A'.n → γ k = none) → FR γ fn fn' → VA γ args args' →
      Up F P (fun v' w' => ∃ γ', Step P γ A w γ' A' w' ∧ VR γ' v v') ((callFn fn' args').run P w)

/-- The marks among the deferred calls. -/
def DR (γ : Gam) : List Nat → List Deferred → Prop
  | [], [] => True
  | d :: r, x :: r' => (∃ e, γ d = some e ∧ x = { target := .collected e.b, args := #[] }) ∧ DR γ r r'
  | _, _ => False
theorem DR.mono {γ γ' : Gam} (hx : Ext γ γ') : ∀ {l : List Nat} {l' : List Deferred}, DR γ l l' → DR γ' l l'
  | [], [], _ => trivial
  | _ :: _, _ :: _, ⟨⟨e, h1, h2⟩, h3⟩ => ⟨⟨e, hx _ _ h1, h2⟩, h3.mono hx⟩
  | [], _ :: _, h => h.elim
  | _ :: _, [], h => h.elim

structure Rel (P : Program) (γ : Gam) (s : St) (w : World) (a : Act) : Prop where
  w : WRel P γ s.A w
  t : TR γ s.τ s.nt a.tmps
  d : DR γ s.dfr a.defers

theorem TR.set {τ : T Value} {nt d : Nat} {tmps : Array Value} (h : TR γ τ nt tmps) {v v' : Value} (hv : VR γ v v') (hd : d < nt) : TR γ (τ.set d v) nt (tmps.setIfInBounds d v') := by
  refine ⟨by simp [h.1], fun t => ?_⟩
  rw [T.get_set]
  by_cases ht : t = d
  · subst ht
    have : t < tmps.size := by rw [h.1]; exact hd
    simp [Array.getD_eq_getD_getElem?, this]; exact hv
  · rw [if_neg ht]
    have := h.2 t
    simp only [Array.getD_eq_getD_getElem?, Array.getElem?_setIfInBounds] at this ⊢
    rw [if_neg (fun hh => ht hh.symm)]
    exact this

theorem Rel.put {s s₁ : St} {a : Act} {A₁ : CW} {v v' : Value} {d : Option Tmp} (hr : Rel P γ s w a) (hs : Step P γ s.A w γ' A₁ w') (hv : VR γ' v v') (hp : putT s d v A₁ = some s₁) :
    Rel P γ' s₁ w' (a.put d v') ∧ s₁.A = A₁ := by
  unfold putT at hp
  cases d with
  | none => cases hp; exact ⟨⟨hs.rel, hr.t.mono hs.ext, hr.d.mono hs.ext⟩, rfl⟩
  | some d =>
    simp only at hp
    split at hp
    · rename_i hd
      cases hp
      exact ⟨⟨hs.rel, (hr.t.mono hs.ext).set hv hd, hr.d.mono hs.ext⟩, rfl⟩
    · cases hp

theorem wanted_rel {o : Oper} {ops : Array Oper} {τ : T Value} {nt : Nat} {tmps : Array Value} (h : TR γ τ nt tmps) : Region.wanted o (yielded ops tmps) = wantedB o ops τ := by
  unfold Region.wanted wantedB
  cases o.guard with
  | none => rfl
  | some q =>
    obtain ⟨j, want⟩ := q
    simp only
    unfold yielded
    cases (ops[j]?).bind (·.dst) with
    | none => simp
    | some d =>
      simp only [Option.bind_some]
      have hd := h.2 d
      rw [Array.getD_eq_getD_getElem?] at hd
      cases hg : τ.get d with
      | none =>
        rw [hg] at hd
        cases ht : tmps[d]? with
        | none => simp
        | some x =>
          rw [ht] at hd
          simp [undef] at hd
          obtain ⟨a', rfl, _⟩ := hd.inv_tuple
          simp
      | some x =>
        rw [hg] at hd
        cases x with
        | bool b =>
          have := hd.inv_bool
          cases ht : tmps[d]? with
          | none => rw [ht] at this; simp [undef] at this
          | some y => rw [ht] at this; simp at this; subst this; simp
        | _ =>
          cases ht : tmps[d]? with
          | none => simp
          | some y =>
            rw [ht] at hd
            cases y <;> first | rfl | (simp at hd; cases hd)

theorem VR.inv_yield {l : Nat} {a c : Array Value} {v : Value} (h : VR γ (.func (.yield l) a c) v) : ∃ e, γ l = some e ∧ v = .func (.yield e.b) #[] #[] := by
  cases h with | yield h => exact ⟨_, h, rfl⟩

/-- What a run says of an operation that it carries out. -/
theorem op_sound {I : Inv} (hI : ISound P I) {F : Fence} (hF : WideF F) {o : Oper} {τ : T Value} {nt : Nat} {a : Act} {v : Value} (h : runOp P I o τ A = some (v, A')) (hw : WRel P γ A w)
    (hf : ∀ k, A.n ≤ k → k < A'.n → γ k = none) (ht : TR γ τ nt a.tmps) (hok : okOp P.globals.size o = true) :
    Up F P (fun v' w' => ∃ γ', Step P γ A w γ' A' w' ∧ VR γ' v v') ((execOp a.eval o).run P w) := by
  have hopd : ∀ x ∈ o.op.operands, okOperand P.globals.size x = true := by
    unfold okOp at hok
    rw [Array.all_eq_true'] at hok
    exact hok
  unfold runOp at h
  split at h
  · rename_i f args ats hop
    have hfv := ev_rel ht hw (hopd f (by rw [hop]; simp [Op.operands, Call.operands]))
    have hargs : VA γ (args.map (ev τ)) (args.map a.eval) := VA.map_eval ht hw fun x hx => hopd x (by rw [hop]; simp [Op.operands, Call.operands, hx])
    split at h
    · rename_i fn first cap hfn
      rw [hfn] at hfv
      split at h
      · rename_i g
        obtain ⟨first', cap', hv, h1, h2⟩ := hfv.inv_func
        have hall : VA γ (first ++ args.map (ev τ) ++ cap) (first' ++ args.map a.eval ++ cap') := by
          unfold VA at h1 h2 hargs ⊢
          simp only [Array.toList_append]
          exact (h1.append hargs).append h2
        have := hI F hF _ _ _ _ _ h γ w (.func g) _ hw hf rfl hall
        simpa [execOp, hop, resolve, hv, Deferred.ofValue, invoke, callFn] using this
      · rename_i l
        split at h
        · rename_i hz
          obtain ⟨e, hg, hv⟩ := hfv.inv_yield
          have := hI F hF _ _ _ _ _ h γ w (.yield e.b) _ hw hf ⟨_, hg, rfl⟩ hargs
          simpa [execOp, hop, resolve, hv, Deferred.ofValue, invoke, callFn] using this
        · cases h
      · cases h
    · cases h
  · exact (prim_sound h hw hf ht hok).up

theorem runOp_noDefer {I : Inv} {o : Oper} {τ : T Value} {v : Value} (h : runOp P I o τ A = some (v, A')) : ∀ c, o.op ≠ .defer c := by
  intro c hc
  obtain ⟨dst, op, type, pos, after, guard⟩ := o
  simp only at hc
  subst hc
  simp [runOp, prim] at h

theorem stepOp_sound {I : Inv} (hI : ISound P I) {F : Fence} (hF : WideF F) {ops : Array Oper} {i : Nat} {o : Oper} {s s₁ : St} {a : Act} {Q : Exit → Act → World → Prop} {K : Act → World → Prop}
    (hi : ops[i]? = some o) (h : stepOp P I ops o s = some s₁) (hr : Rel P γ s w a) (hf : ∀ k, s.A.n ≤ k → k < s₁.A.n → γ k = none) (hok : okOp P.globals.size o = true)
    (hK : ∀ γ' w' a', Step P γ s.A w γ' s₁.A w' → Rel P γ' s₁ w' a' → K a' w') : wpOpIn F 0 P ops Q i K a w := by
  unfold stepOp at h
  unfold wpOpIn
  simp only [hi, wanted_rel (o := o) (ops := ops) hr.t]
  split at h
  · rename_i hwt
    rw [if_pos hwt]
    split at h
    · rename_i v A₁ hop
      have hA : s₁.A = A₁ := by
        unfold putT at h
        split at h
        · cases h; rfl
        · split at h <;> cases h; rfl
      rw [hA] at hf hK
      refine ⟨fun f _ => hF.fn f, ?_⟩
      rw [Oper.semAt_eq _ _ _ (runOp_noDefer hop)]
      refine Up.upon hF ((op_sound hI hF hop hr.w hf hr.t hok).mono fun v' w' ⟨γ', hs, hv⟩ => ?_)
      exact hK γ' w' _ hs (hr.put hs hv h).1
    · cases h
  · rename_i hwt
    rw [if_neg hwt]
    refine ⟨fun f _ => hF.fn f, ?_⟩
    have := hr.put (Step.refl hr.w) (VR.of_flat γ undef rfl) h
    have hst := Step.refl hr.w
    rw [← this.2] at hst
    refine hK γ w _ ?_ this.1
    rw [this.2]; exact Step.refl hr.w

/-- A region whose order is fixed. -/
theorem runOps_sound {I : Inv} (hI : ISound P I) (hM : IStep I) {F : Fence} (hF : WideF F) {ops : Array Oper} (hok : ops.all (okOp P.globals.size) = true) {Q : Exit → Act → World → Prop} :
    ∀ (l : List Oper) (i : Nat) (s s' : St) (a : Act) (γ : Gam) (w : World), (∀ j, l[j]? = ops[i + j]?) → runOps P I ops l s = some s' → Rel P γ s w a → (∀ k, s.A.n ≤ k → k < s'.A.n → γ k = none) →
      (∀ γ' w' a', Step P γ s.A w γ' s'.A w' → Rel P γ' s' w' a' → Q .normal a' w') → wpOpsIn F 0 P ops Q (List.range' i l.length) a w
  | [], i, s, s', a, γ, w, _, h, hr, _, hK => by
    simp only [runOps] at h; cases h
    exact hK γ w a (.refl hr.w) hr
  | o :: rest, i, s, s', a, γ, w, hl, h, hr, hf, hK => by
    simp only [runOps] at h
    split at h
    · rename_i s₁ h1
      have hi : ops[i]? = some o := by have := hl 0; simpa using this.symm
      have hmem : o ∈ ops := Array.mem_of_getElem? hi
      have hoko : okOp P.globals.size o = true := by
        rw [Array.all_eq_true'] at hok
        exact hok o hmem
      rw [List.length_cons, List.range'_succ, wpOpsIn_cons]
      -- the heap only grows
      have hmono : s.A.n ≤ s₁.A.n ∧ s₁.A.n ≤ s'.A.n := ⟨(stepOp_cstep hM h1).n, (runOps_cstep hM rest s₁ s' h).n⟩
      refine stepOp_sound hI hF hi h1 hr (fun k a b => hf k a (by omega)) hoko fun γ' w' a' hs hr' => ?_
      refine runOps_sound hI hM hF hok rest (i + 1) s₁ s' a' γ' w' (fun j => ?_) h hr' (fun k hk1 hk2 => ?_) fun γ'' w'' a'' hs' hr'' => hK γ'' w'' a'' (hs.trans hs') hr''
      · have := hl (j + 1)
        rw [show i + 1 + j = i + (j + 1) by omega, ← this]; simp
      · cases hg : γ' k with
        | none => rfl
        | some e =>
          rcases hs.dom k e hg with hx | ⟨_, hx⟩
          · rw [hf k (by omega) hk2] at hx; cases hx
          · omega
    · cases h
end Go.AM

