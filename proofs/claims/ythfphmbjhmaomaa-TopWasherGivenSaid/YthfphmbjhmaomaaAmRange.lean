/-
  AM: code whose outcome hangs on the order in which a map is walked: what holds behind it, whatever the order.
-/
import Derived.Test.YthfphmbjhmaomaaAmTrim
import Derived.Maps.RangeRun
namespace Go.AM
variable {P : Program} {γ γ' γ₀ γ₁ γ₂ : Gam} {A A' A₀ A₁ : CW} {w w' w₀ w₁ : World}

def Free (γ : Gam) (A : CW) : Prop := ∀ k, A.n ≤ k → γ k = none
theorem Free.step (h : Free γ A) (hs : Step P γ A w γ' A' w') : Free γ' A' := fun k hk => by
  cases hg : γ' k with
  | none => rfl
  | some e =>
    rcases hs.dom k e hg with h1 | ⟨_, h2⟩
    · rw [h k (Nat.le_trans hs.n hk)] at h1; cases h1
    · omega

/-- What the model's run of a piece of code comes to, whatever the order. -/
def CSound (P : Program) (F : Fence) (round : Option Nat) (c : Code) (s : St) (Q : Ex → St → Prop) : Prop :=
  ∀ (γ : Gam) (w : World) (a : Act), RoundRel γ F round → Rel P γ s w a → Free γ s.A →
    ∀ QR : Exit → Act → World → Prop, (∀ x s' γ' w' a', Q x s' → Step P γ s.A w γ' s'.A w' → Rel P γ' s' w' a' → QR (toExit x) a' w') → c.wpIn F 0 P QR a w

section
variable {F : Fence} {round : Option Nat} {ov : Ov}
theorem CSound.conseq {c : Code} {s : St} {Q Q' : Ex → St → Prop} (h : CSound P F round c s Q) (hq : ∀ x s', Q x s' → Q' x s') : CSound P F round c s Q' :=
  fun γ w a hro hr hf QR hK => h γ w a hro hr hf QR fun x s' γ' w' a' q => hK x s' γ' w' a' (hq x s' q)
theorem CSound.det (ho : OvSound P ov) (hm : P.follows .mixedOrders = true) (hP : OkProg P) (hF : WideF F) {c : Code} (hok : okCode P.globals.size c = true) {s s' : St} {x : Ex} (h : xden P ov round c s = some (x, s')) :
    CSound P F round c s fun x' s'' => x' = x ∧ s'' = s' := fun γ w a hro hr hf QR hK => by
  obtain ⟨k, hk⟩ := xden_lim h
  exact exec_sound (inv_cstep ho k) (inv_sound ho hm hP k) hm c round s s' x hk hok F hF γ w a hro hr (fun j h1 _ => hf j h1) QR fun γ' w' a' hs hr' => hK x s' γ' w' a' ⟨rfl, rfl⟩ hs hr'
theorem CSound.seq {c d : Code} {s : St} {R Q : Ex → St → Prop} (h : CSound P F round c s R) (hn : ∀ s', R .normal s' → CSound P F round d s' Q) (hx : ∀ x s', R x s' → x ≠ .normal → Q x s') : CSound P F round (.seq c d) s Q := fun γ w a hro hr hf QR hK => by
  refine wpIn_seq (h γ w a hro hr hf _ fun x s' γ' w' a' q hs hr' => ?_)
  cases x with
  | normal => exact hn s' q γ' w' a' (hro.mono hs.ext) hr' (hf.step hs) QR fun x s'' γ'' w'' a'' q' hs' hr'' => hK x s'' γ'' w'' a'' q' (hs.trans hs') hr''
  | exit id => exact hK _ s' γ' w' a' (hx _ _ q (by simp)) hs hr'
  | ret => exact hK _ s' γ' w' a' (hx _ _ q (by simp)) hs hr'
theorem CSound.block {c : Code} {id : Nat} {s : St} {R Q : Ex → St → Prop} (h : CSound P F round c s R) (hq : ∀ x s', R x s' → Q (if x = .exit id then .normal else x) s') : CSound P F round (.block id c) s Q := fun γ w a hro hr hf QR hK => by
  refine wpIn_block (h γ w a hro hr hf _ fun x s' γ' w' a' q hs hr' => ?_)
  have q' := hq x s' q
  cases x with
  | normal => exact hK .normal s' γ' w' a' (by simpa using q') hs hr'
  | exit i =>
    simp only [toExit, Exit.inBlock]
    by_cases hi : i = id
    · rw [if_pos hi]; exact hK .normal s' γ' w' a' (by simpa [hi] using q') hs hr'
    · rw [if_neg hi]; exact hK (.exit i) s' γ' w' a' (by simpa [hi] using q') hs hr'
  | ret => exact hK .ret s' γ' w' a' (by simpa using q') hs hr'
theorem CSound.cond_true {c d : Code} {o : Operand} {s : St} {Q : Ex → St → Prop} (hok : okOperand P.globals.size o = true) (he : ev s.τ o = .bool true) (h : CSound P F round c s Q) : CSound P F round (.cond o c d) s Q := fun γ w a hro hr hf QR hK => by
  have hc := ev_rel hr.t hr.w hok
  rw [he] at hc
  exact wpIn_cond_true hc.inv_bool (h γ w a hro hr hf QR hK)
theorem CSound.cond_false {c d : Code} {o : Operand} {s : St} {Q : Ex → St → Prop} (hok : okOperand P.globals.size o = true) (he : ev s.τ o = .bool false) (h : CSound P F round d s Q) : CSound P F round (.cond o c d) s Q := fun γ w a hro hr hf QR hK => by
  have hc := ev_rel hr.t hr.w hok
  rw [he] at hc
  exact wpIn_cond_false hc.inv_bool (h γ w a hro hr hf QR hK)
theorem CSound.skip {s : St} : CSound P F round .skip s fun x s' => x = .normal ∧ s' = s := fun γ w a _ hr _ _ hK => wpIn_skip (hK .normal s γ w a ⟨rfl, rfl⟩ (.refl hr.w) hr)
theorem CSound.ret {s : St} : CSound P F round .ret s fun x s' => x = .ret ∧ s' = s := fun γ w a _ hr _ _ hK => wpIn_ret (hK .ret s γ w a ⟨rfl, rfl⟩ (.refl hr.w) hr)
end

/-! ### The operations of a region, one after another, with what stands behind them -/
theorem runOps_then {I : Inv} (hI : ISound P I) (hM : IStep I) {F : Fence} (hF : WideF F) {ops : Array Oper} (hok : ops.all (okOp P.globals.size) = true) {Q : Exit → Act → World → Prop} {tail : List Nat} :
    ∀ (l : List Oper) (i : Nat) (s s' : St) (a : Act) (γ : Gam) (w : World), (∀ j o, l[j]? = some o → ops[i + j]? = some o) → runOps P I ops l s = some s' → Rel P γ s w a → Free γ s.A →
      (∀ γ' w' a', Step P γ s.A w γ' s'.A w' → Rel P γ' s' w' a' → wpOpsIn F 0 P ops Q tail a' w') → wpOpsIn F 0 P ops Q (List.range' i l.length ++ tail) a w
  | [], i, s, s', a, γ, w, _, h, hr, _, hK => by
    simp only [runOps] at h; cases h
    exact hK γ w a (.refl hr.w) hr
  | o :: rest, i, s, s', a, γ, w, hl, h, hr, hf, hK => by
    simp only [runOps] at h
    split at h
    · rename_i s₁ h1
      have hi : ops[i]? = some o := by simpa using hl 0 o (by simp)
      have hmem : o ∈ ops := Array.mem_of_getElem? hi
      have hoko : okOp P.globals.size o = true := by
        rw [Array.all_eq_true'] at hok
        exact hok o hmem
      rw [List.length_cons, List.range'_succ, List.cons_append, wpOpsIn_cons]
      refine stepOp_sound hI hF hi h1 hr (fun k a _ => hf k a) hoko fun γ' w' a' hs hr' => ?_
      exact runOps_then hI hM hF hok rest (i + 1) s₁ s' a' γ' w' (fun j o' hj => by
        have := hl (j + 1) o' (by simpa using hj)
        rw [show i + 1 + j = i + (j + 1) by omega]; exact this) h hr' (hf.step hs) fun γ'' w'' a'' hs' hr'' => hK γ'' w'' a'' (hs.trans hs') hr''
    · cases h

/-- An operation that is not one of the canonical machine's: by its run. -/
theorem op_by_run {F : Fence} (hF : WideF F) {ops : Array Oper} {i : Nat} {o : Oper} {a : Act} {Q : Exit → Act → World → Prop} {K : Act → World → Prop} (hi : ops[i]? = some o) (hg : o.guard = none) (hnd : ∀ c, o.op ≠ .defer c)
    {v : Value} {w w' : World} (hrun : (execOp a.eval o).run P w = .ok (.value v) w') (hK : K (a.put o.dst v) w') : wpOpIn F 0 P ops Q i K a w := by
  unfold wpOpIn
  simp only [hi, Region.wanted, hg, if_true]
  refine ⟨fun f _ => hF.fn f, ?_⟩
  rw [Oper.semAt_eq _ _ _ hnd]
  refine Up.upon hF ?_
  rw [hrun]
  exact hK

/-! ### The iterator's block -/
/-- The block of an iterator: nothing that lives stands for it. -/
structure Iter (γ : Gam) (A : CW) (w : World) (it b : Nat) : Prop where
  at_ : γ it = some ⟨b, 0, 0, 0, false⟩
  only : ∀ k e, γ k = some e → e.b = b → k < A.n ∧ harmless (A.get k) = true
theorem harm_keep (hs : Step P γ A w γ' A' w') {k : Nat} (hk : k < A.n) (hh : harmless (A.get k) = true) : A'.get k = A.get k := by
  cases hx : A.get k with
  | dead => have := hs.le k hk; rw [hx] at this; exact this.dead
  | cells vs t lo ro ver =>
    rw [← hx]
    refine hs.ro k hk ?_
    rw [hx] at hh ⊢
    cases ro with
    | true => rfl
    | false => cases vs <;> simp [harmless] at hh
  | map => rw [hx] at hh; simp [harmless] at hh
  | siter => rw [hx] at hh; simp [harmless] at hh
  | loop => rw [hx] at hh; simp [harmless] at hh
  | dfr => rw [hx] at hh; simp [harmless] at hh
theorem Iter.step {it b : Nat} (h : Iter γ A w it b) {o : Obj} (ho : w.heap[b]? = some o) (hn : notCells o = true) (hs : Step P γ A w γ' A' w') : Iter γ' A' w' it b ∧ w'.heap[b]? = some o := by
  have hlt : b < w.heap.size := (Array.getElem?_eq_some_iff.1 ho).1
  have hsame : w'.heap[b]? = some o := by
    rw [hs.wfr b hlt fun k e hg he hk => harm_keep hs hk (h.only k e hg he).2]; exact ho
  refine ⟨⟨hs.ext _ _ h.at_, fun k e hg he => ?_⟩, hsame⟩
  cases hk : γ k with
  | some e' =>
    have : e' = e := by have := hs.ext k e' hk; rw [hg] at this; exact (Option.some.inj this).symm
    subst this
    obtain ⟨h1, h2⟩ := h.only k e' hk he
    have := hs.n
    exact ⟨by omega, by rw [harm_keep hs h1 h2]; exact h2⟩
  | none =>
    obtain ⟨k₀, e₀, h1, h2, h3, h4⟩ := hs.old k e hg hk (by rw [he]; exact hlt)
    have h5 := (h.only k₀ e₀ h1 (by rw [h3, he])).2
    rcases h4 with h4 | h4
    · exact absurd (harm_keep hs h2 h5) h4
    · have hkn : k < A'.n := by
        rcases hs.dom k e hg with hx | ⟨_, hx⟩
        · rw [hk] at hx; cases hx
        · exact hx
      refine ⟨hkn, ?_⟩
      have hor := hs.rel.obj k e hg hkn
      rw [he, hsame] at hor
      cases hx : A'.get k with
      | dead => rfl
      | cells vs t lo ro ver =>
        rw [hx] at hor h4
        obtain ⟨_, _, hor⟩ := hor
        rcases hor with ⟨rfl, rfl⟩ | ⟨cs, t', fr, h6, _⟩
        · rfl
        · cases h6; simp [notCells] at hn
      | _ => rw [hx] at h4; simp [isRo] at h4

/-- The iterator moves on: nothing else has turned. -/
theorem Step.move (hs : Step P γ₀ A₀ w₀ γ A w) {it b : Nat} (hi : Iter γ A w it b) (hb : w₀.heap.size ≤ b) {o o' : Obj} (ho : w.heap[b]? = some o) (hn : notCells o = true) (hn' : notCells o' = true) (hh : w'.heap = w.heap.setIfInBounds b o') (hq : Quiet w w') :
    Step P γ₀ A₀ w₀ γ A w' ∧ Iter γ A w' it b ∧ w'.heap[b]? = some o' := by
  have hlt : b < w.heap.size := (Array.getElem?_eq_some_iff.1 ho).1
  have hne : ∀ j, j ≠ b → w'.heap[j]? = w.heap[j]? := fun j hj => by rw [hh, Array.getElem?_setIfInBounds, if_neg (fun h => hj h.symm)]
  have hsz : w'.heap.size = w.heap.size := by rw [hh]; simp
  refine ⟨⟨hs.calm.trans (.setObj ho hn hn' hh hq), hs.ext, hs.dom, hs.fresh, ⟨fun k e hk hkn => ?_, hs.rel.sep, fun k e hk => ?_, hs.rel.glob, hs.rel.wf⟩, hs.n, hs.cfr, hs.le, hs.ro, by rw [hsz]; exact hs.size, hs.old, fun j hj hall => ?_⟩,
    ⟨hi.at_, hi.only⟩, by rw [hh]; simp [hlt]⟩
  · have hor := hs.rel.obj k e hk hkn
    by_cases he : e.b = b
    · exact OR.of_harmless (hi.only k e hk he).2 hor
    · rw [hne _ he]; exact hor
  · rcases hs.rel.blk k e hk with h1 | h1
    · exact .inl (by rw [hsz]; exact h1)
    · exact .inr h1
  · rw [hne j (by omega)]; exact hs.wfr j hj hall

theorem Iter.of_heap {it b : Nat} (h : Iter γ A w it b) : Iter γ A w' it b := ⟨h.at_, h.only⟩

/-! ### 'for k, v := range m' -/
/-- The round's first operations: the next entry, as the canonical machine has it. -/
def roundSt (s : St) (tn t te : Tmp) (e : MapEntry) : St :=
  { s with τ := ((s.τ.set tn (.tuple #[.bool true, e.key, e.val])).set t (.bool true)).set te (.tuple #[e.key, e.val]) }
def endSt (s : St) (tn t : Tmp) : St := { s with τ := (s.τ.set tn (.tuple #[.bool false])).set t (.bool false) }

structure RangeShape (c : Code) (T : TypeId) (m d tn t te : Tmp) (pre : List Oper) (opsR opsN opsE : Array Oper) (eops : List Oper) (id j : Nat) (body : Code) : Prop where
  code : ∃ r rn re oR oN oX oE, c = .seq (.region r opsR false) (.block id (.loop (.seq (.region rn opsN false) (.seq (.cond (.tmp t) .skip (.exit id)) (.block j (.seq (.region re opsE false) body)))))) ∧
    opsR.toList = pre ++ [oR] ∧ oR.op = .range T (.tmp m) ∧ oR.dst = some d ∧ oR.guard = none ∧
    opsN.toList = [oN, oX] ∧ oN.op = .next (.tmp d) false ∧ oN.dst = some tn ∧ oN.guard = none ∧ oX.op = .extract (.tmp tn) 0 ∧ oX.dst = some t ∧ oX.guard = none ∧
    opsE.toList = oE :: eops ∧ oE.op = .entry (.tmp d) ∧ oE.dst = some te ∧ oE.guard = none

theorem exec_range_run {a : Act} {o : Oper} {T : TypeId} {m : Tmp} (hop : o.op = .range T (.tmp m)) {k e : TypeId} (ht : P.underlying T = some (.map k e)) {b : Nat} {es : Array MapEntry} {clock : Nat} (hm : a.eval (.tmp m) = .map (some b)) (hb : w.heap[b]? = some (.map es clock)) :
    (execOp a.eval o).run P w = .ok (.value (.pointer (some ⟨w.heap.size, 0, none⟩))) { w with heap := w.heap.push (.mapIter (some b) clock #[] clock) } := by
  have := run_range_map (P := P) w T k e b es clock ht hb
  simp only [execOp, hop, hm, Sem.run_bind, this, Result.andThen]
  rfl
theorem exec_next_run {a : Act} {o : Oper} {d : Tmp} (hop : o.op = .next (.tmp d) false) {it : Value} (hd : a.eval (.tmp d) = it) {v : Value} (h : (Instr.next it false o.type).run P w = .ok v w') : (execOp a.eval o).run P w = .ok (.value v) w' := by
  simp only [execOp, hop, hd, Sem.run_bind, h, Result.andThen]
  rfl
theorem exec_entry_run {a : Act} {o : Oper} {d : Tmp} (hop : o.op = .entry (.tmp d)) {it : Value} (hd : a.eval (.tmp d) = it) {v : Value} (h : (Instr.entry it).run P w = .ok v w') : (execOp a.eval o).run P w = .ok (.value v) w' := by
  simp only [execOp, hop, hd, Sem.run_bind, h, Result.andThen]
  rfl
theorem exec_extract_run {a : Act} {o : Oper} {d : Tmp} {i : Nat} (hop : o.op = .extract (.tmp d) i) {vs : Array Value} (hd : a.eval (.tmp d) = .tuple vs) {v : Value} (h : vs[i]? = some v) : (execOp a.eval o).run P w = .ok (.value v) w := by
  simp [execOp, hop, hd, Instr.extract, h]

theorem Rel.put' {s : St} {a : Act} {d : Tmp} {v v' : Value} (hr : Rel P γ s w a) (hv : VR γ v v') (hd : d < s.nt) : Rel P γ { s with τ := s.τ.set d v } w (a.put (some d) v') :=
  ⟨hr.w, hr.t.set hv hd, hr.d⟩
theorem Rel.world {s : St} {a : Act} (hr : Rel P γ s w a) (hw : WRel P γ s.A w') : Rel P γ s w' a := ⟨hw, hr.t, hr.d⟩
theorem Rel.eval {s : St} {a : Act} (hr : Rel P γ s w a) (t : Tmp) : VR γ (ev s.τ (.tmp t)) (a.eval (.tmp t)) := ev_rel hr.t hr.w rfl
end Go.AM

/-
  AM: 'for k, v := range m', whatever the order: an invariant over the entries that have been handed out.
-/
namespace Go.AM
variable {P : Program} {F : Fence} {round : Option Nat} {ov : Ov}

theorem born_inj {es : List MapEntry} (hnd : (es.map (·.born)).Nodup) {x y : MapEntry} (hx : x ∈ es) (hy : y ∈ es) (h : x.born = y.born) : x = y := by
  induction es with
  | nil => cases hx
  | cons z es ih =>
    simp only [List.map_cons, List.nodup_cons, List.mem_map] at hnd
    rcases List.mem_cons.1 hx with rfl | hx'
    · rcases List.mem_cons.1 hy with rfl | hy'
      · rfl
      · exact absurd ⟨y, hy', h.symm⟩ hnd.1
    · rcases List.mem_cons.1 hy with rfl | hy'
      · exact absurd ⟨x, hx', h⟩ hnd.1
      · exact ih hnd.2 hx' hy'

theorem CSound.range (ho : OvSound P ov) (hm : P.follows .mixedOrders = true) (hP : OkProg P) (hF : WideF F) {c : Code} {Tm kt et : TypeId} {m d tn t te : Tmp} {pre : List Oper} {opsR opsN opsE : Array Oper} {eops : List Oper} {id j : Nat} {body : Code}
    (hc : RangeShape c Tm m d tn t te pre opsR opsN opsE eops id j body) (hok : okCode P.globals.size c = true) (hT : P.underlying Tm = some (.map kt et))
    {s0 s1 : St} (hpre : runOps P (den P ov) opsR pre s0 = some s1) {k : Nat} (hk : ev s1.τ (.tmp m) = .map (some k)) {es : List MapEntry} {clock ver : Nat} (hmap : s1.A.get k = .map es clock ver)
    (hclk : ∀ e ∈ es, e.born < clock) (hnd : (es.map (·.born)).Nodup) (hfl : ∀ e ∈ es, flatB e.key = true) (hd : d < s1.nt) (htn : tn < s1.nt) (ht : t < s1.nt) (hte : te < s1.nt) (hdt : tn ≠ d ∧ t ≠ d ∧ t ≠ tn)
    (Inv : List MapEntry → St → Prop) (h0 : Inv [] { s1 with τ := s1.τ.set d (.pointer (some ⟨s1.A.n, 0, none⟩)), A := s1.A.push .dead })
    (hinv : ∀ done s, Inv done s → s.nt = s1.nt ∧ s.τ.get d = some (.pointer (some ⟨s1.A.n, 0, none⟩)) ∧ s.A.get k = .map es clock ver)
    (hstep : ∀ done s e, Inv done s → e ∈ es → e.born ∉ done.map (·.born) → ∃ s2 s3 x, runOps P (den P ov) opsE eops (roundSt s tn t te e) = some s2 ∧ xden P ov round body s2 = some (x, s3) ∧ (x = .normal ∨ x = .exit j) ∧ Inv (done ++ [e]) s3)
    {Q : Ex → St → Prop} (hend : ∀ done s, Inv done s → done.Perm es → Q .normal (endSt s tn t)) : CSound P F round c s0 Q := by
  obtain ⟨r, rn, re, oR, oN, oX, oE, rfl, hR, oR1, oR2, oR3, hN, oN1, oN2, oN3, oX1, oX2, oX3, hE, oE1, oE2, oE3⟩ := hc.code
  intro γ₀ w₀ a₀ hro hr hf QR hK
  simp only [okCode, Bool.and_eq_true] at hok
  obtain ⟨hokR, hokN, _, hokE, hokB⟩ := hok
  obtain ⟨n0, hn0⟩ := runOps_lim _ _ _ hpre
  refine wpIn_seq (wpIn_region ?_)
  have hRs : opsR.size = pre.length + 1 := by rw [← Array.length_toList, hR]; simp
  have hRg : ∀ (i : Nat), opsR[i]? = (pre ++ [oR])[i]? := fun i => by rw [← hR]; simp
  rw [hRs, List.range_succ, List.range_eq_range']
  refine runOps_then (inv_sound ho hm hP n0) (inv_cstep ho n0) hF hokR pre 0 s0 s1 a₀ γ₀ w₀ (fun j o hj => by rw [Nat.zero_add, hRg, List.getElem?_append_left (List.getElem?_eq_some_iff.1 hj).1]; exact hj) hn0 hr hf fun γ₁ w₁ a₁ hs₁ hr₁ => ?_
  rw [wpOpsIn_cons]
  have hkv := hr₁.eval m
  rw [hk] at hkv
  have hkx : ∃ ek, γ₁ k = some ek ∧ a₁.eval (.tmp m) = .map (some ek.b) := by
    generalize a₁.eval (.tmp m) = v at hkv
    cases hkv with | map h => exact ⟨_, h, rfl⟩
  obtain ⟨ek, hek, hevm⟩ := hkx
  have hkn : k < s1.A.n := CW.lt_of_live hr₁.w (by rw [hmap]; simp)
  have hor := hr₁.w.obj k ek hek hkn
  rw [hmap] at hor
  obtain ⟨es1, hb1, _, _⟩ := hor
  have hf₁ := hf.step hs₁
  refine op_by_run hF (by rw [hRg]; simp) oR3 (fun c h => by rw [oR1] at h; cases h) (exec_range_run oR1 hT hevm hb1) ?_
  -- the iterator's block
  have hpush := Step.push hr₁.w .dead (.mapIter (some ek.b) clock #[] clock) ⟨w₁.heap.size, 0, 0, 0, false⟩ rfl (hf₁ _ (Nat.le_refl _)) trivial (w' := { w₁ with heap := w₁.heap.push (.mapIter (some ek.b) clock #[] clock) }) rfl
  have hit : Iter (addG γ₁ s1.A.n ⟨w₁.heap.size, 0, 0, 0, false⟩) (s1.A.push .dead) { w₁ with heap := w₁.heap.push (.mapIter (some ek.b) clock #[] clock) } s1.A.n w₁.heap.size := by
    refine ⟨addG_self γ₁ s1.A.n _, fun k' e' hg he => ?_⟩
    by_cases hk' : k' = s1.A.n
    · subst hk'; rw [CW.get_push_self]; exact ⟨by simp, rfl⟩
    · rw [addG_ne _ _ hk'] at hg
      rcases hr₁.w.blk k' e' hg with h1 | ⟨h1, h2⟩
      · omega
      · rw [CW.get_push_ne _ _ hk']; exact ⟨by simp; omega, h2⟩
  have hsz0 : w₀.heap.size ≤ w₁.heap.size := hs₁.size
  have hrp : Rel P (addG γ₁ s1.A.n ⟨w₁.heap.size, 0, 0, 0, false⟩) { s1 with A := s1.A.push .dead } { w₁ with heap := w₁.heap.push (.mapIter (some ek.b) clock #[] clock) } a₁ :=
    ⟨hpush.rel, hr₁.t.mono hpush.ext, hr₁.d.mono hpush.ext⟩
  have hrd := hrp.put' (d := d) (v := .pointer (some ⟨s1.A.n, 0, none⟩)) (v' := .pointer (some ⟨w₁.heap.size, 0, none⟩)) (.ptr (e := ⟨w₁.heap.size, 0, 0, 0, false⟩) (addG_self γ₁ s1.A.n _) (fun h => by cases h)) hd
  rw [oR2]
  show Code.wpIn F 0 P _ QR _ _
  refine wpIn_block (wpIn_loop_rounds (es.length + 1) ?_)
  have key : ∀ (n : Nat) (done left : List MapEntry) (seen : Array Nat) (s : St) (γ : Gam) (w : World) (a : Act), left.length < n → es.Perm (done ++ left) → (∀ x ∈ es, seen.contains x.born = true ↔ x.born ∈ done.map (·.born)) → Inv done s →
      Step P γ₀ s0.A w₀ γ s.A w → Rel P γ s w a → Free γ s.A → Iter γ s.A w s1.A.n w₁.heap.size → RoundRel γ F round → γ k = some ek → w.heap[w₁.heap.size]? = some (.mapIter (some ek.b) clock seen clock) →
      Code.roundsIn F 0 P (.seq (.region rn opsN false) (.seq (.cond (.tmp t) .skip (.exit id)) (.block j (.seq (.region re opsE false) body)))) (Exit.inBlock id QR) n a w := by
    intro n
    induction n with
    | zero => intro done left seen s γ w a h; omega
    | succ n ih =>
      intro done left seen s γ w a hlen hperm hseen hI hs hr hf hit hro hek hw
      obtain ⟨i1, i2, i3⟩ := hinv done s hI
      rw [roundsIn_succ]
      refine wpIn_seq (wpIn_region ?_)
      have hNs : opsN.size = 2 := by rw [← Array.length_toList, hN]; rfl
      have hNg : ∀ (i : Nat), opsN[i]? = [oN, oX][i]? := fun i => by rw [← hN]; simp
      rw [hNs, show List.range 2 = [0, 1] from rfl, wpOpsIn_cons]
      have hkn' : k < s.A.n := CW.lt_of_live hr.w (by rw [i3]; simp)
      have hor := hr.w.obj k ek hek hkn'
      rw [i3] at hor
      obtain ⟨es', hb, hsz, hpt⟩ := hor
      have hbn : ek.b ≠ w₁.heap.size := fun h => by rw [h, hw] at hb; cases hb
      have hel : ∀ x ∈ es'.toList, ∃ en ∈ es, x.key = en.key ∧ x.born = en.born ∧ VR γ en.val x.val := fun x hx => by
        obtain ⟨i, hi⟩ := List.mem_iff_getElem?.1 hx
        have hi' : es'[i]? = some x := by simpa using hi
        have hlt : i < es.length := by rw [← hsz]; exact (Array.getElem?_eq_some_iff.1 hi').1
        obtain ⟨en', h1, h2, h3, h4⟩ := hpt i es[i] (by simp [hlt])
        rw [hi'] at h1; cases h1
        exact ⟨es[i], List.getElem_mem hlt, h2, h3, h4⟩
      have hle : ∀ en ∈ es, ∃ x ∈ es'.toList, x.born = en.born := fun en hen => by
        obtain ⟨i, hi⟩ := List.mem_iff_getElem?.1 hen
        obtain ⟨en', h1, h2, h3, h4⟩ := hpt i en hi
        exact ⟨en', List.mem_iff_getElem?.2 ⟨i, by simpa using h1⟩, h3⟩
      have hnd' : (es'.toList.map (·.born)).Nodup := by
        have : es'.toList.map (·.born) = es.map (·.born) := by
          refine List.ext_getElem? fun i => ?_
          rw [List.getElem?_map, List.getElem?_map]
          cases hi : es[i]? with
          | none =>
            have : es.length ≤ i := List.getElem?_eq_none_iff.1 hi
            rw [List.getElem?_eq_none (by simp; omega)]
          | some en =>
            obtain ⟨en', h1, h2, h3, h4⟩ := hpt i en hi
            rw [show es'.toList[i]? = some en' by simpa using h1]
            simp [h3]
        rw [this]; exact hnd
      have hitv : a.eval (.tmp d) = .pointer (some ⟨w₁.heap.size, 0, none⟩) := by
        have := hr.eval d
        simp only [ev, i2, Option.getD_some] at this
        generalize a.eval (.tmp d) = v at this
        cases this with
        | ptr h1 _ => rw [hit.at_] at h1; cases h1; rfl
      have htn' : tn < s.nt := by rw [i1]; exact htn
      have ht' : t < s.nt := by rw [i1]; exact ht
      have hte' : te < s.nt := by rw [i1]; exact hte
      rcases run_next_at (P := P) w oN.type w₁.heap.size ek.b clock clock seen es' clock hw hb (fun x hx => by obtain ⟨en, h1, _, h3, _⟩ := hel x hx; rw [h3]; exact hclk en h1) (Nat.le_refl _) with ⟨hz, hrun⟩ | ⟨e', he', w2, hal, hrun⟩
      · -- none is left
        refine op_by_run hF (by rw [hNg]; rfl) oN3 (fun c h => by rw [oN1] at h; cases h) (exec_next_run oN1 hitv hrun) ?_
        have hr1 := hr.put' (d := tn) (v := .tuple #[.bool false]) (v' := .tuple #[.bool false]) (.of_flat γ _ rfl) htn'
        rw [wpOpsIn_cons, oN2]
        have hx := hr1.eval tn
        simp only [ev, T.get_set_self, Option.getD_some] at hx
        have hx' := flat_eq hx rfl
        refine op_by_run hF (by rw [hNg]; rfl) oX3 (fun c h => by rw [oX1] at h; cases h) (exec_extract_run oX1 hx' (v := .bool false) rfl) ?_
        have hr2 := hr1.put' (d := t) (v := .bool false) (v' := .bool false) (.bool _) ht'
        rw [oX2]
        have hdone : done.Perm es := by
          have hl : left = [] := by
            cases left with
            | nil => rfl
            | cons x left =>
              have hxe : x ∈ es := hperm.symm.subset (by simp)
              obtain ⟨x', hx1, hx2⟩ := hle x hxe
              have hsx : seen.contains x.born = true := by
                rw [← hx2]
                cases hs : seen.contains x'.born with
                | true => rfl
                | false =>
                  have : x' ∈ (leftOf es' seen).toList := by
                    unfold leftOf
                    simp only [Array.toList_filter, List.mem_filter]
                    exact ⟨hx1, by rw [hs]; rfl⟩
                  have h0 : (leftOf es' seen).toList = [] := List.eq_nil_of_length_eq_zero (by simpa using hz)
                  rw [h0] at this; cases this
              have := (hseen x hxe).1 hsx
              have hnd2 : ((done ++ x :: left).map (·.born)).Nodup := (hperm.map _).nodup_iff.1 hnd
              simp only [List.map_append, List.map_cons] at hnd2
              exact absurd this (fun h => (List.nodup_append.1 hnd2).2.2 _ h _ (by simp) rfl)
          rw [hl] at hperm
          simpa using hperm.symm
        have hq := hK .normal (endSt s tn t) γ w _ (hend done s hI hdone) hs hr2
        show Exit.then _ _ .normal _ _
        simp only [Exit.then]
        refine wpIn_seq (wpIn_cond_false ?_ (wpIn_exit ?_))
        · have := hr2.eval t
          simp only [ev, T.get_set_self, Option.getD_some] at this
          exact this.inv_bool
        · simp only [Exit.then, Exit.inBlock, if_true]
          exact hq
      · -- an entry
        obtain ⟨hem, hes⟩ : e' ∈ es'.toList ∧ seen.contains e'.born = false := by
          unfold leftOf at he'
          simp only [Array.toList_filter, List.mem_filter] at he'
          exact ⟨he'.1, by simpa using he'.2⟩
        obtain ⟨en, hen, hkey, hborn, hval⟩ := hel e' hem
        refine op_by_run hF (by rw [hNg]; rfl) oN3 (fun c h => by rw [oN1] at h; cases h) (exec_next_run oN1 hitv hrun) ?_
        obtain ⟨hs2, hit2, hw2⟩ := Step.move (o' := .mapIter (some ek.b) clock (seen.push e'.born) clock) hs hit hsz0 hw rfl rfl (w' := ChangeMaps.setBlock w2 w₁.heap.size (.mapIter (some ek.b) clock (seen.push e'.born) clock))
          (by rcases hal with rfl | rfl <;> rfl) (by rcases hal with rfl | rfl <;> exact ⟨rfl, rfl⟩)
        generalize hW : ChangeMaps.setBlock w2 w₁.heap.size (.mapIter (some ek.b) clock (seen.push e'.born) clock) = w3 at hs2 hit2 hw2
        have hb3 : w3.heap[ek.b]? = some (.map es' clock) := by
          rw [← hW]
          show (w2.heap.setIfInBounds _ _)[ek.b]? = _
          rw [Array.getElem?_setIfInBounds, if_neg (fun h => hbn h.symm)]
          rcases hal with rfl | rfl <;> exact hb
        have hr0 : Rel P γ s w3 a := hr.world hs2.rel
        have hvt : VR γ (.tuple #[.bool true, en.key, en.val]) (.tuple #[.bool true, e'.key, e'.val]) := by
          rw [hkey]
          refine VR.tupleL ?_
          have hkf : VR γ en.key en.key := .of_flat γ _ (hfl en hen)
          exact .cons (.bool _) (.cons hkf (.cons hval .nil))
        have hr1 := hr0.put' (d := tn) hvt htn'
        rw [wpOpsIn_cons, oN2]
        have hx := hr1.eval tn
        simp only [ev, T.get_set_self, Option.getD_some] at hx
        have hxt : ∃ us, ((a.put (some tn) (.tuple #[.bool true, e'.key, e'.val])).eval (.tmp tn)) = .tuple us ∧ us[0]? = some (.bool true) := by
          generalize (a.put (some tn) (.tuple #[.bool true, e'.key, e'.val])).eval (.tmp tn) = v at hx
          obtain ⟨us, rfl, hus⟩ := hx.inv_tuple
          obtain ⟨v', h1, h2⟩ := hus.2 0 (.bool true) rfl
          rw [h2.inv_bool] at h1
          exact ⟨us, rfl, by simpa using h1⟩
        obtain ⟨us, hx', hx0⟩ := hxt
        refine op_by_run hF (by rw [hNg]; rfl) oX3 (fun c h => by rw [oX1] at h; cases h) (exec_extract_run oX1 hx' hx0) ?_
        have hr2 := hr1.put' (d := t) (v := .bool true) (v' := .bool true) (.bool _) ht'
        rw [oX2]
        show Exit.then _ _ .normal _ _
        simp only [Exit.then]
        refine wpIn_seq (wpIn_cond_true ?_ (wpIn_skip ?_))
        · have := hr2.eval t
          simp only [ev, T.get_set_self, Option.getD_some] at this
          exact this.inv_bool
        · simp only [Exit.then]
          refine wpIn_block (wpIn_seq (wpIn_region ?_))
          have hEs : opsE.size = eops.length + 1 := by rw [← Array.length_toList, hE]; simp
          have hEg : ∀ (i : Nat), opsE[i]? = (oE :: eops)[i]? := fun i => by rw [← hE]; simp
          rw [hEs, List.range_eq_range', List.range'_succ, wpOpsIn_cons]
          have hd2 := hr2.eval d
          have hdv : ((a.put (some tn) (.tuple #[.bool true, e'.key, e'.val])).put (some t) (.bool true)).eval (.tmp d) = .pointer (some ⟨w₁.heap.size, 0, none⟩) := by
            simp only [ev, T.get_set_ne _ _ (fun h => hdt.2.1 h.symm), T.get_set_ne _ _ (fun h => hdt.1 h.symm), i2, Option.getD_some] at hd2
            generalize ((a.put (some tn) (.tuple #[.bool true, e'.key, e'.val])).put (some t) (.bool true)).eval (.tmp d) = v at hd2
            cases hd2 with
            | ptr h1 _ => rw [hit.at_] at h1; cases h1; rfl
          have hent := run_entry_at (P := P) w3 w₁.heap.size ek.b clock seen es' clock e' hw2 hb3 hem hnd'
          refine op_by_run hF (by rw [hEg]; rfl) oE3 (fun c h => by rw [oE1] at h; cases h) (exec_entry_run oE1 hdv hent) ?_
          have hvt2 : VR γ (.tuple #[en.key, en.val]) (.tuple #[e'.key, e'.val]) := by
            obtain ⟨us', h1, h2⟩ := hvt.inv_tuple
            cases h1
            obtain ⟨_, _, e1, _, h3⟩ := h2.inv_cons
            cases e1
            exact VR.tupleL h3
          have hr3 := hr2.put' (d := te) hvt2 hte'
          rw [oE2]
          have hnot : en.born ∉ done.map (·.born) := fun h => by
            have := (hseen en hen).2 h
            rw [← hborn, hes] at this; cases this
          obtain ⟨s2, s3, x, hrunE, hbody, hxx, hI'⟩ := hstep done s en hI hen hnot
          obtain ⟨n1, hn1⟩ := runOps_lim _ _ _ hrunE
          obtain ⟨n2, hn2⟩ := xden_lim hbody
          obtain ⟨l1, l2, hl12⟩ : ∃ l1 l2, left = l1 ++ en :: l2 := by
            have := hperm.subset hen
            rcases List.mem_append.1 this with h | h
            · exact absurd (List.mem_map_of_mem h) hnot
            · exact List.append_of_mem h
          have := runOps_then (inv_sound ho hm hP n1) (inv_cstep ho n1) hF hokE (tail := []) (Q := Exit.then (Code.wpIn F 0 P body (Exit.inBlock j (Exit.then (Code.roundsIn F 0 P (.seq (.region rn opsN false) (.seq (.cond (.tmp t) .skip (.exit id)) (.block j (.seq (.region re opsE false) body)))) (Exit.inBlock id QR) n) (Exit.inBlock id QR)))) (Exit.inBlock j (Exit.then (Code.roundsIn F 0 P (.seq (.region rn opsN false) (.seq (.cond (.tmp t) .skip (.exit id)) (.block j (.seq (.region re opsE false) body)))) (Exit.inBlock id QR) n) (Exit.inBlock id QR))))
            eops 1 (roundSt s tn t te en) s2 _ γ w3 (fun i o hi => by rw [hEg, Nat.add_comm]; simpa using hi) hn1 hr3 hf fun γ4 w4 a4 hs4 hr4 => ?_
          · rw [List.append_nil] at this
            exact this
          · show Exit.then _ _ .normal _ _
            simp only [Exit.then]
            have hf4 := hf.step hs4
            obtain ⟨hit4, hw4⟩ := hit2.step hw2 rfl hs4
            refine exec_sound (inv_cstep ho n2) (inv_sound ho hm hP n2) hm body round s2 s3 x hn2 hokB F hF γ4 w4 a4 (hro.mono hs4.ext) hr4 (fun j h1 _ => hf4 j h1) _ fun γ5 w5 a5 hs5 hr5 => ?_
            obtain ⟨hit5, hw5⟩ := hit4.step hw4 rfl hs5
            have hnext := ih (done ++ [en]) (l1 ++ l2) (seen.push e'.born) s3 γ5 w5 a5 (by rw [hl12] at hlen; simp at hlen ⊢; omega)
              (by rw [hl12] at hperm; refine hperm.trans ?_; rw [List.append_assoc]; exact List.Perm.append_left done (by simp))
              (fun y hy => by
                rw [List.map_append, List.mem_append, ← hseen y hy]
                simp only [Array.contains_push, Bool.or_eq_true, beq_iff_eq, List.map_cons, List.map_nil, List.mem_singleton]
                rw [hborn])
              hI' ((hs2.trans hs4).trans hs5) hr5 (hf4.step hs5) hit5 (hro.mono (hs4.ext.trans hs5.ext)) (hs5.ext _ _ (hs4.ext _ _ hek)) hw5
            rcases hxx with rfl | rfl
            · exact hnext
            · simp only [toExit, Exit.inBlock, if_true]
              exact hnext
  refine key (es.length + 1) [] es #[] _ _ _ _ (by omega) (by simp) (fun x _ => by simp) h0 (hs₁.trans hpush) hrd (hf₁.step hpush) hit.of_heap (hro.mono (hs₁.ext.trans hpush.ext)) (hpush.ext _ _ hek) (by simp)
end Go.AM

/-
  AM: contracts of functions whose code walks a map.
-/
namespace Go.AM
variable {P : Program} {ov : Ov}

theorem OvSound.addC (ho : OvSound P ov) {f : FuncId} {fn : Func} {body : Code} (hfn : P.funcs[f]? = some fn) (hb : fn.body = some body) (hent : enters P f = true) {c : Array Value → CW → Option (Value × CW)}
    (hst : ∀ args A v A', c args A = some (v, A') → CStep A A')
    (hc : ∀ args A v A', c args A = some (v, A') → ∃ argsS As ρs S, TrimPre P args A argsS As ρs S ∧ argsS.size ≤ fn.ntmps ∧
      CSound P Fence.wide Option.none body { τ := initT argsS.toList, nt := fn.ntmps, A := As, dfr := [] } fun x s => ∃ v1 A1 ρ, leaveK P fn (some (x, s)) = some (v1, A1) ∧ TrimOk P args A v A' argsS As v1 A1 ρs ρ S) :
    OvSound P (ov.add f c) := by
  refine ⟨fun g c' hg args A v A' h => ?_, fun g c' hg F hF args A v A' h γ w args' hw hf ha => ?_⟩
  · unfold Ov.add at hg
    split at hg
    · cases hg; exact hst args A v A' h
    · exact ho.step g c' hg args A v A' h
  · unfold Ov.add at hg
    split at hg
    · rename_i hgf
      cases hg
      subst hgf
      obtain ⟨argsS, As, ρs, S, hpre, hsz, hcs⟩ := hc args A v A' h
      obtain ⟨h1, h2, h3⟩ := trim_pre hpre hw ha
      rw [enters_run hent]
      refine CallsIn.ofWide hF (callsIn_of_wp_marks hfn hb trivial ?_)
      refine hcs (restr γ ρs S) w { tmps := args' ++ Array.replicate (fn.ntmps - args'.size) undef, defers := [] } rfl ⟨h1, .init h2 hsz, trivial⟩ (fun k hk => h3 k hk) _ fun x s' γ' w' a' hq hs hr' => ?_
      obtain ⟨v1, A1, ρ, hlv, htr⟩ := hq
      have hl : ∀ (hx : ∀ id, x ≠ .exit id), LeavesInM Fence.wide 0 P fn a'.tmps (fun e w'' => ∃ v', e = .returned v' ∧ ∃ γ', Step P γ A w γ' A' w'' ∧ VR γ' v v') a'.defers .returning w' := fun hx => by
        have hsh : ∃ A1', shut s'.dfr s'.A = some A1' ∧ (resultOf P A1' s'.τ fn.results.toList) = some v1 ∧ A1' = A1 := by
          cases x with
          | exit id => exact absurd rfl (hx id)
          | normal =>
            simp only [leaveK] at hlv
            split at hlv
            · rename_i B hB
              obtain ⟨u, hu, e⟩ := Option.map_eq_some_iff.1 hlv
              cases e
              exact ⟨_, hB, hu, rfl⟩
            · cases hlv
          | ret =>
            simp only [leaveK] at hlv
            split at hlv
            · rename_i B hB
              obtain ⟨u, hu, e⟩ := Option.map_eq_some_iff.1 hlv
              cases e
              exact ⟨_, hB, hu, rfl⟩
            · cases hlv
        obtain ⟨A1', hB, hu, rfl⟩ := hsh
        refine shut_sound s'.dfr a'.defers s'.A A1' w' hB hr'.w hr'.d fun w'' hs' => ?_
        obtain ⟨v', g1, g2⟩ := resultOf_sound hs'.rel hr'.t hu
        exact ⟨v', g1, v', rfl, trim_post htr hw hf γ' w'' v' (hs.trans hs') g2⟩
      cases x with
      | normal => exact hl (fun id h => by cases h)
      | ret => exact hl (fun id h => by cases h)
      | exit id => simp [leaveK] at hlv
    · exact ho.sound g c' hg F hF args A v A' h γ w args' hw hf ha
end Go.AM
