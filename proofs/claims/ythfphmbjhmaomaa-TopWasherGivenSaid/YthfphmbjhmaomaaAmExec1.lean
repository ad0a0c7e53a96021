/-
  AM: code: what the evaluator says of a piece of code holds of the model's runs of it. First the parts: scopes, loops' records, marks, results.
-/
import Derived.Test.YthfphmbjhmaomaaAmRegion1
import Derived.LoopNIn
import Derived.Scope
namespace Go.AM
variable {P : Program} {γ γ' γ₀ : Gam} {A A' A₀ : CW} {w w' w₀ : World}

theorem stepR_scope {b : Frame} {a : Act} {k : List Item} {cs : List Frame} {c : Code} : step P (lone (b.atR a (.code (.scope c) :: k)) cs w) = .next (lone (b.atR a (.code c :: .inScope c :: k)) cs w) :=
  step_lone_go (by simp [stepG, stepG.exec, Frame.atR])
theorem stepR_inScope {b : Frame} {a : Act} {k : List Item} {cs : List Frame} {c : Code} : step P (lone (b.atR a (.inScope c :: k)) cs w) = .next (lone (b.atR a k) cs w) :=
  step_lone_go (by simp [stepG, stepG.exec, Frame.atR])
theorem wpIn_scope {F : Fence} {n : Nat} {a : Act} {Q : Exit → Act → World → Prop} {c : Code} (h : c.wpIn F n P (Exit.noGoto Q) a w) : (Code.scope c).wpIn F n P Q a w := by
  intro b k cs hro hb hr
  have h0 : (lone (b.atR a (.code (.scope c) :: k)) cs w).fenced P F := fenced_calm hb hr rfl
  obtain ⟨e, a₁, w₁, hq, harr⟩ := h b (.inScope c :: k) cs hro hb hr
  cases e with
  | normal => exact ⟨.normal, a₁, w₁, hq, .head h0 stepR_scope (StepsIn.trans harr (.one (fenced_calm hb hr rfl) stepR_inScope))⟩
  | exit id =>
    have hx : exitTo id (.inScope c :: k) = exitTo id k := by simp [exitTo]
    exact ⟨.exit id, a₁, w₁, hq, fun k' hk => .head h0 stepR_scope (harr.1 k' (by rw [hx]; exact hk)),
      fun hr' hk => let ⟨k₁, h1, h2⟩ := harr.2 hr' (by rw [hx]; exact hk); ⟨k₁, h1, .head h0 stepR_scope h2⟩⟩
  | goto l => exact hq.elim
  | ret => exact ⟨_, a₁, w₁, hq, .of_steps (.one h0 stepR_scope) harr⟩
  | panic ch => exact ⟨_, a₁, w₁, hq, .of_steps (.one h0 stepR_scope) harr⟩
  | outgrown => exact ⟨_, a₁, w₁, hq, .of_steps (.one h0 stepR_scope) harr⟩

def toExit : Ex → Exit
  | .normal => .normal
  | .exit id => .exit id
  | .ret => .ret

theorem Step.fr (h : Step P γ A w γ' A' w') {B : Nat} (hf : ∀ k, A.n ≤ k → k < B → γ k = none) : ∀ k, A'.n ≤ k → k < B → γ' k = none := fun k h1 h2 => by
  have := h.n
  cases hg : γ' k with
  | none => rfl
  | some e =>
    rcases h.dom k e hg with h3 | ⟨_, h3⟩
    · rw [hf k (by omega) h2] at h3; cases h3
    · omega

/-! ### A loop's record -/
theorem loop_read (hw : WRel P γ A w) {k : Nat} {e : Emb} {r : Rec} {ver : Nat} (hg : γ k = some e) (h : A.get k = .loop r ver) :
    ∃ L, w.heap[e.b]? = some (.loop L) ∧ L.state = r.st ∧ L.pending = r.pending ∧ L.params.toList = r.params ∧ L.assign = r.assign ∧ L.body = r.body ∧
      TR γ r.tmps r.nt L.tmps ∧ (∃ e', γ r.dfr = some e' ∧ e'.b = L.defers) ∧ okCode P.globals.size r.assign = true ∧ okCode P.globals.size r.body = true := by
  have := hw.obj k e hg (CW.lt_of_live hw (by rw [h]; simp))
  rw [h] at this
  exact this
theorem loop_write (hw : WRel P γ A w) {k : Nat} {e : Emb} {r : Rec} {ver : Nat} (hg : γ k = some e) (h : A.get k = .loop r ver) {L : Loop} (hL : w.heap[e.b]? = some (.loop L)) (st : LoopState) (pend : Option Code) :
    Step P γ A w γ (A.set k (.loop { r with st := st, pending := pend } (ver + 1))) { w with heap := w.heap.setIfInBounds e.b (.loop { L with state := st, pending := pend }) } := by
  have hk : k < A.n := CW.lt_of_live hw (by rw [h]; simp)
  have hlt := hw.lt hg (by rw [h]; rfl)
  obtain ⟨L', h1, h2, h3, h4, h5, h6, h7, h8, h9⟩ := loop_read hw hg h
  rw [hL] at h1; cases h1
  refine Step.set hw hg hk _ ?_ ?_ (by rw [h]; rfl) (by rw [h]; rfl) ?_ (by simp) (fun b hb => ?_) (.setObj hL rfl rfl rfl ⟨rfl, rfl⟩)
  · rw [h]; exact .inr (.inr ⟨by simp, by simp, by simp [Ob.ver]⟩)
  · rw [h]; intro hx
    have := congrArg Ob.ver hx
    simp [Ob.ver] at this
  · exact ⟨{ L with state := st, pending := pend }, by simp [hlt], rfl, rfl, h4, h5, h6, h7, h8, h9⟩
  · simp only []
    rw [Array.getElem?_setIfInBounds, if_neg (fun h => hb h.symm)]
theorem loop_cstep {k : Nat} {r r' : Rec} {ver : Nat} (h : A.get k = .loop r ver) : CStep A (A.set k (.loop r' (ver + 1))) :=
  .set A (by rw [h]; simp) (by rw [h]; exact .inr (.inr ⟨by simp, by simp, by simp [Ob.ver]⟩))

/-! ### The marks -/
theorem shut_cstep : ∀ (l : List Nat) (A A' : CW), shut l A = some A' → CStep A A'
  | [], A, A', h => by simp only [shut] at h; cases h; exact .refl _
  | d :: r, A, A', h => by
    simp only [shut] at h
    split at h
    · rename_i v hd
      exact (CStep.set A (by rw [hd]; simp) (.inr (.inl ⟨by rw [hd]; simp, rfl⟩))).trans (shut_cstep r _ _ h)
    · cases h
theorem shut_sound {F : Fence} {fn : Func} {tmps : Array Value} {R : Ending → World → Prop} : ∀ (l : List Nat) (ds : List Deferred) (A A' : CW) (w : World), shut l A = some A' → WRel P γ A w → DR γ l ds →
    (∀ w', Step P γ A w γ A' w' → ∃ v, (results fn tmps).run P w' = .ok v w' ∧ R (.returned v) w') → LeavesInM F 0 P fn tmps R ds .returning w
  | [], [], A, A', w, h, hw, _, hK => by
    simp only [shut] at h; cases h
    exact hK w (.refl hw)
  | d :: r, x :: ds, A, A', w, h, hw, hd, hK => by
    simp only [shut] at h
    split at h
    · rename_i v hob
      obtain ⟨⟨e, hg, rfl⟩, hrest⟩ := hd
      have hk : d < A.n := CW.lt_of_live hw (by rw [hob]; simp)
      have hor := hw.obj d e hg hk
      rw [hob] at hor
      have hor : w.heap[e.b]? = some (.deferred (some [])) := hor
      have hlt := hw.lt hg (by rw [hob]; rfl)
      have hst : Step P γ A w γ (A.set d .dead) { w with heap := w.heap.setIfInBounds e.b (.deferred none) } := by
        refine Step.set hw hg hk _ (by rw [hob]; exact .inr (.inl ⟨by simp, rfl⟩)) (by rw [hob]; simp) (by rw [hob]; rfl) (by rw [hob]; rfl) trivial (by simp) (fun b hb => ?_) (.setObj hor rfl rfl rfl ⟨rfl, rfl⟩)
        simp only []
        rw [Array.getElem?_setIfInBounds, if_neg (fun h => hb h.symm)]
      refine ⟨by simp, .inl ⟨e.b, { w with heap := w.heap.setIfInBounds e.b (.deferred none) }, rfl, ?_, ?_⟩⟩
      · simp [Instr.takeDeferred, getObj, setObj, Sem.run, hor]
      · exact shut_sound r ds _ A' _ h hst.rel hrest fun w' hs => hK w' (hst.trans hs)
    · cases h
  | [], _ :: _, _, _, _, _, _, hd, _ => hd.elim
  | _ :: _, [], _, _, _, _, _, hd, _ => hd.elim

/-! ### The results -/
def readRes (tmps : Array Value) : ResultVar → Sem Value
  | .tmp t => pure (tmps.getD t undef)
  | .cell a t => do loadVar t (← asAddr (tmps.getD a undef))
theorem results_eq (fn : Func) (tmps : Array Value) : results fn tmps = (do
    let vs ← fn.results.mapM (readRes tmps)
    pure (if h : vs.size = 1 then vs[0] else .tuple vs)) := by
  unfold results
  congr 1
theorem resultsOf_sound {τ : T Value} {nt : Nat} {tmps : Array Value} (hw : WRel P γ A w) (ht : TR γ τ nt tmps) : ∀ (rs : List ResultVar) (l : List Value), resultsOf P A τ rs = some l →
    ∃ l', (rs.mapM (readRes tmps)).run P w = .ok l' w ∧ VL γ l l'
  | [], l, h => by
    simp only [resultsOf] at h; cases h
    exact ⟨[], by simp, .nil⟩
  | .tmp t :: rs, l, h => by
    simp only [resultsOf] at h
    obtain ⟨l₁, h1, h2⟩ := Option.map_eq_some_iff.1 h
    subst h2
    obtain ⟨l', h3, h4⟩ := resultsOf_sound hw ht rs l₁ h1
    exact ⟨_, by simp only [List.mapM_cons, readRes, Sem.run_bind, Sem.run_pure, Result.andThen, h3], .cons (ht.2 t) h4⟩
  | .cell a t :: rs, l, h => by
    simp only [resultsOf] at h
    split at h
    · rename_i v l₁ h1 h2
      cases h
      obtain ⟨l', h3, h4⟩ := resultsOf_sound hw ht rs l₁ h2
      have hx := ht.2 a
      obtain ⟨v', h5, h6⟩ := loadAt_sound hw hx h1
      refine ⟨v' :: l', ?_, .cons h6 h4⟩
      have h7 : (readRes tmps (.cell a t)).run P w = .ok v' w := by
        unfold loadAt at h1
        split at h1
        · rename_i k off sp hq
          rw [hq] at hx
          obtain ⟨e, hg, _, hv⟩ := hx.inv_ptr
          rw [hv] at h5
          simp only [readRes, hv]
          simpa [Instr.loadAt, Instr.sureAddr, asAddr] using h5
        · cases h1
      simp only [List.mapM_cons, Sem.run_bind, Sem.run_pure, Result.andThen, h3, h7]
    · cases h
theorem resultOf_sound {τ : T Value} {nt : Nat} {tmps : Array Value} {fn : Func} {v : Value} (hw : WRel P γ A w) (ht : TR γ τ nt tmps) (h : resultOf P A τ fn.results.toList = some v) :
    ∃ v', (results fn tmps).run P w = .ok v' w ∧ VR γ v v' := by
  have e : fn.results = fn.results.toList.toArray := by simp
  unfold resultOf at h
  split at h
  · rename_i v₁ h1
    cases h
    obtain ⟨l', h2, h3⟩ := resultsOf_sound hw ht _ _ h1
    obtain ⟨v', l'', rfl, h4, h5⟩ := h3.inv_cons
    cases h5.inv_nil
    refine ⟨v', ?_, h4⟩
    rw [results_eq, e]
    simp only [List.mapM_toArray, Sem.run_bind, Sem.run_map, h2, Result.andThen]
    simp
  · rename_i l hne h1
    cases h
    obtain ⟨l', h2, h3⟩ := resultsOf_sound hw ht _ _ h1
    refine ⟨.tuple l'.toArray, ?_, .tupleL (by simpa using h3)⟩
    have hsz : ¬ (l'.length = 1) := fun hl => by
      have := h3.1
      cases l with
      | nil => simp at this; omega
      | cons x r => cases r with
        | nil => exact hne x rfl
        | cons y r => simp at this; omega
    rw [results_eq, e]
    simp only [List.mapM_toArray, Sem.run_bind, Sem.run_map, h2, Result.andThen]
    simp [hsz]
  · cases h
end Go.AM

/-
  AM: code: what the evaluator says of a piece of code holds of the model's runs of it.
-/
namespace Go.AM
variable {P : Program} {γ γ' γ₀ : Gam} {A A' A₀ : CW} {w w' w₀ : World} {I : Inv}

theorem iter_cstep {b : St → Option (Ex × St)} (hb : ∀ s x s', b s = some (x, s') → CStep s.A s'.A) : ∀ (n : Nat) (s s' : St) (x : Ex), iter b n s = some (x, s') → CStep s.A s'.A
  | 0, s, s', x, h => by simp [iter] at h
  | n + 1, s, s', x, h => by
    simp only [iter] at h
    split at h
    · rename_i s₁ h1
      exact (hb _ _ _ h1).trans (iter_cstep hb n s₁ s' x h)
    · exact hb _ _ _ h

theorem exec_cstep (hI : IStep I) {fuel : Nat} {round : Option Nat} : ∀ (c : Code) (s s' : St) (x : Ex), exec P I fuel round c s = some (x, s') → CStep s.A s'.A := by
  intro c
  induction c with
  | skip => intro s s' x h; simp only [exec] at h; cases h; exact .refl _
  | label l => intro s s' x h; simp only [exec] at h; cases h; exact .refl _
  | exit id => intro s s' x h; simp only [exec] at h; cases h; exact .refl _
  | ret => intro s s' x h; simp only [exec] at h; cases h; exact .refl _
  | goto l => intro s s' x h; simp only [exec] at h; cases h
  | refuse l => intro s s' x h; simp only [exec] at h; cases h
  | region id ops draw =>
    intro s s' x h
    simp only [exec] at h
    obtain ⟨s₁, h1, h2⟩ := Option.map_eq_some_iff.1 h
    cases h2
    exact runRegion_cstep hI h1
  | seq c d ihc ihd =>
    intro s s' x h
    simp only [exec] at h
    split at h
    · rename_i s₁ h1
      exact (ihc _ _ _ h1).trans (ihd _ _ _ h)
    · exact ihc _ _ _ h
  | cond c d e ihd ihe =>
    intro s s' x h
    simp only [exec] at h
    split at h
    · exact ihd _ _ _ h
    · exact ihe _ _ _ h
    · cases h
  | block id c ih =>
    intro s s' x h
    simp only [exec] at h
    split at h
    · rename_i i s₁ h1
      split at h <;> (cases h; exact ih _ _ _ h1)
    · exact ih _ _ _ h
  | loop c ih =>
    intro s s' x h
    simp only [exec] at h
    exact iter_cstep (fun s x s' h => ih s s' x h) _ _ _ _ h
  | scope c ih =>
    intro s s' x h
    simp only [exec] at h
    exact ih _ _ _ h
  | rangeFunc f ps assign body _ _ =>
    intro s s' x h
    simp only [exec] at h
    split at h
    · cases h
    · rename_i d A1 mark hd
      have h1 : CStep s.A A1 := by
        split at hd
        · cases hd; exact .push _ _
        · split at hd
          · cases hd; exact .refl _
          · cases hd
      split at h
      · rename_i g first cap hg
        split at h
        · cases h
        · rename_i v A2 hc
          split at hc
          · split at h
            · rename_i r ver hl
              split at h
              · cases h
              · split at h
                · cases h
                  exact h1.trans ((CStep.push _ _).trans ((hI _ _ _ _ _ hc).trans (loop_cstep hl)))
                · cases h
            · cases h
          · cases hc
      · cases h

def RoundRel (γ : Gam) (F : Fence) : Option Nat → Prop
  | none => F.round = none
  | some l => ∃ e, γ l = some e ∧ F.round = some e.b
theorem RoundRel.mono {F : Fence} {r : Option Nat} (hx : Ext γ γ') (h : RoundRel γ F r) : RoundRel γ' F r := by
  cases r with
  | none => exact h
  | some l => obtain ⟨e, h1, h2⟩ := h; exact ⟨e, hx _ _ h1, h2⟩

theorem enters_run {g : FuncId} (h : enters P g = true) (args : Array Value) (w : World) : (callFunc g args).run P w = .ok (.enter g args) w := by
  unfold enters at h
  split at h
  · rename_i fn hfn
    simp only [Bool.and_eq_true, bne_iff_ne, ne_eq] at h
    unfold callFunc
    obtain ⟨h1, h2⟩ := h
    have h3 : ¬ (fn.body = none) := fun hb => by rw [hb] at h1; cases h1
    simp [program, Sem.run, hfn, h2, h3]
  · cases h

/-- The record of a loop, laid. -/
theorem enter_sound {s : St} {a : Act} {round : Option Nat} {F : Fence} {A1 : CW} {d : Nat} {mark : List Nat}
    (hd : (match round with
      | none => some (s.A.n, s.A.push (.dfr 0), [s.A.n])
      | some l => match s.A.get l with
        | .loop r _ => some (r.dfr, s.A, [])
        | _ => none : Option (Nat × CW × List Nat)) = some (d, A1, mark)) (hro : RoundRel γ F round) (hr : Rel P γ s w a) (hf : ∀ k, s.A.n ≤ k → k < A1.n → γ k = none) (fn : FuncId) (ps : Array Tmp) (assign body : Code) :
    ∃ (γ1 : Gam) (w1 : World) (mk : List Deferred) (b : Nat), Step P γ s.A w γ1 A1 w1 ∧ DR γ1 mark mk ∧ (∃ e', γ1 d = some e' ∧ e'.b = b) ∧
      (Instr.enterLoop fn a.tmps ps assign body F.round).run P w = .ok (w1.heap.size, mk) { w1 with heap := w1.heap.push (.loop { state := .ready, pending := none, fn, tmps := a.tmps, params := ps, assign, body, defers := b }) } := by
  cases round with
  | none =>
    simp only at hd
    cases hd
    have hro : F.round = none := hro
    have hn : γ s.A.n = none := hf _ (Nat.le_refl _) (by simp)
    have hst := Step.push hr.w (.dfr 0) (.deferred (some [])) ⟨w.heap.size, 0, 0, 0, false⟩ rfl hn rfl (w' := { w with heap := w.heap.push (.deferred (some [])) }) rfl
    refine ⟨_, _, [{ target := .collected w.heap.size, args := #[] }], w.heap.size, hst, ⟨⟨_, addG_self γ s.A.n _, rfl⟩, trivial⟩, ⟨_, addG_self γ s.A.n _, rfl⟩, ?_⟩
    rw [hro]
    simp [Instr.enterLoop, newObj, Sem.run]
    rfl
  | some l =>
    simp only at hd
    split at hd
    · rename_i r0 v0 hl0
      cases hd
      obtain ⟨e, he1, he2⟩ := hro
      obtain ⟨L0, g1, _, _, _, _, _, _, ⟨e', g8, g9⟩, _⟩ := loop_read hr.w he1 hl0
      refine ⟨γ, w, [], L0.defers, .refl hr.w, trivial, ⟨e', g8, g9⟩, ?_⟩
      rw [he2]
      simp [Instr.enterLoop, Instr.getLoop, newObj, getObj, Sem.run, g1]
      try rfl
    · cases hd

theorem record_sound {s : St} {a : Act} {round : Option Nat} {F : Fence} {A1 : CW} {d : Nat} {mark : List Nat}
    (hd : (match round with
      | none => some (s.A.n, s.A.push (.dfr 0), [s.A.n])
      | some l => match s.A.get l with
        | .loop r _ => some (r.dfr, s.A, [])
        | _ => none : Option (Nat × CW × List Nat)) = some (d, A1, mark)) (hro : RoundRel γ F round) (hr : Rel P γ s w a) (hf : ∀ k, s.A.n ≤ k → k < A1.n + 1 → γ k = none) (fn : FuncId) (ps : Array Tmp) {assign body : Code}
    (h1 : okCode P.globals.size assign = true) (h2 : okCode P.globals.size body = true) :
    ∃ (γ2 : Gam) (w2 : World) (mk : List Deferred) (e : Emb), Step P γ s.A w γ2 (A1.push (.loop { st := .ready, pending := none, tmps := s.τ, nt := s.nt, params := ps.toList, assign, body, dfr := d } 0)) w2 ∧
      DR γ2 mark mk ∧ γ2 A1.n = some e ∧ (Instr.enterLoop fn a.tmps ps assign body F.round).run P w = .ok (e.b, mk) w2 := by
  obtain ⟨γ1, w1, mk, b, hs1, hdr, ⟨e', hd1, hd2⟩, henter⟩ := enter_sound hd hro hr (fun k h1 h2 => hf k h1 (by omega)) fn ps assign body
  have hn1 := hs1.n
  have hnone1 : γ1 A1.n = none := hs1.fr hf _ (Nat.le_refl _) (by omega)
  have hs2 := Step.push hs1.rel (.loop { st := .ready, pending := none, tmps := s.τ, nt := s.nt, params := ps.toList, assign, body, dfr := d } 0)
    (.loop { state := .ready, pending := none, fn, tmps := a.tmps, params := ps, assign, body, defers := b }) ⟨w1.heap.size, 0, 0, 0, false⟩ rfl hnone1
    ⟨_, rfl, rfl, rfl, rfl, rfl, rfl, (hr.t.mono hs1.ext).mono (addG_ext hnone1), ⟨e', addG_ext hnone1 _ _ hd1, hd2⟩, h1, h2⟩
    (w' := { w1 with heap := w1.heap.push (.loop { state := .ready, pending := none, fn, tmps := a.tmps, params := ps, assign, body, defers := b }) }) rfl
  exact ⟨_, _, mk, _, hs1.trans hs2, hdr.mono hs2.ext, addG_self γ1 A1.n _, henter⟩

/-- A loop's end. -/
theorem end_sound (hw : WRel P γ A w) {k : Nat} {e : Emb} {r : Rec} {ver : Nat} (hg : γ k = some e) (h : A.get k = .loop r ver) (hb : r.st ≠ .busy) :
    ∃ w', (Instr.endLoop e.b).run P w = .ok r.pending w' ∧ Step P γ A w γ (A.set k (.loop { r with st := .exhausted } (ver + 1))) w' := by
  obtain ⟨L, g1, g2, g3, _⟩ := loop_read hw hg h
  have hs := loop_write hw hg h g1 .exhausted r.pending
  refine ⟨_, ?_, hs⟩
  have hb : ¬ (L.state = LoopState.busy) := by rw [g2]; exact hb
  simp [Instr.endLoop, Instr.getLoop, getObj, setObj, Sem.run, g1, hb, ← g3]

theorem DR.append : ∀ {l l2 : List Nat} {l' l2' : List Deferred}, DR γ l l' → DR γ l2 l2' → DR γ (l ++ l2) (l' ++ l2')
  | [], _, [], _, _, h => h
  | _ :: _, _, _ :: _, _, ⟨h1, h2⟩, h => ⟨h1, h2.append h⟩
  | [], _, _ :: _, _, h, _ => h.elim
  | _ :: _, _, [], _, h, _ => h.elim

theorem range_sound (hI : IStep I) (hSd : ISound P I) {fuel : Nat} {f : Operand} {ps : Array Tmp} {assign body : Code} {round : Option Nat} {s s' : St} {x : Ex}
    (h : exec P I fuel round (.rangeFunc f ps assign body) s = some (x, s')) (hok : okCode P.globals.size (.rangeFunc f ps assign body) = true) {F : Fence} (hF : WideF F) {a : Act}
    (hro : RoundRel γ F round) (hr : Rel P γ s w a) (hf : ∀ k, s.A.n ≤ k → k < s'.A.n → γ k = none) {Q : Exit → Act → World → Prop}
    (hK : ∀ γ' w' a', Step P γ s.A w γ' s'.A w' → Rel P γ' s' w' a' → Q (toExit x) a' w') : (Code.rangeFunc f ps assign body).wpIn F 0 P Q a w := by
  simp only [exec] at h
  simp only [okCode, Bool.and_eq_true] at hok
  have hfv := ev_rel hr.t hr.w hok.1.1
  split at h
  · cases h
  · rename_i d A1 mark hd
    split at h
    · rename_i g first cap hg
      rw [hg] at hfv
      obtain ⟨first', cap', hv, hf1, hf2⟩ := hfv.inv_func
      split at h
      · cases h
      · rename_i v A2 hc
        split at hc
        · rename_i hent
          split at h
          · rename_i r ver hl
            split at h
            · cases h
            · rename_i hbusy
              split at h
              · rename_i x' hx
                cases h
                have hcn := (hI _ _ _ _ _ hc).n
                simp only [CW.n_push] at hcn
                have hf2' : ∀ k, s.A.n ≤ k → k < A2.n → γ k = none := hf
                refine wpIn_rangeFunc fun fn _ => ?_
                obtain ⟨γ2, w2, mk, e, hs12, hdr, he2, henter⟩ := record_sound hd hro hr (fun k h1 h2 => hf2' k h1 (by omega)) fn ps hok.1.2 hok.2
                have hall : VA γ2 (first ++ #[.func (.yield A1.n) #[] #[]] ++ cap) (first' ++ #[.func (.yield e.b) #[] #[]] ++ cap') := by
                  unfold VA at hf1 hf2 ⊢
                  simp only [Array.toList_append]
                  exact ((hf1.mono hs12.ext).append (.cons (VR.yield he2) .nil)).append (hf2.mono hs12.ext)
                have hcall := hSd F hF (.func g) _ _ _ _ hc γ2 w2 (.func g) _ hs12.rel (hs12.fr (B := A2.n) hf2') rfl hall
                simp only [callFn, enters_run hent, Up] at hcall
                have hres : (resolve a.eval (rangeCall f e.b) 0).run P w2 = .ok { target := .fn (.func g) cap', args := first' ++ #[.func (.yield e.b) #[] #[]] } w2 := by
                  have e1 : #[Operand.const (.func (.yield e.b) #[] #[])].map a.eval = #[.func (.yield e.b) #[] #[]] := by simp [Act.eval]
                  simp only [resolve, hv, Deferred.ofValue, e1]
                  rfl
                have hinv : (invoke (.fn (.func g) cap') (first' ++ #[.func (.yield e.b) #[] #[]])).run P w2 = .ok (.enter g (first' ++ #[.func (.yield e.b) #[] #[]] ++ cap')) w2 := by
                  simp only [invoke]
                  exact enters_run hent _ _
                refine ⟨e.b, mk, w2, _, w2, g, _, w2, henter, hres, fun f' _ => hF.fn f', hinv, hF.dep, hcall.mono ?_⟩
                · intro en w3 ⟨vv, he, γ3, hs3, hv3⟩
                  subst he
                  obtain ⟨w4, g1, hs4⟩ := end_sound hs3.rel (hs3.ext _ _ he2) hl hbusy
                  have hst := (hs12.trans hs3).trans hs4
                  have hrel : Rel P γ3 { s with A := A2.set A1.n (.loop { r with st := .exhausted } (ver + 1)), dfr := mark ++ s.dfr } w4 { a with defers := mk ++ a.defers } :=
                    ⟨hs4.rel, hr.t.mono hst.ext, (hdr.mono hs3.ext).append (hr.d.mono hst.ext)⟩
                  refine ⟨r.pending, w4, g1, ?_⟩
                  have hq := hK γ3 w4 _ hst hrel
                  cases hp : r.pending with
                  | none => rw [hp] at hx; simp only [jumpOf] at hx; cases hx; exact hq
                  | some c =>
                    rw [hp] at hx
                    cases c with
                    | ret => simp only [jumpOf] at hx; cases hx; exact wpIn_ret hq
                    | exit id => simp only [jumpOf] at hx; cases hx; exact wpIn_exit hq
                    | _ => simp only [jumpOf] at hx; cases hx
              · cases h
          · cases h
        · cases hc
    · cases h

theorem exec_sound (hI : IStep I) (hSd : ISound P I) (hm : P.follows .mixedOrders = true) {fuel : Nat} : ∀ (c : Code) (round : Option Nat) (s s' : St) (x : Ex), exec P I fuel round c s = some (x, s') →
    okCode P.globals.size c = true → ∀ (F : Fence), WideF F → ∀ (γ : Gam) (w : World) (a : Act), RoundRel γ F round → Rel P γ s w a → (∀ k, s.A.n ≤ k → k < s'.A.n → γ k = none) →
    ∀ (Q : Exit → Act → World → Prop), (∀ γ' w' a', Step P γ s.A w γ' s'.A w' → Rel P γ' s' w' a' → Q (toExit x) a' w') → c.wpIn F 0 P Q a w := by
  intro c
  induction c with
  | skip => intro round s s' x h _ F hF γ w a _ hr _ Q hK; simp only [exec] at h; cases h; exact wpIn_skip (hK γ w a (.refl hr.w) hr)
  | label l => intro round s s' x h _ F hF γ w a _ hr _ Q hK; simp only [exec] at h; cases h; exact wpIn_label (hK γ w a (.refl hr.w) hr)
  | exit id => intro round s s' x h _ F hF γ w a _ hr _ Q hK; simp only [exec] at h; cases h; exact wpIn_exit (hK γ w a (.refl hr.w) hr)
  | ret => intro round s s' x h _ F hF γ w a _ hr _ Q hK; simp only [exec] at h; cases h; exact wpIn_ret (hK γ w a (.refl hr.w) hr)
  | goto l => intro round s s' x h; simp only [exec] at h; cases h
  | refuse l => intro round s s' x h; simp only [exec] at h; cases h
  | region id ops draw =>
    intro round s s' x h hok F hF γ w a _ hr hf Q hK
    simp only [exec] at h
    simp only [okCode] at hok
    obtain ⟨s₁, h1, h2⟩ := Option.map_eq_some_iff.1 h
    cases h2
    cases draw with
    | true => exact region_sound hI hSd hF hm hok h1 hr hf hK
    | false =>
      unfold runRegion at h1
      simp only [Bool.false_eq_true, if_false] at h1
      refine wpIn_region ?_
      rw [List.range_eq_range']
      have := runOps_sound hSd hI hF hok (Q := Q) ops.toList 0 s s' a γ w (fun j => by simp) h1 hr hf hK
      simpa using this
  | seq c d ihc ihd =>
    intro round s s' x h hok F hF γ w a hro hr hf Q hK
    simp only [exec] at h
    simp only [okCode, Bool.and_eq_true] at hok
    refine wpIn_seq ?_
    split at h
    · rename_i s₁ h1
      have n1 := (exec_cstep hI _ _ _ _ h).n
      refine ihc round s s₁ .normal h1 hok.1 F hF γ w a hro hr (fun k a b => hf k a (by omega)) _ fun γ' w' a' hs hr' => ?_
      exact ihd round s₁ s' x h hok.2 F hF γ' w' a' (hro.mono hs.ext) hr' (hs.fr hf) Q fun γ'' w'' a'' hs' hr'' => hK γ'' w'' a'' (hs.trans hs') hr''
    · rename_i hne
      refine ihc round s s' x h hok.1 F hF γ w a hro hr hf _ fun γ' w' a' hs hr' => ?_
      cases x with
      | normal => exact absurd h (hne s')
      | exit id => exact hK γ' w' a' hs hr'
      | ret => exact hK γ' w' a' hs hr'
  | cond c d e ihd ihe =>
    intro round s s' x h hok F hF γ w a hro hr hf Q hK
    simp only [exec] at h
    simp only [okCode, Bool.and_eq_true] at hok
    have hc := ev_rel hr.t hr.w hok.1.1
    split at h
    · rename_i hb
      rw [hb] at hc
      exact wpIn_cond_true hc.inv_bool (ihd round s s' x h hok.1.2 F hF γ w a hro hr hf Q hK)
    · rename_i hb
      rw [hb] at hc
      exact wpIn_cond_false hc.inv_bool (ihe round s s' x h hok.2 F hF γ w a hro hr hf Q hK)
    · cases h
  | block id c ih =>
    intro round s s' x h hok F hF γ w a hro hr hf Q hK
    simp only [exec] at h
    simp only [okCode] at hok
    refine wpIn_block ?_
    split at h
    · rename_i i s₁ h1
      split at h
      · rename_i hi
        cases h
        refine ih round s s' (.exit i) h1 hok F hF γ w a hro hr hf _ fun γ' w' a' hs hr' => ?_
        simp only [toExit, Exit.inBlock, hi, if_true]
        exact hK γ' w' a' hs hr'
      · rename_i hi
        cases h
        refine ih round s s' (.exit i) h1 hok F hF γ w a hro hr hf _ fun γ' w' a' hs hr' => ?_
        simp only [toExit, Exit.inBlock, hi, if_false]
        exact hK γ' w' a' hs hr'
    · rename_i hne
      refine ih round s s' x h hok F hF γ w a hro hr hf _ fun γ' w' a' hs hr' => ?_
      cases x with
      | normal => exact hK γ' w' a' hs hr'
      | exit id' => exact absurd h (hne id' s')
      | ret => exact hK γ' w' a' hs hr'
  | scope c ih =>
    intro round s s' x h hok F hF γ w a hro hr hf Q hK
    simp only [exec] at h
    simp only [okCode] at hok
    refine wpIn_scope (ih round s s' x h hok F hF γ w a hro hr hf _ fun γ' w' a' hs hr' => ?_)
    have := hK γ' w' a' hs hr'
    cases x <;> exact this
  | loop c ih =>
    intro round s s' x h hok F hF γ w a hro hr hf Q hK
    simp only [exec] at h
    simp only [okCode] at hok
    refine wpIn_loop_rounds fuel ?_
    have key : ∀ (m : Nat) (s : St) (γ : Gam) (w : World) (a : Act), iter (exec P I fuel round c) m s = some (x, s') → RoundRel γ F round → Rel P γ s w a → (∀ k, s.A.n ≤ k → k < s'.A.n → γ k = none) →
        (∀ γ' w' a', Step P γ s.A w γ' s'.A w' → Rel P γ' s' w' a' → Q (toExit x) a' w') → Code.roundsIn F 0 P c Q m a w := by
      intro m
      induction m with
      | zero => intro s γ w a h; simp [iter] at h
      | succ m ihm =>
        intro s γ w a h hro hr hf hK
        simp only [iter] at h
        rw [roundsIn_succ]
        split at h
        · rename_i s₁ h1
          have n1 := (iter_cstep (fun s x s' h => exec_cstep hI c s s' x h) _ _ _ _ h).n
          refine ih round s s₁ .normal h1 hok F hF γ w a hro hr (fun k a b => hf k a (by omega)) _ fun γ' w' a' hs hr' => ?_
          exact ihm s₁ γ' w' a' h (hro.mono hs.ext) hr' (hs.fr hf) fun γ'' w'' a'' hs' hr'' => hK γ'' w'' a'' (hs.trans hs') hr''
        · rename_i hne
          refine ih round s s' x h hok F hF γ w a hro hr hf _ fun γ' w' a' hs hr' => ?_
          cases x with
          | normal => exact absurd h (hne s')
          | exit id => exact hK γ' w' a' hs hr'
          | ret => exact hK γ' w' a' hs hr'
    exact key fuel s γ w a h hro hr hf hK
  | rangeFunc f ps assign body _ _ =>
    intro round s s' x h hok F hF γ w a hro hr hf Q hK
    exact range_sound hI hSd h hok hF hro hr hf hK
end Go.AM

/-
  AM: calls: what the evaluator gives at a function holds of the model's calls of it.
-/
namespace Go.AM
variable {P : Program} {γ γ' γ₀ : Gam} {A A' A₀ : CW} {w w' w₀ : World}

abbrev Ov := FuncId → Option (Array Value → CW → Option (Value × CW))
/-- What is taken from elsewhere is sound. -/
structure OvSound (P : Program) (ov : Ov) : Prop where
  step : ∀ f c, ov f = some c → ∀ args A v A', c args A = some (v, A') → CStep A A'
  sound : ∀ f c, ov f = some c → ∀ (F : Fence), WideF F → ∀ (args : Array Value) (A : CW) (v : Value) (A' : CW), c args A = some (v, A') →
    ∀ (γ : Gam) (w : World) (args' : Array Value), WRel P γ A w → (∀ k, A.n ≤ k → k < A'.n → γ k = none) → VA γ args args' →
      Up F P (fun v' w' => ∃ γ', Step P γ A w γ' A' w' ∧ VR γ' v v') ((callFunc f args').run P w)
theorem OvSound.none (P : Program) : OvSound P (fun _ => none) := ⟨fun _ _ h => (by cases h), fun _ _ h => (by cases h)⟩

def OkProg (P : Program) : Prop := ∀ (f : Nat) (fn : Func) (c : Code), P.funcs[f]? = some fn → fn.body = some c → okCode P.globals.size c = true

theorem inv_cstep {ov : Ov} (ho : OvSound P ov) : ∀ (n : Nat), IStep (inv P ov n)
  | 0 => fun fn args A v A' h => by simp [inv] at h
  | n + 1 => fun fn args A v A' h => by
    have ih := inv_cstep ho n
    cases fn with
    | func f =>
      simp only [inv] at h
      split at h
      · rename_i c hc
        exact ho.step f c hc _ _ _ _ h
      · split at h
        · cases h
        · split at h
          · split at h
            · split at h
              · split at h
                · cases h; exact .refl _
                · cases h
              · cases h
            · cases h
          · split at h
            · split at h
              · cases h
              · rename_i x s hne hex
                split at h
                · rename_i A1 hsh
                  obtain ⟨u, _, e⟩ := Option.map_eq_some_iff.1 h
                  cases e
                  exact (exec_cstep ih _ _ _ _ hex).trans (shut_cstep _ _ _ hsh)
                · cases h
              · cases h
            · cases h
    | yield l =>
      simp only [inv] at h
      split at h
      · rename_i r ver hl
        split at h
        · split at h
          · rename_i s hex
            split at h
            · rename_i r1 v1 hl1
              split at h
              · split at h
                · rename_i x s2 hex2
                  split at h
                  · rename_i r2 v2 hl2
                    have key := (exec_cstep ih _ _ _ _ hex).trans ((loop_cstep (r' := { r1 with st := .busy }) hl1).trans (exec_cstep ih _ _ _ _ hex2))
                    split at h
                    · split at h <;> (cases h; exact key.trans (loop_cstep hl2))
                    · cases h
                  · cases h
                · cases h
              · cases h
            · cases h
          · cases h
        · cases h
      · cases h
    | _ => simp [inv] at h

theorem initT_go : ∀ (l : List Value) (i : Nat) (t : T Value) (k : Nat), (initT.go l i t).get k = if i ≤ k ∧ k < i + l.length then l[k - i]? else t.get k
  | [], i, t, k => by
    simp only [initT.go, List.length_nil]
    rw [if_neg (by omega)]
  | v :: r, i, t, k => by
    simp only [initT.go]
    rw [initT_go r (i + 1) _ k, T.get_set]
    by_cases hk : k = i
    · subst hk
      rw [if_neg (by omega), if_pos rfl, if_pos (by simp)]
      simp
    · rw [if_neg hk]
      by_cases h1 : i + 1 ≤ k ∧ k < i + 1 + r.length
      · rw [if_pos h1, if_pos (by simp; omega)]
        rw [show k - i = (k - (i + 1)) + 1 by omega]
        simp
      · rw [if_neg h1, if_neg (by simp; omega)]
theorem initT_get (l : List Value) (k : Nat) : (initT l).get k = l[k]? := by
  unfold initT
  rw [initT_go]
  by_cases h : k < l.length
  · rw [if_pos (by omega)]; simp
  · rw [if_neg (by omega)]
    rw [List.getElem?_eq_none (by omega)]
    exact T.getF_nil _ _
theorem TR.init {args args' : Array Value} (h : VA γ args args') {nt : Nat} (hn : args.size ≤ nt) : TR γ (initT args.toList) nt (args' ++ Array.replicate (nt - args'.size) undef) := by
  have hsz : args.size = args'.size := by simpa using h.1
  refine ⟨by simp; omega, fun t => ?_⟩
  rw [initT_get]
  cases ht : args.toList[t]? with
  | some v =>
    obtain ⟨v', h1, h2⟩ := h.2 t v ht
    have hlt : t < args'.size := by
      have := (List.getElem?_eq_some_iff.1 h1).1
      simpa using this
    have h1' : args'[t]? = some v' := by simpa using h1
    simp only [Option.getD_some, Array.getD_eq_getD_getElem?, Array.getElem?_append, hlt, if_true, h1']
    exact h2
  | none =>
    have : ¬ t < args'.size := by
      intro hlt
      have := List.getElem?_eq_none_iff.1 ht
      simp at this; omega
    simp only [Option.getD_none, Array.getD_eq_getD_getElem?, Array.getElem?_append, this, if_false, Array.getElem?_replicate]
    split <;> exact .of_flat γ undef rfl

theorem TR.foldl : ∀ (ps : List Nat) (l l' : List Value) {τ : T Value} {nt : Nat} {tmps : Array Value}, TR γ τ nt tmps → VL γ l l' → (∀ p ∈ ps, p < nt) →
    TR γ ((ps.zip l).foldl (fun τ (p, a) => τ.set p a) τ) nt ((ps.zip l').foldl (fun t (p, a) => t.setIfInBounds p a) tmps)
  | [], _, _, _, _, _, h, _, _ => by simpa using h
  | p :: ps, [], l', _, _, _, h, hl, _ => by
    have := hl.inv_nil
    subst this
    simpa using h
  | p :: ps, v :: l, l', τ, nt, tmps, h, hl, hp => by
    obtain ⟨v', r', rfl, h1, h2⟩ := hl.inv_cons
    simp only [List.zip_cons_cons, List.foldl_cons]
    exact TR.foldl ps l r' (h.set h1 (hp p (by simp))) h2 fun q hq => hp q (by simp [hq])

theorem WideF.inRound {F : Fence} (h : WideF F) (l : Nat) : WideF (F.inRound l) := by
  rcases h with rfl | ⟨k, rfl⟩
  · exact .inr ⟨l, rfl⟩
  · exact .inr ⟨l, rfl⟩
theorem CallsIn.ofWide {F : Fence} (h : WideF F) {f : FuncId} {args : Array Value} {R : Ending → World → Prop} (hc : CallsIn Fence.wide 0 P f args w R) : CallsIn F 0 P f args w R := by
  rcases h with rfl | ⟨k, rfl⟩
  · exact hc
  · exact hc

theorem func_sound {ov : Ov} {n : Nat} (hI : IStep (inv P ov n)) (hSd : ISound P (inv P ov n)) (hm : P.follows .mixedOrders = true) (hP : OkProg P) {f : FuncId} {fn : Func} {c : Code} (hfn : P.funcs[f]? = some fn) (hb : fn.body = some c)
    {args : Array Value} (hsz : args.size ≤ fn.ntmps) {x : Ex} {s : St} (hex : exec P (inv P ov n) n none c { τ := initT args.toList, nt := fn.ntmps, A, dfr := [] } = some (x, s)) (hx : ∀ id, x ≠ .exit id)
    {A1 : CW} (hsh : shut s.dfr s.A = some A1) {v : Value} (hres : resultOf P A1 s.τ fn.results.toList = some v) {args' : Array Value} (hw : WRel P γ A w) (hf : ∀ k, A.n ≤ k → k < A1.n → γ k = none) (ha : VA γ args args') :
    CallsIn Fence.wide 0 P f args' w (fun e w'' => ∃ v', e = .returned v' ∧ ∃ γ', Step P γ A w γ' A1 w'' ∧ VR γ' v v') := by
  refine callsIn_of_wp_marks hfn hb trivial ?_
  have hn := (shut_cstep _ _ _ hsh).n
  refine exec_sound hI hSd hm c none _ s x hex (hP f fn c hfn hb) Fence.wide (.inl rfl) γ w { tmps := args' ++ Array.replicate (fn.ntmps - args'.size) undef, defers := [] } rfl ⟨hw, .init ha hsz, trivial⟩ (fun k h1 h2 => hf k h1 (by omega)) _ fun γ' w' a' hs hr' => ?_
  have hl : LeavesInM Fence.wide 0 P fn a'.tmps (fun e w'' => ∃ v', e = .returned v' ∧ ∃ γ', Step P γ A w γ' A1 w'' ∧ VR γ' v v') a'.defers .returning w' := by
    refine shut_sound s.dfr a'.defers s.A A1 w' hsh hr'.w hr'.d fun w'' hs' => ?_
    obtain ⟨v', h1, h2⟩ := resultOf_sound hs'.rel hr'.t hres
    exact ⟨v', h1, v', rfl, γ', hs.trans hs', h2⟩
  cases x with
  | normal => exact hl
  | ret => exact hl
  | exit id => exact absurd rfl (hx id)

theorem yield_run {b : Nat} {L : Loop} (h : w.heap[b]? = some (.loop L)) {args : Array Value} (hs : args.size = L.params.size) :
    (Instr.yield b args).run P w = .ok (.round b L.fn ((L.params.toList.zip args.toList).foldl (fun t (p, a) => t.setIfInBounds p a) L.tmps) L.assign L.body) w := by
  have e : (L.params.zip args).foldl (fun (tmps : Array Value) (x : Tmp × Value) => tmps.setIfInBounds x.1 x.2) L.tmps = (L.params.toList.zip args.toList).foldl (fun t (p, a) => t.setIfInBounds p a) L.tmps := by
    rw [← Array.foldl_toList, Array.toList_zip]
  simp only [Instr.yield, Instr.getLoop, getObj, Sem.run_bind]
  simp [Sem.run, h, hs, Result.andThen]
  simpa [hs] using e

theorem begin_sound (hw : WRel P γ A w) {k : Nat} {e : Emb} {r : Rec} {ver : Nat} (hg : γ k = some e) (h : A.get k = .loop r ver) (hb : r.st = .ready) :
    ∃ w', (Instr.beginRound e.b).run P w = .ok () w' ∧ Step P γ A w γ (A.set k (.loop { r with st := .busy } (ver + 1))) w' := by
  obtain ⟨L, g1, g2, g3, _⟩ := loop_read hw hg h
  have hs := loop_write hw hg h g1 .busy r.pending
  refine ⟨_, ?_, hs⟩
  have g2 : L.state = .ready := by rw [g2, hb]
  simp [Instr.beginRound, Instr.getLoop, getObj, setObj, Sem.run, g1, g2, ← g3]
theorem endRound_sound (hw : WRel P γ A w) {k : Nat} {e : Emb} {r : Rec} {ver : Nat} (hg : γ k = some e) (h : A.get k = .loop r ver) (j : Option Code) :
    ∃ w', (Instr.endRound e.b j).run P w = .ok (.bool j.isNone) w' ∧ Step P γ A w γ (A.set k (.loop { r with st := if j.isNone then .ready else .done, pending := j } (ver + 1))) w' := by
  obtain ⟨L, g1, g2, g3, _⟩ := loop_read hw hg h
  have hs := loop_write hw hg h g1 (if j.isNone then .ready else .done) j
  refine ⟨_, ?_, hs⟩
  simp [Instr.endRound, Instr.getLoop, getObj, setObj, Sem.run, g1]

theorem round_sound {ov : Ov} {n : Nat} (hI : IStep (inv P ov n)) (hSd : ISound P (inv P ov n)) (hm : P.follows .mixedOrders = true) {l : Nat} {r r1 r2 : Rec} {v0 v1 v2 : Nat} {args : Array Value} (hl : A.get l = .loop r v0)
    (hlen : r.params.length = args.size) (hps : ∀ p ∈ r.params, p < r.nt) {s s2 : St} {x : Ex}
    (hex : exec P (inv P ov n) n (some l) r.assign { τ := (r.params.zip args.toList).foldl (fun τ (p, a) => τ.set p a) r.tmps, nt := r.nt, A, dfr := [] } = some (.normal, s))
    (hl1 : s.A.get l = .loop r1 v1) (hst1 : r1.st = .ready)
    (hex2 : exec P (inv P ov n) n (some l) r.body { s with A := s.A.set l (.loop { r1 with st := .busy } (v1 + 1)) } = some (x, s2)) (hl2 : s2.A.get l = .loop r2 v2)
    {F : Fence} (hF : WideF F) {args' : Array Value} (hw : WRel P γ A w) {A1 : CW} {v : Value}
    (hend : ∃ j : Option Code, (match x with
      | .normal => j = none
      | .ret => j = some .ret
      | .exit id => j = some (.exit id)) ∧ A1 = s2.A.set l (.loop { r2 with st := if j.isNone then .ready else .done, pending := j } (v2 + 1)) ∧ v = .bool j.isNone)
    (hf : ∀ k, A.n ≤ k → k < A1.n → γ k = none) {e : Emb} (hg : γ l = some e) (ha : VA γ args args') :
    Up F P (fun v' w' => ∃ γ', Step P γ A w γ' A1 w' ∧ VR γ' v v') ((Instr.yield e.b args').run P w) := by
  obtain ⟨j, hj, rfl, rfl⟩ := hend
  simp only [CW.n_set] at hf
  obtain ⟨L, g1, g2, g3, g4, g5, g6, g7, g8, g9, g10⟩ := loop_read hw hg hl
  have hasz : args'.size = args.size := by simpa using ha.1.symm
  have hLp : L.params.size = args'.size := by
    rw [← Array.length_toList, g4, hlen, hasz]
  rw [yield_run g1 hLp.symm]
  simp only [Up]
  have n1 := (exec_cstep hI _ _ _ _ hex2).n
  simp only [CW.n_set] at n1
  refine roundIn_of_wpIn (hF.fn _) ?_
  rw [g5, g6, g4]
  refine exec_sound hI hSd hm r.assign (some l) _ s .normal hex g9 _ (hF.inRound e.b) γ w { tmps := (r.params.zip args'.toList).foldl (fun t (p, a) => t.setIfInBounds p a) L.tmps, defers := [] } ⟨e, hg, rfl⟩ ⟨hw, TR.foldl r.params _ _ g7 (by simpa using ha) hps, trivial⟩ (fun k h1 h2 => hf k h1 (by omega)) _ fun γ' w' a' hs hr' => ?_
  have hg' := hs.ext _ _ hg
  obtain ⟨w2, hb1, hb2⟩ := begin_sound hr'.w hg' hl1 hst1
  refine ⟨w2, hb1, ?_⟩
  have hfr : ∀ k, s.A.n ≤ k → k < s2.A.n → γ' k = none := hs.fr hf
  refine exec_sound hI hSd hm r.body (some l) _ s2 x hex2 g10 _ (hF.inRound e.b) γ' w2 a' ⟨e, hg', rfl⟩ ⟨hb2.rel, hr'.t, hr'.d⟩ (fun k h1 h2 => hfr k h1 h2) _ fun γ'' w3 a'' hs' hr'' => ?_
  have hg'' := hs'.ext _ _ hg'
  obtain ⟨w4, he1, he2⟩ := endRound_sound hr''.w hg'' hl2 j
  have hfin : ∃ v' w', (Instr.endRound e.b j).run P w3 = .ok v' w' ∧ ∃ u, Ending.returned v' = .returned u ∧ ∃ γ', Step P γ A w γ' (s2.A.set l (.loop { r2 with st := if j.isNone then .ready else .done, pending := j } (v2 + 1))) w' ∧ VR γ' (.bool j.isNone) u :=
    ⟨_, w4, he1, _, rfl, γ'', ((hs.trans hb2).trans hs').trans he2, .bool _⟩
  cases x with
  | normal => simp only at hj; subst hj; exact hfin
  | ret => simp only at hj; subst hj; exact hfin
  | exit id => simp only at hj; subst hj; exact hfin

theorem inv_sound {ov : Ov} (ho : OvSound P ov) (hm : P.follows .mixedOrders = true) (hP : OkProg P) : ∀ (n : Nat), ISound P (inv P ov n)
  | 0 => fun F hF fn args A v A' h => by simp [inv] at h
  | n + 1 => fun F hF fn args A v A' h γ w fn' args' hw hf hfr ha => by
    have hSd := inv_sound ho hm hP n
    have hI := inv_cstep ho n
    cases fn with
    | func f =>
      cases fn' with
      | func g =>
        have : f = g := hfr
        subst this
        simp only [callFn]
        simp only [inv] at h
        split at h
        · rename_i c hc
          exact ho.sound f c hc F hF args A v A' h γ w args' hw hf ha
        · split at h
          · cases h
          · rename_i fn hfn
            split at h
            · split at h
              · rename_i hfl
                split at h
                · rename_i v' hp
                  split at h
                  · rename_i hv'
                    cases h
                    rw [VA.flat ha hfl, pureRun_run _ _ hp w]
                    exact ⟨γ, .refl hw, .of_flat γ v hv'⟩
                  · cases h
                · cases h
              · cases h
            · rename_i c hb
              split at h
              · rename_i hcond
                split at h
                · cases h
                · rename_i x s hne hex
                  split at h
                  · rename_i A1 hsh
                    obtain ⟨u, hu, e⟩ := Option.map_eq_some_iff.1 h
                    cases e
                    have hent : enters P f = true := by
                      unfold enters
                      rw [hfn]
                      simp [hb, hcond.2]
                    rw [enters_run hent]
                    exact CallsIn.ofWide hF (func_sound hI hSd hm hP hfn hb hcond.1 hex (fun id hid => hne id hid) hsh hu hw hf ha)
                  · cases h
                · cases h
              · cases h
      | _ => exact hfr.elim
    | yield l =>
      cases fn' with
      | yield b =>
        obtain ⟨e, hg, rfl⟩ := hfr
        simp only [callFn]
        simp only [inv] at h
        split at h
        · rename_i r ver hl
          split at h
          · rename_i hcond
            split at h
            · rename_i s hex
              split at h
              · rename_i r1 v1 hl1
                split at h
                · rename_i hst1
                  split at h
                  · rename_i x s2 hex2
                    split at h
                    · rename_i r2 v2 hl2
                      have hps : ∀ p ∈ r.params, p < r.nt := fun p hp => by
                        have := hcond.2.2
                        rw [List.all_eq_true] at this
                        simpa using this p hp
                      split at h
                      · split at h
                        · cases h
                          exact round_sound hI hSd hm hl hcond.1 hps hex hl1 hst1 hex2 hl2 hF hw ⟨none, rfl, rfl, rfl⟩ hf hg ha
                        · cases h
                          exact round_sound hI hSd hm hl hcond.1 hps hex hl1 hst1 hex2 hl2 hF hw ⟨some .ret, rfl, rfl, rfl⟩ hf hg ha
                        · rename_i id
                          cases h
                          exact round_sound hI hSd hm hl hcond.1 hps hex hl1 hst1 hex2 hl2 hF hw ⟨some (.exit id), rfl, rfl, rfl⟩ hf hg ha
                      · cases h
                    · cases h
                  · cases h
                · cases h
              · cases h
            · cases h
          · cases h
        · cases h
      | _ => exact hfr.elim
    | _ => simp [inv] at h
end Go.AM
