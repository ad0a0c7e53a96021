/-
  AM: what holds of the canonical heap alone: it only grows, its objects only get older.
-/
import Derived.Test.YthfphmbjhmaomaaAmRel
import Derived.Laws.Cells
import Derived.Laws.IdiomCopy
namespace Go.AM
variable {P : Program} {A A' A₁ A₂ : CW}

structure CStep (A A' : CW) : Prop where
  n : A.n ≤ A'.n
  le : ∀ k, k < A.n → Le (A.get k) (A'.get k)
  wf : (∀ k, A.n ≤ k → A.get k = .dead) → ∀ k, A'.n ≤ k → A'.get k = .dead

theorem CStep.refl (A : CW) : CStep A A := ⟨Nat.le_refl _, fun _ _ => .refl _, fun h => h⟩
theorem CStep.trans (h : CStep A A₁) (h' : CStep A₁ A₂) : CStep A A₂ :=
  ⟨Nat.le_trans h.n h'.n, fun k hk => (h.le k hk).trans (h'.le k (Nat.lt_of_lt_of_le hk h.n)), fun hw => h'.wf (h.wf hw)⟩
theorem CStep.push (A : CW) (x : Ob) : CStep A (A.push x) :=
  ⟨by simp, fun k hk => by rw [CW.get_push_ne _ _ (by omega)]; exact .refl _, fun h k hk => by
    simp at hk; rw [CW.get_push_ne _ _ (by omega)]; exact h k (by omega)⟩
theorem CStep.set (A : CW) {k : Nat} {x : Ob} (hl : A.get k ≠ .dead) (hle : Le (A.get k) x) : CStep A (A.set k x) :=
  ⟨by simp, fun j hj => by
    by_cases h : j = k
    · subst h; rw [CW.get_set_self]; exact hle
    · rw [CW.get_set_ne _ _ h]; exact .refl _, fun h j hj => by
    simp at hj
    by_cases hk : j = k
    · subst hk; exact absurd (h j hj) hl
    · rw [CW.get_set_ne _ _ hk]; exact h j hj⟩

theorem Le.cells {vs vs' : List Value} {e : TypeId} {l ro : Bool} {ver : Nat} : Le (.cells vs e l ro ver) (.cells vs' e l ro (ver + 1)) := .inr (.inr ⟨by simp, by simp, by simp [Ob.ver]⟩)
theorem CStep.putCells {k off : Nat} {cs : List Value} (h : putCells A k off cs = some A') : CStep A A' := by
  unfold AM.putCells at h
  split at h
  · rename_i vs e l ro ver ho
    split at h
    · cases h
      exact .set A (by rw [ho]; simp) (by rw [ho]; exact .cells)
    · cases h
  · cases h
theorem CStep.kill (A : CW) (b : Option Addr) : CStep A (kill A b) := by
  cases b with
  | none => exact .refl _
  | some a =>
    simp only [AM.kill]
    split
    · rename_i hl
      have hne : A.get a.block ≠ .dead := fun h => by simp [looseAt, h] at hl
      exact .set A hne (.inr (.inl ⟨hne, rfl⟩))
    · exact .refl _
theorem CStep.map {k : Nat} {es es' : List MapEntry} {c c' ver : Nat} (h : A.get k = .map es c ver) : CStep A (A.set k (.map es' c' (ver + 1))) :=
  .set A (by rw [h]; simp) (by rw [h]; exact .inr (.inr ⟨by simp, by simp, by simp [Ob.ver]⟩))

theorem storeAt_cstep {t : TypeId} {a v : Value} (h : storeAt P A t a v = some A') : CStep A A' := by
  unfold storeAt at h
  repeat' (split at h)
  all_goals first | cases h | skip
  exact .putCells h
theorem append_cstep {ats : Array TypeId} {args : Array Value} {v : Value} (h : append P A ats args = some (v, A')) : CStep A A' := by
  unfold append at h
  repeat' (split at h)
  all_goals first | cases h | skip
  · exact .putCells (by assumption)
  · exact .refl _
  · exact (CStep.kill _ _).trans (.push _ _)
theorem copy_cstep {ats : Array TypeId} {args : Array Value} {v : Value} (h : copy P A ats args = some (v, A')) : CStep A A' := by
  unfold copy at h
  repeat' (split at h)
  all_goals first | cases h | skip
  · exact .putCells (by assumption)
  · exact .refl _
theorem clear_cstep {ats : Array TypeId} {args : Array Value} (h : clear P A ats args = some A') : CStep A A' := by
  unfold clear at h
  repeat' (split at h)
  all_goals first | cases h | skip
  all_goals first | exact .refl _ | exact .putCells h
theorem mapUpdate_cstep {t : TypeId} {m i v : Value} (h : mapUpdate P A t m i v = some A') : CStep A A' := by
  unfold mapUpdate at h
  repeat' (split at h)
  all_goals first | cases h | skip
  all_goals exact .map (by assumption)
theorem mapEntry_cstep {t : TypeId} {m i v : Value} (h : mapEntry P A t m i = some (v, A')) : CStep A A' := by
  unfold mapEntry at h
  repeat' (split at h)
  all_goals first | cases h | skip
  all_goals exact .map (by assumption)
theorem entryStore_cstep {m s v : Value} (h : entryStore A m s v = some A') : CStep A A' := by
  unfold entryStore at h
  repeat' (split at h)
  all_goals first | cases h | skip
  all_goals exact .map (by assumption)

/-- What an operation gives that has no effect: the heap as it was. -/
theorem prim_light {o : Oper} {τ : T Value} {v : Value} (he : isEff o.op = false) (hn : isNew o.op = false) (h : prim P o τ A = some (v, A')) :
    A' = A ∧ ∀ B : CW, (∀ k, readsAt τ o.op = some k → B.get k = A.get k) → prim P o τ B = some (v, B) := by
  obtain ⟨dst, op, type, pos, after, guard⟩ := o
  simp only at he hn
  have hv : ∀ {x : Option Value} {y : CW → Option Value}, (x.map fun x => (x, A)) = some (v, A') → (∀ B : CW, (∀ k, readsAt τ op = some k → B.get k = A.get k) → y B = x) →
      A' = A ∧ ∀ B : CW, (∀ k, readsAt τ op = some k → B.get k = A.get k) → ((y B).map fun x => (x, B)) = some (v, B) := fun {x y} hx hy => by
    obtain ⟨u, hu, e⟩ := Option.map_eq_some_iff.1 hx
    cases e
    exact ⟨rfl, fun B hB => by rw [hy B hB, hu]; rfl⟩
  cases op with
  | move x => simp only [prim] at h ⊢; cases h; exact ⟨rfl, fun B _ => rfl⟩
  | assign x => simp only [prim] at h ⊢; cases h; exact ⟨rfl, fun B _ => rfl⟩
  | pick c x y =>
    simp only [prim] at h ⊢
    split at h
    · cases h; exact ⟨rfl, fun B _ => rfl⟩
    · cases h; exact ⟨rfl, fun B _ => rfl⟩
    · cases h
  | build t parts => simp only [prim] at h ⊢; exact hv (y := fun _ => _) h fun _ _ => rfl
  | load t x =>
    simp only [prim] at h ⊢
    refine hv (y := fun B => loadAt P B t (ev τ x)) h fun B hB => ?_
    simp only [readsAt] at hB
    unfold loadAt
    split
    · rename_i k off sp hq
      rw [hq] at hB
      have := hB k rfl
      simp only [cellsAt, cellAt, this]
    · rfl
  | nilCheck x =>
    simp only [prim] at h ⊢
    split at h
    · cases h; exact ⟨rfl, fun B _ => rfl⟩
    · cases h; exact ⟨rfl, fun B _ => rfl⟩
    · cases h
  | binOp op t x y yt => simp only [prim] at h ⊢; exact hv (y := fun _ => _) h fun _ _ => rfl
  | unOp op t x => simp only [prim] at h ⊢; exact hv (y := fun _ => _) h fun _ _ => rfl
  | convert s d x => simp only [prim] at h ⊢; exact hv (y := fun _ => _) h fun _ _ => rfl
  | makeFunc f first cap =>
    cases f with
    | func f => simp only [prim] at h ⊢; cases h; exact ⟨rfl, fun B _ => rfl⟩
    | _ => simp only [prim] at h; cases h
  | slice t x lo hi mx =>
    cases mx with
    | some m => simp [isEff] at he
    | none => simp only [prim] at h ⊢; exact hv (y := fun _ => _) h fun _ _ => rfl
  | fieldAddr s x f => simp only [prim] at h ⊢; exact hv (y := fun _ => _) h fun _ _ => rfl
  | field t x f => simp only [prim] at h ⊢; exact hv (y := fun _ => _) h fun _ _ => rfl
  | indexAddr t x i => simp only [prim] at h ⊢; exact hv (y := fun _ => _) h fun _ _ => rfl
  | index t x i => simp only [prim] at h ⊢; exact hv (y := fun _ => _) h fun _ _ => rfl
  | lookup t x i ok =>
    simp only [prim] at h ⊢
    refine hv (y := fun B => lookup P B t (ev τ x) (ev τ i) ok) h fun B hB => ?_
    simp only [readsAt] at hB
    unfold lookup
    generalize ev τ x = m at *
    cases m with
    | map q =>
      cases q with
      | none => rfl
      | some k => simp only [hB k rfl]
    | _ => rfl
  | extract x i => simp only [prim] at h ⊢; exact hv (y := fun _ => _) h fun _ _ => rfl
  | call c =>
    obtain ⟨callee, args, ats⟩ := c
    cases callee with
    | value f => simp [isEff] at he
    | invoke r m => simp only [prim] at h; cases h
    | builtin b =>
      cases b with
      | append => simp [isEff] at he
      | copy => simp [isEff] at he
      | clear => simp [isEff] at he
      | len =>
        simp only [prim] at h ⊢
        refine hv (y := fun B => len P B ats (args.map (ev τ))) h fun B hB => ?_
        simp only [readsAt] at hB
        unfold len
        split
        · rename_i t x ht hx
          rw [hx] at hB
          generalize P.underlying t = d
          cases x with
          | map m =>
            cases m with
            | none =>
              cases d with
              | none => rfl
              | some d => cases d <;> rfl
            | some k =>
              have := hB k rfl
              cases d with
              | none => rfl
              | some d => cases d <;> first | rfl | simp only [this]
          | _ =>
            cases d with
            | none => rfl
            | some d => cases d <;> rfl
        · rfl
      | cap =>
        simp only [prim] at h ⊢
        refine hv (y := fun B => capOf P B ats (args.map (ev τ))) h fun B hB => ?_
        simp only [readsAt] at hB
        unfold capOf
        split
        · rename_i t a n c ht hx
          rw [hx] at hB
          generalize P.underlying t = d
          cases a with
          | none =>
            cases d with
            | none => rfl
            | some d => cases d <;> rfl
          | some q =>
            have := hB q.block rfl
            cases d with
            | none => rfl
            | some d => cases d <;> first | rfl | simp only [this]
        · rfl
      | max =>
        simp only [prim] at h ⊢
        split at h
        · rename_i hfl
          simp only [hfl, if_true]
          exact hv (y := fun _ => _) h fun _ _ => rfl
        · cases h
      | min =>
        simp only [prim] at h ⊢
        split at h
        · rename_i hfl
          simp only [hfl, if_true]
          exact hv (y := fun _ => _) h fun _ _ => rfl
        · cases h
      | _ => simp only [prim] at h; cases h
  | _ => first | (simp [isEff] at he; done) | (simp [isNew] at hn; done) | (simp only [prim] at h; cases h)

theorem prim_cstep {o : Oper} {τ : T Value} {v : Value} (h : prim P o τ A = some (v, A')) : CStep A A' := by
  cases he : isEff o.op with
  | false =>
    cases hn : isNew o.op with
    | false => rw [(prim_light he hn h).1]; exact .refl _
    | true =>
      obtain ⟨dst, op, type, pos, after, guard⟩ := o
      cases op with
      | alloc t =>
        simp only [prim] at h
        obtain ⟨u, _, e⟩ := Option.map_eq_some_iff.1 h
        cases e; exact .push _ _
      | buildSlice t l parts =>
        simp only [prim] at h
        unfold buildSlice at h
        repeat' (split at h)
        all_goals first | cases h | skip
        exact .push _ _
      | _ => simp [isNew] at hn
  | true =>
    obtain ⟨dst, op, type, pos, after, guard⟩ := o
    have hu : ∀ {x : Option CW} {u : Value}, (x.map fun A => (u, A)) = some (v, A') → x = some A' := fun {x u} hx => by
      obtain ⟨u, hu, e⟩ := Option.map_eq_some_iff.1 hx
      cases e; exact hu
    cases op with
    | box t x =>
      simp only [prim] at h
      split at h
      · cases h; exact .push _ _
      · cases h
    | store t x y => simp only [prim] at h; exact storeAt_cstep (hu h)
    | makeMap t r =>
      cases r with
      | none => simp only [prim] at h; cases h; exact .push _ _
      | some r => simp only [prim] at h; cases h
    | makeSlice t l c =>
      simp only [prim] at h
      unfold makeSlice at h
      repeat' (split at h)
      all_goals first | cases h | skip
      exact .push _ _
    | slice t x lo hi mx =>
      cases mx with
      | none => simp [isEff] at he
      | some m =>
        simp only [prim] at h
        unfold slice3 at h
        repeat' (split at h)
        all_goals first | cases h | skip
        · exact .refl _
        · exact .push _ _
    | mapUpdate t m i x => simp only [prim] at h; exact mapUpdate_cstep (hu h)
    | mapEntry t m i => simp only [prim] at h; exact mapEntry_cstep h
    | entryStore t m s x => simp only [prim] at h; exact entryStore_cstep (hu h)
    | range t x =>
      simp only [prim] at h
      split at h
      · cases h; exact .push _ _
      · cases h
    | next x b =>
      cases b with
      | false => simp only [prim] at h; cases h
      | true =>
        simp only [prim] at h
        split at h
        · split at h
          · rename_i ho
            split at h
            · cases h
              exact .set _ (by rw [ho]; simp) (by rw [ho]; exact .inr (.inr ⟨by simp, by simp, by simp [Ob.ver]⟩))
            · cases h; exact .refl _
          · cases h
        · cases h
    | call c =>
      obtain ⟨callee, args, ats⟩ := c
      cases callee with
      | value f => simp only [prim] at h; cases h
      | invoke r m => simp only [prim] at h; cases h
      | builtin b =>
        cases b with
        | append => simp only [prim] at h; exact append_cstep h
        | copy => simp only [prim] at h; exact copy_cstep h
        | clear => simp only [prim] at h; exact clear_cstep (hu h)
        | len => simp [isEff] at he
        | cap => simp [isEff] at he
        | max => simp [isEff] at he
        | min => simp [isEff] at he
        | _ => simp only [prim] at h; cases h
    | _ => first | (simp [isEff] at he; done) | (simp only [prim] at h; cases h)

/-- Calls are canonical steps too. -/
def IStep (I : Inv) : Prop := ∀ (fn : Fn) (args : Array Value) (A : CW) (v : Value) (A' : CW), I fn args A = some (v, A') → CStep A A'

theorem runOp_cstep {I : Inv} (hI : IStep I) {o : Oper} {τ : T Value} {v : Value} (h : runOp P I o τ A = some (v, A')) : CStep A A' := by
  unfold runOp at h
  split at h
  · split at h
    · split at h
      · exact hI _ _ _ _ _ h
      · split at h
        · exact hI _ _ _ _ _ h
        · cases h
      · cases h
    · cases h
  · exact prim_cstep h
theorem putT_spec {s s₁ : St} {d : Option Tmp} {v : Value} (h : putT s d v A = some s₁) :
    s₁.A = A ∧ s₁.nt = s.nt ∧ s₁.dfr = s.dfr ∧ (∀ t, s₁.τ.get t = if d = some t then some v else s.τ.get t) ∧ (∀ t, d = some t → t < s.nt) := by
  unfold putT at h
  split at h
  · cases h; exact ⟨rfl, rfl, rfl, fun t => by simp, fun t h => by cases h⟩
  · rename_i d
    split at h
    · rename_i hd
      cases h
      refine ⟨rfl, rfl, rfl, fun t => ?_, fun t h => by cases h; exact hd⟩
      rw [T.get_set]
      by_cases ht : t = d
      · subst ht; simp
      · have : ¬ (some d = some t) := fun hh => ht (Option.some.inj hh).symm
        simp [ht, this]
    · cases h
/-- What a step of a region is. -/
theorem stepOp_spec {I : Inv} {ops : Array Oper} {o : Oper} {s s₁ : St} (h : stepOp P I ops o s = some s₁) :
    ∃ v, putT s o.dst v s₁.A = some s₁ ∧ ((wantedB o ops s.τ = true ∧ runOp P I o s.τ s.A = some (v, s₁.A)) ∨ (wantedB o ops s.τ = false ∧ v = undef ∧ s₁.A = s.A)) := by
  unfold stepOp at h
  split at h
  · rename_i hw
    split at h
    · rename_i v A₁ hop
      have := (putT_spec h).1
      subst this
      exact ⟨v, h, .inl ⟨hw, hop⟩⟩
    · cases h
  · rename_i hw
    have := (putT_spec h).1
    exact ⟨undef, by rw [this]; exact h, .inr ⟨by simpa using hw, rfl, this⟩⟩
theorem stepOp_cstep {I : Inv} (hI : IStep I) {ops : Array Oper} {o : Oper} {s s₁ : St} (h : stepOp P I ops o s = some s₁) : CStep s.A s₁.A := by
  obtain ⟨v, _, h | h⟩ := stepOp_spec h
  · exact runOp_cstep hI h.2
  · rw [h.2.2]; exact .refl _
theorem runOps_cstep {I : Inv} (hI : IStep I) {ops : Array Oper} : ∀ (l : List Oper) (s s' : St), runOps P I ops l s = some s' → CStep s.A s'.A
  | [], s, s', h => by simp only [runOps] at h; cases h; exact .refl _
  | o :: rest, s, s', h => by
    simp only [runOps] at h
    split at h
    · rename_i s₁ h1
      exact (stepOp_cstep hI h1).trans (runOps_cstep hI rest s₁ s' h)
    · cases h
theorem trace_cstep {I : Inv} (hI : IStep I) {ops : Array Oper} : ∀ (l : List (Nat × Oper)) (s z : St) (tr : List Ev), trace P I ops l s = some (tr, z) → CStep s.A z.A
  | [], s, z, tr, h => by simp only [trace] at h; cases h; exact .refl _
  | x :: rest, s, z, tr, h => by
    simp only [trace] at h
    split at h
    · rename_i s₁ h1
      split at h
      · rename_i l z' h2
        cases h
        exact (stepOp_cstep hI h1).trans (trace_cstep hI rest s₁ z _ h2)
      · cases h
    · cases h
theorem runRegion_cstep {I : Inv} (hI : IStep I) {ops : Array Oper} {draw : Bool} {s s' : St} (h : runRegion P I ops draw s = some s') : CStep s.A s'.A := by
  unfold runRegion at h
  split at h
  · split at h
    · split at h
      · rename_i tr z ht
        split at h
        · cases h; exact trace_cstep hI _ _ _ _ ht
        · cases h
      · cases h
    · cases h
  · exact runOps_cstep hI _ _ _ h
end Go.AM

/-
  AM: the steps of the two heaps side by side: a new object, a change, a kill.
-/
namespace Go.AM
variable {P : Program} {γ γ' : Gam} {A A' : CW} {w w' : World}

theorem WRel.of_heap (h : WRel P γ A w) (hh : w'.heap = w.heap) : WRel P γ A w' :=
  ⟨fun k e hg hk => by rw [hh]; exact h.obj k e hg hk, h.sep, fun k e hg => by rw [hh]; exact h.blk k e hg, h.glob, h.wf⟩
theorem Step.of_heap (h : WRel P γ A w) (hh : w'.heap = w.heap) (hq : Quiet w w' := by exact ⟨rfl, rfl⟩) : Step P γ A w γ A w' where
  calm := .of_heap hh hq
  ext := .refl _
  dom _ _ h := .inl h
  fresh _ h1 h2 := absurd h2 (Nat.not_lt.2 h1)
  rel := h.of_heap hh
  n := Nat.le_refl _
  cfr _ _ _ := rfl
  le _ _ := .refl _
  ro _ _ _ := rfl
  size := by rw [hh]; exact Nat.le_refl _
  old _ _ h h' := by rw [h] at h'; cases h'
  wfr _ _ _ := by rw [hh]

def addG (γ : Gam) (k : Nat) (e : Emb) : Gam := fun j => if j = k then some e else γ j
@[simp] theorem addG_self (γ : Gam) (k : Nat) (e : Emb) : addG γ k e k = some e := by simp [addG]
theorem addG_ne (γ : Gam) {k j : Nat} (e : Emb) (h : j ≠ k) : addG γ k e j = γ j := by simp [addG, h]
theorem addG_ext {k : Nat} {e : Emb} (h : γ k = none) : Ext γ (addG γ k e) := fun j e' hj => by
  rw [addG_ne]
  · exact hj
  · intro hk; subst hk; rw [h] at hj; cases hj

/-- A new object. -/
theorem Step.push (h : WRel P γ A w) (x : Ob) (obj : Obj) (e : Emb) (hb : e.b = w.heap.size) (hf : γ A.n = none) (ho : OR P (addG γ A.n e) e (some obj) x)
    (hh : w'.heap = w.heap.push obj) (hq : Quiet w w' := by exact ⟨rfl, rfl⟩) : Step P γ A w (addG γ A.n e) (A.push x) w' where
  calm := .push hh hq
  ext := addG_ext hf
  dom k e' hk := by
    by_cases hkn : k = A.n
    · subst hkn; exact .inr ⟨Nat.le_refl _, by simp⟩
    · rw [addG_ne _ _ hkn] at hk; exact .inl hk
  fresh k h1 h2 := by
    simp at h2
    have : k = A.n := by omega
    subst this; exact hf
  rel := by
    refine ⟨fun k e' hk hn => ?_, fun k₁ e₁ k₂ e₂ h1 h2 hne hbb => ?_, fun k e' hk => ?_, fun g hg => ?_, fun k hk => by
      simp at hk; rw [CW.get_push_ne _ _ (by omega)]; exact h.wf k (by omega)⟩
    · by_cases hkn : k = A.n
      · subst hkn
        simp at hk; subst hk
        rw [CW.get_push_self, hh, hb]; simpa using ho
      · rw [addG_ne _ _ hkn] at hk
        rw [CW.get_push_ne _ _ hkn]
        simp at hn
        have hor := (h.obj k e' hk (by omega)).mono (addG_ext (e := e) hf)
        rcases h.blk k e' hk with hlt | ⟨_, hh'⟩
        · rw [hh, Array.getElem?_push_lt hlt, ← Array.getElem?_eq_getElem hlt]
          exact hor
        · exact hor.of_harmless hh'
    · have hlt : ∀ k e', addG γ A.n e k = some e' → k ≠ A.n → e'.b < w.heap.size ∨ (k < (A.push x).n ∧ harmless ((A.push x).get k) = true) := fun k e' hk hkn => by
        rw [addG_ne _ _ hkn] at hk
        rw [CW.get_push_ne _ _ hkn]
        exact (h.blk k e' hk).imp id fun ⟨a, b⟩ => ⟨by simp; omega, b⟩
      by_cases hk1 : k₁ = A.n
      · subst hk1; simp at h1; subst h1
        rcases hlt k₂ e₂ h2 (fun h => hne h.symm) with this | this
        · omega
        · exact .inr (.inl this)
      · by_cases hk2 : k₂ = A.n
        · subst hk2; simp at h2; subst h2
          rcases hlt k₁ e₁ h1 hk1 with this | this
          · omega
          · exact .inl this
        · rw [addG_ne _ _ hk1] at h1; rw [addG_ne _ _ hk2] at h2
          rw [CW.get_push_ne _ _ hk1, CW.get_push_ne _ _ hk2]
          rcases h.sep k₁ e₁ k₂ e₂ h1 h2 hne hbb with ⟨a, b⟩ | ⟨a, b⟩ | ⟨a, b, c⟩
          · exact .inl ⟨by simp; omega, b⟩
          · exact .inr (.inl ⟨by simp; omega, b⟩)
          · exact .inr (.inr ⟨by simp; omega, by simp; omega, c⟩)
    · rw [hh, Array.size_push]
      by_cases hkn : k = A.n
      · subst hkn; simp at hk; subst hk; exact .inl (by omega)
      · rw [addG_ne _ _ hkn] at hk
        rw [CW.get_push_ne _ _ hkn]
        exact (h.blk k e' hk).imp (fun h => by omega) fun ⟨a, b⟩ => ⟨by simp; omega, b⟩
    · obtain ⟨e', h1, h2⟩ := h.glob g hg
      exact ⟨e', addG_ext hf _ _ h1, h2⟩
  n := by simp
  cfr k hk _ := CW.get_push_ne _ _ (by omega)
  le k hk := by rw [CW.get_push_ne _ _ (by omega)]; exact .refl _
  ro k hk _ := CW.get_push_ne _ _ (by omega)
  size := by rw [hh, Array.size_push]; omega
  old k e' hk hn hlt := by
    by_cases hkn : k = A.n
    · subst hkn; simp at hk; subst hk; omega
    · rw [addG_ne _ _ hkn, hn] at hk; cases hk
  wfr b hb' _ := by rw [hh, Array.getElem?_push_lt hb', ← Array.getElem?_eq_getElem hb']

/-- An object turns. -/
theorem Step.set (h : WRel P γ A w) {k : Nat} {e : Emb} (hg : γ k = some e) (hk : k < A.n) (x : Ob) (hle : Le (A.get k) x) (hx : x ≠ A.get k)
    (hro : isRo (A.get k) = false) (hlive : harmless (A.get k) = false)
    (ho : OR P γ e w'.heap[e.b]? x) (hs : w'.heap.size = w.heap.size) (hother : ∀ b, b ≠ e.b → w'.heap[b]? = w.heap[b]?) (hc : Calm w w') :
    Step P γ A w γ (A.set k x) w' where
  calm := hc
  ext := .refl _
  dom _ _ h := .inl h
  fresh _ h1 h2 := absurd h2 (Nat.not_lt.2 (by simpa using h1))
  rel := by
    have hharm : ∀ k' e', γ k' = some e' → k' ≠ k → e'.b = e.b → k' < A.n ∧ harmless (A.get k') = true := fun k' e' hg' hne hbb => by
      rcases h.sep k' e' k e hg' hg hne hbb with ⟨a, b⟩ | ⟨a, b⟩ | ⟨a, b, c, d⟩
      · exact ⟨a, b⟩
      · rw [hlive] at b; cases b
      · rw [hro] at d; cases d
    refine ⟨fun k' e' hk' hn => ?_, fun k₁ e₁ k₂ e₂ h1 h2 hne hbb => ?_, fun k' e' hk => by
      rw [hs]
      refine (h.blk k' e' hk).imp id fun ⟨a, b⟩ => ⟨a, ?_⟩
      rw [CW.get_set_ne _ _ (fun hkk => by subst hkk; rw [hlive] at b; cases b)]; exact b, h.glob, fun k' hk' => by
      simp at hk'; rw [CW.get_set_ne _ _ (by omega)]; exact h.wf k' hk'⟩
    · by_cases hkk : k' = k
      · subst hkk
        rw [hg] at hk'; cases hk'
        rw [CW.get_set_self]; exact ho
      · rw [CW.get_set_ne _ _ hkk]
        by_cases hbb : e'.b = e.b
        · obtain ⟨_, hh⟩ := hharm k' e' hk' hkk hbb
          have := h.obj k' e' hk' (by simpa using hn)
          cases hc : A.get k' with
          | dead => trivial
          | cells vs t l r v =>
            rw [hc] at hh this
            obtain ⟨h0, h00, _⟩ := this
            cases vs with
            | nil => cases r with
              | true => exact ⟨h0, h00, .inl ⟨rfl, rfl⟩⟩
              | false => simp [harmless] at hh
            | cons => simp [harmless] at hh
          | map => rw [hc] at hh; simp [harmless] at hh
          | siter => rw [hc] at hh; simp [harmless] at hh
          | loop => rw [hc] at hh; simp [harmless] at hh
          | dfr => rw [hc] at hh; simp [harmless] at hh
        · rw [hother _ hbb]
          exact h.obj k' e' hk' (by simpa using hn)
    · by_cases hk1 : k₁ = k
      · subst hk1
        rw [hg] at h1; cases h1
        have := hharm k₂ e₂ h2 (fun h => hne h.symm) hbb.symm
        exact .inr (.inl ⟨by simpa using this.1, by rw [CW.get_set_ne _ _ (fun h => hne h.symm)]; exact this.2⟩)
      · by_cases hk2 : k₂ = k
        · subst hk2
          rw [hg] at h2; cases h2
          have := hharm k₁ e₁ h1 hk1 hbb
          exact .inl ⟨by simpa using this.1, by rw [CW.get_set_ne _ _ hk1]; exact this.2⟩
        · rw [CW.get_set_ne _ _ hk1, CW.get_set_ne _ _ hk2]
          exact h.sep k₁ e₁ k₂ e₂ h1 h2 hne hbb
  n := by simp
  cfr k' _ hn := CW.get_set_ne _ _ (fun hh => by subst hh; rw [hg] at hn; cases hn)
  le k' hk' := by
    by_cases hkk : k' = k
    · subst hkk; rw [CW.get_set_self]; exact hle
    · rw [CW.get_set_ne _ _ hkk]; exact .refl _
  ro k' hk' hr := CW.get_set_ne _ _ (fun hh => by subst hh; rw [hro] at hr; cases hr)
  size := by omega
  old k' e' hk' hn := by rw [hk'] at hn; cases hn
  wfr b hb hall := by
    refine hother b fun hbb => ?_
    subst hbb
    have := hall k e hg rfl hk
    rw [CW.get_set_self] at this
    exact hx this

/-- An object is given up: nothing turns in the real heap. -/
theorem Step.kill (h : WRel P γ A w) {k : Nat} (hk : k < A.n) (hro : isRo (A.get k) = false) (hgk : γ k ≠ none) : Step P γ A w γ (A.set k .dead) w where
  calm := .refl _
  ext := .refl _
  dom _ _ h := .inl h
  fresh _ h1 h2 := absurd h2 (Nat.not_lt.2 (by simpa using h1))
  rel := by
    refine ⟨fun k' e' hk' hn => ?_, fun k₁ e₁ k₂ e₂ h1 h2 hne hbb => ?_, fun k' e' hk' => (h.blk k' e' hk').imp id fun ⟨a, b⟩ => ⟨a, by
      by_cases hkk : k' = k
      · subst hkk; rw [CW.get_set_self]; rfl
      · rw [CW.get_set_ne _ _ hkk]; exact b⟩, h.glob, fun k' hk' => by
      simp at hk'; rw [CW.get_set_ne _ _ (by omega)]; exact h.wf k' hk'⟩
    · by_cases hkk : k' = k
      · subst hkk; rw [CW.get_set_self]; trivial
      · rw [CW.get_set_ne _ _ hkk]; exact h.obj k' e' hk' (by simpa using hn)
    · by_cases hk1 : k₁ = k
      · subst hk1; exact .inl ⟨by simpa using hk, by rw [CW.get_set_self]; rfl⟩
      · by_cases hk2 : k₂ = k
        · subst hk2; exact .inr (.inl ⟨by simpa using hk, by rw [CW.get_set_self]; rfl⟩)
        · rw [CW.get_set_ne _ _ hk1, CW.get_set_ne _ _ hk2]
          exact h.sep k₁ e₁ k₂ e₂ h1 h2 hne hbb
  n := by simp
  cfr k' _ hn := CW.get_set_ne _ _ (fun hh => by subst hh; exact hgk hn)
  le k' hk' := by
    by_cases hkk : k' = k
    · subst hkk; rw [CW.get_set_self]
      by_cases hd : A.get k' = .dead
      · exact .inl hd.symm
      · exact .inr (.inl ⟨hd, rfl⟩)
    · rw [CW.get_set_ne _ _ hkk]; exact .refl _
  ro k' hk' hr := CW.get_set_ne _ _ (fun hh => by subst hh; rw [hro] at hr; cases hr)
  size := Nat.le_refl _
  old k' e' hk' hn := by rw [hk'] at hn; cases hn
  wfr _ _ _ := rfl

theorem WRel.alone (h : WRel P γ A w) {k : Nat} {e : Emb} (hg : γ k = some e) (hro : isRo (A.get k) = false) (hlive : harmless (A.get k) = false) :
    ∀ k' e', γ k' = some e' → k' ≠ k → e'.b = e.b → k' < A.n ∧ harmless (A.get k') = true := fun k' e' hg' hne hbb => by
  rcases h.sep k' e' k e hg' hg hne hbb with ⟨a, b⟩ | ⟨a, b⟩ | ⟨a, b, c, d⟩
  · exact ⟨a, b⟩
  · rw [hlive] at b; cases b
  · rw [hro] at d; cases d

/-- A row is given up, and lies on under a new name, longer. -/
theorem Step.regrow (h : WRel P γ A w) {k : Nat} {e e' : Emb} (hg : γ k = some e) (hk : k < A.n) (hro : isRo (A.get k) = false) (hlive : harmless (A.get k) = false) (x : Ob)
    (hb : e'.b = e.b) (hf : γ A.n = none) (ho : OR P (addG γ A.n e') e' w'.heap[e.b]? x) (hs : w'.heap.size = w.heap.size) (hother : ∀ b, b ≠ e.b → w'.heap[b]? = w.heap[b]?) (hcalm : Calm w w') :
    Step P γ A w (addG γ A.n e') ((A.set k .dead).push x) w' := by
  have hnk : ∀ j, j ≠ A.n → ((A.set k .dead).push x).get j = (A.set k .dead).get j := fun j hj => CW.get_push_ne _ _ (by simpa using hj)
  have hself : ((A.set k .dead).push x).get A.n = x := by have := CW.get_push_self (A.set k .dead) x; simpa using this
  have hne : k ≠ A.n := by omega
  have hcase : ∀ k' e'', addG γ A.n e' k' = some e'' → (k' = A.n ∧ e'' = e') ∨ (k' ≠ A.n ∧ γ k' = some e'') := fun k' e'' hk' => by
    by_cases hkn : k' = A.n
    · subst hkn; simp at hk'; exact .inl ⟨rfl, hk'.symm⟩
    · rw [addG_ne _ _ hkn] at hk'; exact .inr ⟨hkn, hk'⟩
  have hharm : ∀ k' e'', γ k' = some e'' → k' ≠ A.n → e''.b = e.b → k' < A.n ∧ harmless ((A.set k .dead).get k') = true := fun k' e'' hk' _ hbb => by
    by_cases hkk : k' = k
    · subst hkk; exact ⟨hk, by rw [CW.get_set_self]; rfl⟩
    · rw [CW.get_set_ne _ _ hkk]; exact h.alone hg hro hlive k' e'' hk' hkk hbb
  refine ⟨hcalm, addG_ext hf, fun k' e'' hk' => ?_, fun k' h1 h2 => ?_, ⟨fun k' e'' hk' hn => ?_, fun k₁ e₁ k₂ e₂ h1 h2 hn hbb => ?_, fun k' e'' hk' => ?_, fun g hg' => ?_, fun k' hk' => ?_⟩,
    by simp, fun k' hk' hn => ?_, fun k' hk' => ?_, fun k' hk' hr => ?_, by omega, fun k' e'' hk' hn hlt => ?_, fun b hb' hall => ?_⟩
  · rcases hcase k' e'' hk' with ⟨rfl, _⟩ | ⟨_, h1⟩
    · exact .inr ⟨Nat.le_refl _, by simp⟩
    · exact .inl h1
  · simp at h2
    have : k' = A.n := by omega
    subst this; exact hf
  · rcases hcase k' e'' hk' with ⟨rfl, rfl⟩ | ⟨hkn, h1⟩
    · rw [hself, hb]; exact ho
    · rw [hnk _ hkn]
      simp at hn
      have hlt : k' < A.n := by omega
      have hor := (h.obj k' e'' h1 hlt).mono (addG_ext (e := e') hf)
      by_cases hkk : k' = k
      · subst hkk; rw [CW.get_set_self]; trivial
      · rw [CW.get_set_ne _ _ hkk]
        by_cases hbb : e''.b = e.b
        · have := (h.alone hg hro hlive k' e'' h1 hkk hbb).2
          exact hor.of_harmless this
        · rw [hother _ hbb]; exact hor
  · rcases hcase k₁ e₁ h1 with ⟨rfl, rfl⟩ | ⟨hkn1, h1'⟩
    · rcases hcase k₂ e₂ h2 with ⟨rfl, rfl⟩ | ⟨hkn2, h2'⟩
      · exact absurd rfl hn
      · have := hharm k₂ e₂ h2' hkn2 (by rw [← hbb, hb])
        exact .inr (.inl ⟨by simp; omega, by rw [hnk _ hkn2]; exact this.2⟩)
    · rcases hcase k₂ e₂ h2 with ⟨rfl, rfl⟩ | ⟨hkn2, h2'⟩
      · have := hharm k₁ e₁ h1' hkn1 (by rw [hbb, hb])
        exact .inl ⟨by simp; omega, by rw [hnk _ hkn1]; exact this.2⟩
      · rw [hnk _ hkn1, hnk _ hkn2]
        by_cases hk1 : k₁ = k
        · subst hk1; exact .inl ⟨by simp; omega, by rw [CW.get_set_self]; rfl⟩
        · by_cases hk2 : k₂ = k
          · subst hk2; exact .inr (.inl ⟨by simp; omega, by rw [CW.get_set_self]; rfl⟩)
          · rw [CW.get_set_ne _ _ hk1, CW.get_set_ne _ _ hk2]
            rcases h.sep k₁ e₁ k₂ e₂ h1' h2' hn hbb with ⟨a, b⟩ | ⟨a, b⟩ | ⟨a, b, c⟩
            · exact .inl ⟨by simp; omega, b⟩
            · exact .inr (.inl ⟨by simp; omega, b⟩)
            · exact .inr (.inr ⟨by simp; omega, by simp; omega, c⟩)
  · rw [hs]
    rcases hcase k' e'' hk' with ⟨rfl, rfl⟩ | ⟨_, h1⟩
    · rw [hb]; exact .inl (h.lt hg hlive)
    · refine (h.blk k' e'' h1).imp id fun ⟨a, b⟩ => ⟨by simp; omega, ?_⟩
      rw [hnk _ (by omega)]
      by_cases hkk : k' = k
      · subst hkk; rw [CW.get_set_self]; rfl
      · rw [CW.get_set_ne _ _ hkk]; exact b
  · obtain ⟨e'', h1, h2⟩ := h.glob g hg'
    exact ⟨e'', addG_ext hf _ _ h1, h2⟩
  · simp at hk'
    rw [hnk _ (by omega), CW.get_set_ne _ _ (by omega)]; exact h.wf k' (by omega)
  · rw [hnk _ (by omega), CW.get_set_ne _ _ (fun hh => by subst hh; rw [hg] at hn; cases hn)]
  · rw [hnk _ (by omega)]
    by_cases hkk : k' = k
    · subst hkk; rw [CW.get_set_self]
      by_cases hd : A.get k' = .dead
      · exact .inl hd.symm
      · exact .inr (.inl ⟨hd, rfl⟩)
    · rw [CW.get_set_ne _ _ hkk]; exact .refl _
  · rw [hnk _ (by omega), CW.get_set_ne _ _ (fun hh => by subst hh; rw [hro] at hr; cases hr)]
  · rcases hcase k' e'' hk' with ⟨rfl, rfl⟩ | ⟨_, h1⟩
    · refine ⟨k, e, hg, hk, hb.symm, .inl ?_⟩
      rw [hnk _ hne, CW.get_set_self]
      intro hd; rw [← hd] at hlive; simp [harmless] at hlive
    · rw [h1] at hn; cases hn
  · refine hother b fun hbb => ?_
    subst hbb
    have := hall k e hg rfl hk
    rw [hnk _ hne, CW.get_set_self] at this
    rw [← this] at hlive; simp [harmless] at hlive
end Go.AM

/-
  AM: rows of cells, read and written, in both heaps.
-/
namespace Go.AM
variable {P : Program} {γ γ' : Gam} {A A' : CW} {w w' : World}

theorem addr_add (b o n : Nat) : (⟨b, o, none⟩ : Addr).add n = ⟨b, o + n, none⟩ := by unfold Addr.add; split <;> simp_all

theorem CW.lt_of_live (h : WRel P γ A w) {k : Nat} (hne : A.get k ≠ .dead) : k < A.n := by
  by_cases hk : k < A.n
  · exact hk
  · exact absurd (h.wf k (by omega)) hne

theorem cell?_of {b i : Nat} {cs : Array Value} {t : TypeId} {fr : Nat × Nat} (h : w.heap[b]? = some (.cells cs t fr)) : w.cell? ⟨b, i, none⟩ = cs[i]? := by
  simp [World.cell?, h]
theorem frozen?_of {b i : Nat} {cs : Array Value} {t : TypeId} {fr : Nat × Nat} (h : w.heap[b]? = some (.cells cs t fr)) (hn : ¬(fr.1 ≤ i ∧ i < fr.2)) : w.frozen? ⟨b, i, none⟩ = false := by
  obtain ⟨lo, hi⟩ := fr
  simp [World.frozen?, h]
  simp at hn
  exact hn

/-- What a row of canonical cells is in the real heap. -/
theorem cells_read (h : WRel P γ A w) {k off n : Nat} {e : Emb} {l : List Value} (hg : γ k = some e) (hc : cellsAt A k off n = some l) :
    ∃ l', VL γ l l' ∧ l.length = n ∧ ∀ (j : Nat) v, l'[j]? = some v → w.cell? ⟨e.b, e.sh + off + j, none⟩ = some v := by
  unfold cellsAt at hc
  cases ho : A.get k with
  | cells vs t lo ro ver =>
    simp only [ho] at hc
    split at hc
    · rename_i hle
      simp at hc
      subst hc
      have hlen : ((vs.drop off).take n).length = n := by simp; omega
      obtain ⟨_, _, h1⟩ := ho ▸ h.obj k e hg (CW.lt_of_live h (by rw [ho]; simp))
      rcases h1 with ⟨rfl, _⟩ | ⟨cs, t', fr, h1, h2, h3, h4, h5⟩
      · simp at hle
        obtain ⟨rfl, rfl⟩ := hle
        exact ⟨[], by simpa using VL.nil, by simp, fun j v hv => by simp at hv⟩
      · refine ⟨_, (h4.drop off).take n, hlen, fun j v hv => ?_⟩
        rw [cell?_of h1]
        rw [List.getElem?_take] at hv
        split at hv
        · rw [List.getElem?_drop, List.getElem?_take] at hv
          split at hv
          · rw [List.getElem?_drop] at hv
            simp at hv
            rw [show e.sh + off + j = e.sh + (off + j) by omega]; exact hv
          · cases hv
        · cases hv
    · cases hc
  | dead => simp [ho] at hc
  | map => simp [ho] at hc
  | siter => simp [ho] at hc
  | loop => simp [ho] at hc
  | dfr => simp [ho] at hc

theorem cell_read (h : WRel P γ A w) {k off : Nat} {e : Emb} {v : Value} (hg : γ k = some e) (hc : cellAt A k off = some v) :
    ∃ v', VR γ v v' ∧ w.cell? ⟨e.b, e.sh + off, none⟩ = some v' := by
  have : cellsAt A k off 1 = some [v] := by
    unfold cellAt at hc
    unfold cellsAt
    cases ho : A.get k with
    | cells vs t lo ro ver =>
      simp only [ho] at hc ⊢
      obtain ⟨hlt, hv⟩ := List.getElem?_eq_some_iff.1 hc
      rw [if_pos (by omega)]
      congr 1
      rw [List.drop_eq_getElem_cons hlt]
      simp [hv]
    | dead => simp [ho] at hc
    | map => simp [ho] at hc
    | siter => simp [ho] at hc
    | loop => simp [ho] at hc
    | dfr => simp [ho] at hc
  obtain ⟨l', h1, h2, h3⟩ := cells_read h hg this
  obtain ⟨v', r, rfl, h4, h5⟩ := h1.inv_cons
  exact ⟨v', h4, by simpa using h3 0 v' (by simp)⟩

/-- The real cells behind a write. -/
theorem setCells_heap (b : Nat) : ∀ (cs : List Value) (o : Nat) (w : World) (c : Array Value) (t : TypeId) (fr : Nat × Nat), w.heap[b]? = some (.cells c t fr) → o + cs.length ≤ c.size →
    (∃ c' : Array Value, (w.setCells b o cs).heap[b]? = some (.cells c' t fr) ∧ c'.size = c.size ∧ ∀ i, c'[i]? = if o ≤ i ∧ i < o + cs.length then cs[i - o]? else c[i]?) ∧
      (w.setCells b o cs).heap.size = w.heap.size ∧ ∀ b', b' ≠ b → (w.setCells b o cs).heap[b']? = w.heap[b']?
  | [], o, w, c, t, fr, h, _ => by
    refine ⟨⟨c, h, rfl, fun i => ?_⟩, rfl, fun _ _ => rfl⟩
    rw [if_neg (by simp)]
  | v :: r, o, w, c, t, fr, h, hle => by
    have hlt := (Array.getElem?_eq_some_iff.1 h).1
    have h1 : (w.setCell ⟨b, o, none⟩ v).heap[b]? = some (.cells (c.setIfInBounds o v) t fr) := by
      simp [World.setCell, Array.getElem?_modify, h]
    simp at hle
    obtain ⟨⟨c', h2, h3, h4⟩, h5, h6⟩ := setCells_heap b r (o + 1) _ _ t fr h1 (by simp; omega)
    refine ⟨⟨c', h2, by simpa using h3, fun i => ?_⟩, ?_, fun b' hb' => ?_⟩
    · rw [h4 i]
      by_cases hi : o + 1 ≤ i ∧ i < o + 1 + r.length
      · rw [if_pos hi, if_pos (by simp; omega)]
        rw [show i - o = (i - (o + 1)) + 1 by omega]; simp
      · rw [if_neg hi]
        by_cases hio : i = o
        · subst hio
          rw [if_pos (by simp)]
          have : i < c.size := by omega
          simp [this]
        · rw [if_neg (by simp; omega), Array.getElem?_setIfInBounds]
          rw [if_neg (by omega)]
    · rw [World.setCells, h5]; simp [World.setCell]
    · rw [World.setCells, h6 b' hb']
      simp only [World.setCell, Array.getElem?_modify]
      rw [if_neg (fun hh => hb' hh.symm)]

theorem Calm.setCells (b : Nat) : ∀ (cs : List Value) (o : Nat) (w : World), Calm w (w.setCells b o cs)
  | [], _, w => .refl w
  | v :: r, o, w => (Calm.setCell w ⟨b, o, none⟩ v).trans (Calm.setCells b r (o + 1) _)

theorem splice_length {vs cs : List Value} {off : Nat} (h : off + cs.length ≤ vs.length) : (splice vs off cs).length = vs.length := by
  simp [splice]; omega
theorem splice_get {vs cs : List Value} {off : Nat} (h : off + cs.length ≤ vs.length) (i : Nat) :
    (splice vs off cs)[i]? = if off ≤ i ∧ i < off + cs.length then cs[i - off]? else vs[i]? := by
  unfold splice
  have h1 : (vs.take off).length = off := by simp; omega
  by_cases hi : i < off
  · rw [if_neg (by omega), List.append_assoc, List.getElem?_append_left (by omega), List.getElem?_take, if_pos hi]
  · by_cases hi2 : i < off + cs.length
    · rw [if_pos ⟨by omega, hi2⟩, List.append_assoc, List.getElem?_append_right (by omega), h1, List.getElem?_append_left (by omega)]
    · rw [if_neg (by omega), List.getElem?_append_right (by simp; omega)]
      rw [List.getElem?_drop]
      congr 1
      simp; omega

theorem harmless_cells {vs : List Value} {t : TypeId} {l : Bool} {ver : Nat} : harmless (.cells vs t l false ver) = false := by
  cases vs <;> rfl

theorem cells_write (h : WRel P γ A w) {k off : Nat} {e : Emb} {cs cs' : List Value} (hg : γ k = some e) (hc : putCells A k off cs = some A') (hv : VL γ cs cs') :
    ∃ w', (storeCells ⟨e.b, e.sh + off, none⟩ cs' 0).run P w = .ok () w' ∧ Step P γ A w γ A' w' := by
  unfold putCells at hc
  cases ho : A.get k with
  | cells vs t lo ro ver =>
    simp only [ho] at hc
    split at hc
    · rename_i hcond
      obtain ⟨rfl, hle, hone⟩ := hcond
      simp at hc; subst hc
      have hk : k < A.n := CW.lt_of_live h (by rw [ho]; simp)
      obtain ⟨h0, h00, h1⟩ := ho ▸ h.obj k e hg hk
      rcases h1 with ⟨_, h1⟩ | ⟨c, t', fr, h1, h2, h3, h4, h5⟩
      · cases h1
      · have hlen : cs'.length = cs.length := hv.1.symm
        obtain ⟨⟨c', hh1, hh2, hh3⟩, hh4, hh5⟩ := setCells_heap e.b cs' (e.sh + off) w c t' fr h1 (by omega)
        refine ⟨w.setCells e.b (e.sh + off) cs', ?_, ?_⟩
        · have := run_storeCells_cells (P := P) e.b (e.sh + off) cs' 0 w ?_ ?_ ?_
          · simpa using this
          · intro j hj
            rw [cell?_of h1]
            simp; omega
          · intro j hj
            exact frozen?_of h1 (h5 rfl _ (by omega) (by omega))
          · intro v hv'
            obtain ⟨i, hi⟩ := List.mem_iff_getElem?.1 hv'
            have hi' : i < cs.length := by
              have := (List.getElem?_eq_some_iff.1 hi).1; omega
            obtain ⟨u, hu1, hu2⟩ := hv.2 i cs[i] (by simp [hi'])
            rw [hi] at hu1
            cases hu1
            have := hu2.oneB
            have h6 : oneB cs[i] = true := by
              rw [List.all_eq_true] at hone; exact hone _ (by simp)
            rw [h6] at this
            cases v <;> simp_all [oneB, Value.oneCell']
        · refine Step.set h hg hk _ ?_ ?_ (by rw [ho]; rfl) (by rw [ho]; exact harmless_cells) ?_ hh4 hh5 (.setCells _ _ _ _)
          · rw [ho]; exact .inr (.inr ⟨by simp, by simp, by simp [Ob.ver]⟩)
          · rw [ho]; intro hx
            have := congrArg Ob.ver hx
            simp [Ob.ver] at this
          · refine ⟨h0, h00, .inr ⟨c', t', fr, hh1, by omega, by rw [splice_length hle]; exact h3, ?_, h5⟩⟩
            rw [splice_length hle]
            refine ⟨?_, fun i v hi => ?_⟩
            · rw [splice_length hle]; simp; omega
            · have hilt : i < vs.length := by
                have := (List.getElem?_eq_some_iff.1 hi).1
                rwa [splice_length hle] at this
              rw [List.getElem?_take, if_pos hilt, List.getElem?_drop]
              rw [splice_get hle] at hi
              simp only [Array.getElem?_toList]
              rw [hh3]
              by_cases hio : off ≤ i ∧ i < off + cs.length
              · rw [if_pos hio] at hi
                rw [if_pos (by omega)]
                obtain ⟨u, hu1, hu2⟩ := hv.2 _ v hi
                exact ⟨u, by rw [show e.sh + i - (e.sh + off) = i - off by omega]; exact hu1, hu2⟩
              · rw [if_neg hio] at hi
                rw [if_neg (by omega)]
                obtain ⟨u, hu1, hu2⟩ := h4.2 i v hi
                rw [List.getElem?_take, if_pos hilt, List.getElem?_drop] at hu1
                exact ⟨u, by simpa using hu1, hu2⟩
    · cases hc
  | dead => simp [ho] at hc
  | map => simp [ho] at hc
  | siter => simp [ho] at hc
  | loop => simp [ho] at hc
  | dfr => simp [ho] at hc
end Go.AM
