/-
  AM: the evaluator without fuel: what it gives with enough fuel, as equations.
-/
import Derived.Test.YthfphmbjhmaomaaAmExec1
namespace Go.AM
variable {P : Program}

/-! ### More fuel, the same answer -/
def ILe (I I' : Inv) : Prop := ∀ fn args A r, I fn args A = some r → I' fn args A = some r
theorem ILe.refl (I : Inv) : ILe I I := fun _ _ _ _ h => h

theorem runOp_mono {I I' : Inv} (hI : ILe I I') {o : Oper} {τ : T Value} {A : CW} {r} (h : runOp P I o τ A = some r) : runOp P I' o τ A = some r := by
  unfold runOp at h ⊢
  split
  · rename_i f args ats heq
    simp only [heq] at h
    split
    · rename_i fn first cap hev
      simp only [hev] at h
      cases fn with
      | func g => exact hI _ _ _ _ h
      | yield l =>
        dsimp only at h ⊢
        split at h
        · rename_i hc; rw [if_pos hc]; exact hI _ _ _ _ h
        · cases h
      | _ => exact h
    · rename_i hne
      split at h
      · rename_i hev; exact absurd hev (hne _ _ _)
      · exact h
  · rename_i hne
    split at h
    · rename_i f args ats heq; exact absurd heq (hne f args ats)
    · exact h
theorem stepOp_mono {I I' : Inv} (hI : ILe I I') {ops : Array Oper} {o : Oper} {s r} (h : stepOp P I ops o s = some r) : stepOp P I' ops o s = some r := by
  unfold stepOp at h ⊢
  split
  · rename_i hw
    rw [if_pos hw] at h
    split at h
    · rename_i v A hr
      rw [runOp_mono hI hr]; exact h
    · cases h
  · rename_i hw
    rw [if_neg hw] at h; exact h
theorem runOps_mono {I I' : Inv} (hI : ILe I I') {ops : Array Oper} : ∀ (l : List Oper) (s r : St), runOps P I ops l s = some r → runOps P I' ops l s = some r
  | [], _, _, h => h
  | o :: l, s, r, h => by
    simp only [runOps] at h ⊢
    split at h
    · rename_i s' hs
      rw [stepOp_mono hI hs]; exact runOps_mono hI l s' r h
    · cases h
theorem trace_mono {I I' : Inv} (hI : ILe I I') {ops : Array Oper} : ∀ (l : List (Nat × Oper)) (s : St) (r), trace P I ops l s = some r → trace P I' ops l s = some r
  | [], _, _, h => h
  | x :: l, s, r, h => by
    simp only [trace] at h ⊢
    split at h
    · rename_i s' hs
      rw [stepOp_mono hI hs]
      split at h
      · rename_i l' z ht
        simp only [trace_mono hI l s' _ ht]; exact h
      · cases h
    · cases h
theorem runRegion_mono {I I' : Inv} (hI : ILe I I') {ops : Array Oper} {draw : Bool} {s r} (h : runRegion P I ops draw s = some r) : runRegion P I' ops draw s = some r := by
  unfold runRegion at h ⊢
  split
  · rename_i hd
    rw [if_pos hd] at h
    split
    · rename_i hr
      rw [if_pos hr] at h
      split at h
      · rename_i tr z ht
        rw [trace_mono hI _ _ _ ht]; exact h
      · cases h
    · rename_i hr
      rw [if_neg hr] at h; exact h
  · rename_i hd
    rw [if_neg hd] at h
    exact runOps_mono hI _ _ _ h
theorem iter_mono {b b' : St → Option (Ex × St)} (hb : ∀ s r, b s = some r → b' s = some r) : ∀ (n m : Nat) (s) (r), n ≤ m → iter b n s = some r → iter b' m s = some r
  | 0, _, _, _, _, h => by simp [iter] at h
  | n + 1, 0, _, _, hle, _ => by omega
  | n + 1, m + 1, s, r, hle, h => by
    simp only [iter] at h ⊢
    split at h
    · rename_i s' hs
      rw [hb _ _ hs]
      exact iter_mono hb n m s' r (by omega) h
    · rename_i hne
      cases hs : b s with
      | none => rw [hs] at h; cases h
      | some x =>
        rw [hb _ _ hs]
        rw [hs] at h hne
        split
        · rename_i s' he
          exact absurd he (hne s')
        · exact h
theorem exec_mono {I I' : Inv} (hI : ILe I I') {n m : Nat} (hn : n ≤ m) : ∀ (c : Code) (round : Option Nat) (s : St) (r), exec P I n round c s = some r → exec P I' m round c s = some r
  | .skip, _, _, _, h => h
  | .label _, _, _, _, h => h
  | .region _ ops draw, _, s, r, h => by
    simp only [exec] at h ⊢
    obtain ⟨z, hz, rfl⟩ := Option.map_eq_some_iff.1 h
    rw [runRegion_mono hI hz]; rfl
  | .seq a b, round, s, r, h => by
    simp only [exec] at h ⊢
    cases ha : exec P I n round a s with
    | none => rw [ha] at h; cases h
    | some x =>
      rw [exec_mono hI hn a round s x ha]
      rw [ha] at h
      obtain ⟨x, s'⟩ := x
      cases x with
      | normal => exact exec_mono hI hn b round s' r h
      | exit _ => exact h
      | ret => exact h
  | .cond c x y, round, s, r, h => by
    simp only [exec] at h ⊢
    split at h
    · exact exec_mono hI hn x round s r h
    · exact exec_mono hI hn y round s r h
    · cases h
  | .block id c, round, s, r, h => by
    simp only [exec] at h ⊢
    cases ha : exec P I n round c s with
    | none => rw [ha] at h; cases h
    | some x => rw [exec_mono hI hn c round s x ha]; rw [ha] at h; exact h
  | .loop c, round, s, r, h => by
    simp only [exec] at h ⊢
    exact iter_mono (fun s r => exec_mono hI hn c round s r) n m s r hn h
  | .scope c, round, s, r, h => by
    simp only [exec] at h ⊢
    exact exec_mono hI hn c round s r h
  | .exit _, _, _, _, h => h
  | .ret, _, _, _, h => h
  | .rangeFunc f ps assign body, round, s, r, h => by
    simp only [exec] at h ⊢
    split
    · rename_i hd; rw [hd] at h; cases h
    · rename_i d A1 mark hd
      rw [hd] at h
      dsimp only at h
      split at h
      · rename_i g first cap hf
        split at h
        · cases h
        · rename_i q A2 hc
          have hc' : (if enters P g then I' (.func g) (first ++ #[.func (.yield A1.n) #[] #[]] ++ cap)
            (A1.push (.loop { st := .ready, pending := none, tmps := s.τ, nt := s.nt, params := ps.toList, assign, body, dfr := d } 0)) else none) = some (q, A2) := by
            split at hc
            · rename_i he; rw [if_pos he]; exact hI _ _ _ _ hc
            · cases hc
          simp only [hc']
          exact h
      · cases h
  | .goto _, _, _, _, h => by simp [exec] at h
  | .refuse _, _, _, _, h => by simp [exec] at h

theorem inv_mono1 {ov : Ov} : ∀ (n : Nat), ILe (inv P ov n) (inv P ov (n + 1))
  | 0 => fun fn args A r h => by simp [inv] at h
  | n + 1 => fun fn args A r h => by
    have ih := inv_mono1 (ov := ov) n
    cases fn with
    | func f =>
      rw [inv] at h
      rw [inv]
      cases hc : ov f with
      | some c => simp only [hc] at h ⊢; exact h
      | none =>
        simp only [hc] at h ⊢
        cases hfn : P.funcs[f]? with
        | none => simp only [hfn] at h; cases h
        | some fn =>
          simp only [hfn] at h ⊢
          cases hb : fn.body with
          | none => simp only [hb] at h ⊢; exact h
          | some c =>
            simp only [hb] at h ⊢
            split at h
            · rename_i hcond
              rw [if_pos hcond]
              split at h
              · cases h
              · rename_i x s hne hex
                rw [exec_mono ih (by omega) _ _ _ _ hex]
                split
                · rename_i i s' he
                  cases he
                  exact (hne i rfl).elim
                · rename_i x' s' he
                  cases he
                  exact h
                · rename_i he; cases he
              · cases h
            · cases h
    | yield l =>
      rw [inv] at h
      rw [inv]
      split
      · rename_i rr ver hl
        simp only [hl] at h
        split at h
        · rename_i hcond
          rw [if_pos hcond]
          split at h
          · rename_i s hex
            rw [exec_mono ih (by omega) _ _ _ _ hex]
            dsimp only
            split
            · rename_i r1 v1 hl1
              simp only [hl1] at h
              split at h
              · rename_i hst
                rw [if_pos hst]
                split at h
                · rename_i x s2 hex2
                  rw [exec_mono ih (by omega) _ _ _ _ hex2]
                  exact h
                · cases h
              · cases h
            · rename_i hne
              split at h
              · rename_i hl1; exact absurd hl1 (hne _ _)
              · cases h
          · cases h
        · cases h
      · rename_i hne
        split at h
        · rename_i hl; exact absurd hl (hne _ _)
        · cases h
    | _ => simp [inv] at h
theorem inv_mono {ov : Ov} {n m : Nat} (h : n ≤ m) : ILe (inv P ov n) (inv P ov m) := by
  induction h with
  | refl => exact .refl _
  | step _ ih => exact fun fn args A r x => inv_mono1 _ fn args A r (ih fn args A r x)

/-! ### The limit -/
noncomputable def lim {α : Type} (f : Nat → Option α) : Option α := open Classical in if h : ∃ n r, f n = some r then some h.choose_spec.choose else none
theorem lim_some {α : Type} {f : Nat → Option α} (hm : ∀ n m r, n ≤ m → f n = some r → f m = some r) {r : α} : lim f = some r ↔ ∃ n, f n = some r := by
  unfold lim
  constructor
  · intro h
    split at h
    · rename_i he
      cases h
      exact ⟨_, he.choose_spec.choose_spec⟩
    · cases h
  · rintro ⟨n, hn⟩
    have he : ∃ n r, f n = some r := ⟨n, r, hn⟩
    rw [dif_pos he]
    have h1 := he.choose_spec.choose_spec
    have h2 := hm _ (max he.choose n) _ (Nat.le_max_left ..) h1
    have h3 := hm _ (max he.choose n) _ (Nat.le_max_right ..) hn
    rw [h2] at h3
    exact h3

noncomputable def den (P : Program) (ov : Ov) : Inv := fun fn args A => lim fun n => inv P ov n fn args A
theorem den_some {ov : Ov} {fn args A r} : den P ov fn args A = some r ↔ ∃ n, inv P ov n fn args A = some r := lim_some fun _ _ _ h => inv_mono h _ _ _ _
theorem den_inv {ov : Ov} (n : Nat) : ILe (inv P ov n) (den P ov) := fun _ _ _ _ h => den_some.2 ⟨n, h⟩

noncomputable def xden (P : Program) (ov : Ov) (round : Option Nat) (c : Code) (s : St) : Option (Ex × St) := lim fun n => exec P (den P ov) n round c s
theorem xden_some {ov : Ov} {round c s r} : xden P ov round c s = some r ↔ ∃ n, exec P (den P ov) n round c s = some r := lim_some fun _ _ _ h => exec_mono (.refl _) h _ _ _ _
/-- A limit of a function of the limit. -/
theorem lim_eq {α : Type} {f : Nat → Option α} (hm : ∀ n m r, n ≤ m → f n = some r → f m = some r) {x : Option α} (h : ∀ r, x = some r ↔ ∃ n, f n = some r) : lim f = x := by
  cases hx : x with
  | none =>
    cases hl : lim f with
    | none => rfl
    | some r => have := (h r).2 ((lim_some hm).1 hl); rw [hx] at this; cases this
  | some r => exact (lim_some hm).2 ((h r).1 hx)

section
variable {ov : Ov} {round : Option Nat}
theorem xden_const {c : Code} {s : St} {x : Option (Ex × St)} (h : ∀ n, exec P (den P ov) n round c s = x) : xden P ov round c s = x :=
  lim_eq (fun _ _ _ h => exec_mono (.refl _) h _ _ _ _) fun r => by simp only [h]; exact ⟨fun h => ⟨0, h⟩, fun ⟨_, h⟩ => h⟩
theorem xden_skip {s : St} : xden P ov round .skip s = some (.normal, s) := xden_const fun _ => rfl
theorem xden_label {s : St} {l : Nat} : xden P ov round (.label l) s = some (.normal, s) := xden_const fun _ => rfl
theorem xden_exit {s : St} {i : Nat} : xden P ov round (.exit i) s = some (.exit i, s) := xden_const fun _ => rfl
theorem xden_ret {s : St} : xden P ov round .ret s = some (.ret, s) := xden_const fun _ => rfl
theorem xden_region {s : St} {i : Nat} {ops : Array Oper} {d : Bool} : xden P ov round (.region i ops d) s = (runRegion P (den P ov) ops d s).map fun s => (.normal, s) := xden_const fun _ => rfl
theorem xden_scope {s : St} {c : Code} : xden P ov round (.scope c) s = xden P ov round c s := rfl
theorem xden_cond {s : St} {c : Operand} {x y : Code} : xden P ov round (.cond c x y) s = match ev s.τ c with
    | .bool true => xden P ov round x s
    | .bool false => xden P ov round y s
    | _ => none := by
  unfold xden
  simp only [exec]
  cases hv : ev s.τ c with
  | bool b => cases b <;> rfl
  | _ => exact lim_eq (fun _ _ _ _ h => by cases h) fun r => ⟨fun h => (by cases h), fun ⟨_, h⟩ => (by cases h)⟩
def blockK (id : Nat) : Option (Ex × St) → Option (Ex × St)
  | some (.exit i, s') => if i = id then some (.normal, s') else some (.exit i, s')
  | r => r
theorem xden_block {s : St} {c : Code} {id : Nat} : xden P ov round (.block id c) s = blockK id (xden P ov round c s) := by
  refine lim_eq (fun _ _ _ h => exec_mono (.refl _) h _ _ _ _) fun r => ?_
  constructor
  · intro h
    cases hx : xden P ov round c s with
    | none => rw [hx] at h; cases h
    | some x =>
      obtain ⟨n, hn⟩ := xden_some.1 hx
      refine ⟨n, ?_⟩
      rw [hx] at h
      simp only [exec, hn]
      exact h
  · rintro ⟨n, hn⟩
    simp only [exec] at hn
    cases hx : exec P (den P ov) n round c s with
    | none => rw [hx] at hn; cases hn
    | some x =>
      rw [xden_some.2 ⟨n, hx⟩]
      rw [hx] at hn
      exact hn
def seqK (f : St → Option (Ex × St)) : Option (Ex × St) → Option (Ex × St)
  | some (.normal, s') => f s'
  | r => r
theorem xden_seq {s : St} {a b : Code} : xden P ov round (.seq a b) s = seqK (xden P ov round b) (xden P ov round a s) := by
  refine lim_eq (fun _ _ _ h => exec_mono (.refl _) h _ _ _ _) fun r => ?_
  constructor
  · intro h
    cases hx : xden P ov round a s with
    | none => rw [hx] at h; cases h
    | some x =>
      obtain ⟨n, hn⟩ := xden_some.1 hx
      rw [hx] at h
      obtain ⟨x, s'⟩ := x
      cases x with
      | normal =>
        obtain ⟨m, hm⟩ := xden_some.1 h
        refine ⟨max n m, ?_⟩
        simp only [exec, exec_mono (.refl _) (Nat.le_max_left n m) _ _ _ _ hn, exec_mono (.refl _) (Nat.le_max_right n m) _ _ _ _ hm]
      | exit i => exact ⟨n, by simp only [exec, hn]; exact h⟩
      | ret => exact ⟨n, by simp only [exec, hn]; exact h⟩
  · rintro ⟨n, hn⟩
    simp only [exec] at hn
    cases hx : exec P (den P ov) n round a s with
    | none => rw [hx] at hn; cases hn
    | some x =>
      rw [xden_some.2 ⟨n, hx⟩]
      rw [hx] at hn
      obtain ⟨x, s'⟩ := x
      cases x with
      | normal => exact xden_some.2 ⟨n, hn⟩
      | exit i => exact hn
      | ret => exact hn
/-- A loop, one round taken out. -/
theorem xden_loop {s : St} {c : Code} : xden P ov round (.loop c) s = seqK (xden P ov round (.loop c)) (xden P ov round c s) := by
  refine lim_eq (fun _ _ _ h => exec_mono (.refl _) h _ _ _ _) fun r => ?_
  constructor
  · intro h
    cases hx : xden P ov round c s with
    | none => rw [hx] at h; cases h
    | some x =>
      obtain ⟨n, hn⟩ := xden_some.1 hx
      rw [hx] at h
      obtain ⟨x, s'⟩ := x
      cases x with
      | normal =>
        obtain ⟨m, hm⟩ := xden_some.1 h
        refine ⟨max n m + 1, ?_⟩
        simp only [exec, iter] at hm ⊢
        rw [exec_mono (.refl _) (show n ≤ max n m + 1 by omega) _ _ _ _ hn]
        exact iter_mono (fun s r => exec_mono (.refl _) (show m ≤ max n m + 1 by omega) c round s r) m (max n m) s' r (by omega) hm
      | exit i =>
        refine ⟨n + 1, ?_⟩
        simp only [exec, iter]
        rw [exec_mono (.refl _) (show n ≤ n + 1 by omega) _ _ _ _ hn]; exact h
      | ret =>
        refine ⟨n + 1, ?_⟩
        simp only [exec, iter]
        rw [exec_mono (.refl _) (show n ≤ n + 1 by omega) _ _ _ _ hn]; exact h
  · rintro ⟨n, hn⟩
    simp only [exec] at hn
    cases n with
    | zero => simp [iter] at hn
    | succ n =>
      simp only [iter] at hn
      cases hx : exec P (den P ov) (n + 1) round c s with
      | none => rw [hx] at hn; cases hn
      | some x =>
        rw [xden_some.2 ⟨n + 1, hx⟩]
        rw [hx] at hn
        obtain ⟨x, s'⟩ := x
        cases x with
        | normal =>
          refine xden_some.2 ⟨n + 1, ?_⟩
          simp only [exec]
          exact iter_mono (fun s r h => h) n (n + 1) s' r (by omega) hn
        | exit i => exact hn
        | ret => exact hn
theorem xden_range {f : Operand} {ps : Array Tmp} {assign body : Code} {s : St} : xden P ov round (.rangeFunc f ps assign body) s = exec P (den P ov) 0 round (.rangeFunc f ps assign body) s := xden_const fun _ => rfl

/-! ### A call -/
theorem runOp_lim {o : Oper} {τ : T Value} {A : CW} {r} (h : runOp P (den P ov) o τ A = some r) : ∃ n, runOp P (inv P ov n) o τ A = some r := by
  unfold runOp at h
  split at h
  · rename_i f args ats heq
    split at h
    · rename_i fn first cap hev
      cases fn with
      | func g =>
        obtain ⟨n, hn⟩ := den_some.1 h
        refine ⟨n, ?_⟩
        unfold runOp
        simp only [heq, hev]; exact hn
      | yield l =>
        dsimp only at h
        split at h
        · rename_i hc
          obtain ⟨n, hn⟩ := den_some.1 h
          refine ⟨n, ?_⟩
          unfold runOp
          simp only [heq, hev]; rw [if_pos hc]; exact hn
        · cases h
      | _ => cases h
    · cases h
  · rename_i hne
    refine ⟨0, ?_⟩
    unfold runOp
    split
    · rename_i f args ats heq
      exact absurd heq (hne f args ats)
    · exact h
theorem stepOp_lim {ops : Array Oper} {o : Oper} {s r} (h : stepOp P (den P ov) ops o s = some r) : ∃ n, stepOp P (inv P ov n) ops o s = some r := by
  unfold stepOp at h
  split at h
  · rename_i hw
    split at h
    · rename_i v A hr
      obtain ⟨n, hn⟩ := runOp_lim hr
      refine ⟨n, ?_⟩
      unfold stepOp
      rw [if_pos hw, hn]; exact h
    · cases h
  · rename_i hw
    refine ⟨0, ?_⟩
    unfold stepOp
    rw [if_neg hw]; exact h
theorem runOps_lim {ops : Array Oper} : ∀ (l : List Oper) (s r : St), runOps P (den P ov) ops l s = some r → ∃ n, runOps P (inv P ov n) ops l s = some r
  | [], _, _, h => ⟨0, h⟩
  | o :: l, s, r, h => by
    simp only [runOps] at h
    split at h
    · rename_i s' hs
      obtain ⟨n, hn⟩ := stepOp_lim hs
      obtain ⟨m, hm⟩ := runOps_lim l s' r h
      refine ⟨max n m, ?_⟩
      simp only [runOps]
      rw [stepOp_mono (inv_mono (Nat.le_max_left n m)) hn]
      exact runOps_mono (inv_mono (Nat.le_max_right n m)) l s' r hm
    · cases h
theorem trace_lim {ops : Array Oper} : ∀ (l : List (Nat × Oper)) (s : St) (r), trace P (den P ov) ops l s = some r → ∃ n, trace P (inv P ov n) ops l s = some r
  | [], _, _, h => ⟨0, h⟩
  | x :: l, s, r, h => by
    simp only [trace] at h
    split at h
    · rename_i s' hs
      split at h
      · rename_i l' z ht
        obtain ⟨n, hn⟩ := stepOp_lim hs
        obtain ⟨m, hm⟩ := trace_lim l s' _ ht
        refine ⟨max n m, ?_⟩
        simp only [trace]
        rw [stepOp_mono (inv_mono (Nat.le_max_left n m)) hn]
        simp only [trace_mono (inv_mono (Nat.le_max_right n m)) l s' _ hm]
        exact h
      · cases h
    · cases h
theorem runRegion_lim {ops : Array Oper} {draw : Bool} {s r} (h : runRegion P (den P ov) ops draw s = some r) : ∃ n, runRegion P (inv P ov n) ops draw s = some r := by
  unfold runRegion at h
  split at h
  · rename_i hd
    split at h
    · rename_i hr
      split at h
      · rename_i tr z ht
        obtain ⟨n, hn⟩ := trace_lim _ _ _ ht
        refine ⟨n, ?_⟩
        unfold runRegion
        rw [if_pos hd, if_pos hr, hn]; exact h
      · cases h
    · cases h
  · rename_i hd
    obtain ⟨n, hn⟩ := runOps_lim _ _ _ h
    refine ⟨n, ?_⟩
    unfold runRegion
    rw [if_neg hd]; exact hn
theorem iter_lim {b : St → Option (Ex × St)} {b' : Nat → St → Option (Ex × St)} (hm : ∀ n m s r, n ≤ m → b' n s = some r → b' m s = some r) (hb : ∀ s r, b s = some r → ∃ n, b' n s = some r) :
    ∀ (n : Nat) (s) (r), iter b n s = some r → ∃ k, iter (b' k) n s = some r
  | 0, _, _, h => by simp [iter] at h
  | n + 1, s, r, h => by
    simp only [iter] at h
    cases hs : b s with
    | none => rw [hs] at h; cases h
    | some x =>
      rw [hs] at h
      obtain ⟨k, hk⟩ := hb s x hs
      obtain ⟨x, s'⟩ := x
      cases x with
      | normal =>
        obtain ⟨k', hk'⟩ := iter_lim hm hb n s' r h
        refine ⟨max k k', ?_⟩
        simp only [iter]
        rw [hm _ _ _ _ (Nat.le_max_left k k') hk]
        exact iter_mono (fun s r => hm _ _ s r (Nat.le_max_right k k')) n n s' r (Nat.le_refl _) hk'
      | exit i => exact ⟨k, by simp only [iter, hk]; exact h⟩
      | ret => exact ⟨k, by simp only [iter, hk]; exact h⟩
theorem exec_lim {n : Nat} : ∀ (c : Code) (round : Option Nat) (s : St) (r), exec P (den P ov) n round c s = some r → ∃ k, exec P (inv P ov k) n round c s = some r
  | .skip, _, _, _, h => ⟨0, h⟩
  | .label _, _, _, _, h => ⟨0, h⟩
  | .region _ ops draw, _, s, r, h => by
    simp only [exec] at h
    obtain ⟨z, hz, rfl⟩ := Option.map_eq_some_iff.1 h
    obtain ⟨k, hk⟩ := runRegion_lim hz
    exact ⟨k, by simp only [exec, hk]; rfl⟩
  | .seq a b, round, s, r, h => by
    simp only [exec] at h
    cases ha : exec P (den P ov) n round a s with
    | none => rw [ha] at h; cases h
    | some x =>
      rw [ha] at h
      obtain ⟨k, hk⟩ := exec_lim a round s x ha
      obtain ⟨x, s'⟩ := x
      cases x with
      | normal =>
        obtain ⟨k', hk'⟩ := exec_lim b round s' r h
        refine ⟨max k k', ?_⟩
        simp only [exec]
        rw [exec_mono (inv_mono (Nat.le_max_left k k')) (Nat.le_refl _) _ _ _ _ hk]
        exact exec_mono (inv_mono (Nat.le_max_right k k')) (Nat.le_refl _) _ _ _ _ hk'
      | exit i => exact ⟨k, by simp only [exec, hk]; exact h⟩
      | ret => exact ⟨k, by simp only [exec, hk]; exact h⟩
  | .cond c x y, round, s, r, h => by
    simp only [exec] at h ⊢
    split at h
    · obtain ⟨k, hk⟩ := exec_lim x round s r h
      exact ⟨k, hk⟩
    · obtain ⟨k, hk⟩ := exec_lim y round s r h
      exact ⟨k, hk⟩
    · cases h
  | .block id c, round, s, r, h => by
    simp only [exec] at h
    cases ha : exec P (den P ov) n round c s with
    | none => rw [ha] at h; cases h
    | some x =>
      obtain ⟨k, hk⟩ := exec_lim c round s x ha
      rw [ha] at h
      exact ⟨k, by simp only [exec, hk]; exact h⟩
  | .loop c, round, s, r, h => by
    simp only [exec] at h ⊢
    exact iter_lim (b' := fun k => exec P (inv P ov k) n round c) (fun k m s r hk => exec_mono (inv_mono hk) (Nat.le_refl _) c round s r) (fun s r => exec_lim c round s r) n s r h
  | .scope c, round, s, r, h => by
    simp only [exec] at h ⊢
    exact exec_lim c round s r h
  | .exit _, _, _, _, h => ⟨0, h⟩
  | .ret, _, _, _, h => ⟨0, h⟩
  | .rangeFunc f ps assign body, round, s, r, h => by
    simp only [exec] at h
    split at h
    · cases h
    · rename_i d A1 mark hd
      split at h
      · rename_i g first cap hf
        split at h
        · cases h
        · rename_i q A2 hc
          split at hc
          · rename_i he
            obtain ⟨k, hk⟩ := den_some.1 hc
            refine ⟨k, ?_⟩
            simp only [exec, hd, hf, if_pos he, hk]
            exact h
          · cases hc
      · cases h
  | .goto _, _, _, _, h => by simp [exec] at h
  | .refuse _, _, _, _, h => by simp [exec] at h
theorem xden_lim {c : Code} {s : St} {r} (h : xden P ov round c s = some r) : ∃ k, exec P (inv P ov k) k round c s = some r := by
  obtain ⟨n, hn⟩ := xden_some.1 h
  obtain ⟨k, hk⟩ := exec_lim c round s r hn
  exact ⟨max n k, exec_mono (inv_mono (Nat.le_max_right n k)) (Nat.le_max_left n k) _ _ _ _ hk⟩
def leaveK (P : Program) (fn : Func) : Option (Ex × St) → Option (Value × CW)
  | some (.exit _, _) => none
  | some (_, s) => match shut s.dfr s.A with
    | some A' => (resultOf P A' s.τ fn.results.toList).map fun v => (v, A')
    | none => none
  | none => none
/-- A call of a function goes through its body. -/
theorem den_func {f : FuncId} {fn : Func} {c : Code} {args : Array Value} {A : CW} (hov : ov f = none) (hfn : P.funcs[f]? = some fn) (hb : fn.body = some c) (hc : args.size ≤ fn.ntmps ∧ fn.name ≠ "runtime.NumGoroutine") {r : Value × CW}
    (h : leaveK P fn (xden P ov none c { τ := initT args.toList, nt := fn.ntmps, A, dfr := [] }) = some r) : den P ov (.func f) args A = some r := by
  cases hx : xden P ov none c { τ := initT args.toList, nt := fn.ntmps, A, dfr := [] } with
  | none => rw [hx] at h; cases h
  | some x =>
    obtain ⟨k, hk⟩ := xden_lim hx
    refine den_some.2 ⟨k + 1, ?_⟩
    rw [hx] at h
    rw [inv]
    simp only [hov, hfn, hb]
    rw [if_pos hc, hk]
    obtain ⟨x, s⟩ := x
    cases x <;> exact h
/-- A contract that is taken from elsewhere. -/
theorem den_ov {f : FuncId} {c : Array Value → CW → Option (Value × CW)} (hov : ov f = some c) (args : Array Value) (A : CW) : den P ov (.func f) args A = c args A := by
  refine lim_eq (fun _ _ _ h => inv_mono h _ _ _ _) fun r => ⟨fun h => ⟨1, by rw [inv]; simp only [hov]; exact h⟩, fun ⟨n, h⟩ => ?_⟩
  cases n with
  | zero => simp [inv] at h
  | succ n => rw [inv] at h; simp only [hov] at h; exact h
end
end Go.AM

