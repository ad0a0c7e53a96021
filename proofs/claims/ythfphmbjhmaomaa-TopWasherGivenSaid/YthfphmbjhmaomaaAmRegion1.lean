/-
  AM: for regions that draw their order: operations that make an object; what hangs on what; the order that we carry them out in.
-/
import Derived.Test.YthfphmbjhmaomaaAmOps
namespace Go.AM
variable {P : Program} {γ γ' γ₀ : Gam} {A A' A₀ : CW} {w w' w₀ : World}

/-! ### An operation that makes an object, at whatever time -/
theorem cells_OR {k : Nat} (hf : γ k = none) {l l' : List Value} (hl : VL γ l l') (b : Nat) (t t' : TypeId) :
    OR P (addG γ k ⟨b, 0, l.length, 0, false⟩) ⟨b, 0, l.length, 0, false⟩ (some (.cells l'.toArray t' (0, 0))) (.cells l t false false 0) := by
  refine ⟨rfl, fun h => by simp at h, .inr ⟨_, _, _, rfl, ?_, ?_, ?_, fun _ i _ _ => ?_⟩⟩
  · have := hl.1; simp; omega
  · simp
  · have e : (l'.toArray.toList.drop 0).take l.length = l' := by simp [hl.1]
    simp only
    rw [e]
    exact hl.mono (addG_ext hf)
  · simp

theorem buildSlice_new {t : TypeId} {len : Nat} {parts : List (Nat × Value)} {parts' : Array (Nat × Value)} {v : Value}
    (hp : PR γ parts parts'.toList) (h : buildSlice P A t len parts = some (v, A')) (w : World) :
    ∃ l r' e, VL γ l r' ∧ v = .slice (some ⟨A.n, 0, none⟩) len len ∧ A' = A.push (.cells l e false false 0) ∧
      (Instr.buildSlice t len parts').run P w = .ok (.slice (some ⟨w.heap.size, 0, none⟩) len len) { w with heap := w.heap.push (.cells r'.toArray e) } := by
  unfold buildSlice at h
  split at h
  · rename_i e hu
    split at h
    · rename_i s z hs hz
      split at h
      · rename_i hcond
        obtain ⟨hzs, hs0, hlim⟩ := hcond
        split at h
        · rename_i l hfl
          split at h
          · cases h
            have hzf := (zeroOf_spec hz).2.1
            have hc : VL γ z.cells.toList z.cells.toList := (VR.of_flat γ z hzf).cells
            have hr := hc.rep len
            have hfill : ∃ r', Instr.fill (fun i => some (i * s, s)) ((Array.range (len * s)).map fun i => (if len * s = 0 then #[] else z.cells)[i % (if len * s = 0 then #[] else z.cells).size]!) parts'.toList = some r' ∧ VL γ l r'.toList := by
              refine fill_sound _ parts parts'.toList (rep z.cells.toList len) _ l hp ?_ hfl
              by_cases h0 : len * s = 0
              · have : len = 0 := by
                  rcases Nat.mul_eq_zero.1 h0 with h | h
                  · exact h
                  · exact absurd h hs0
                subst this
                simpa [rep] using VL.nil
              · simp only [if_neg h0]
                rw [← hzs, range_rep]
                simpa using hr
            obtain ⟨r', h1, h2⟩ := hfill
            refine ⟨l, r'.toList, e, h2, rfl, rfl, ?_⟩
            by_cases h0 : len * s = 0
            · have e0 : Array.range 0 = #[] := by simp
              simp only [h0, if_true, e0, Array.map_empty] at h1
              simp [Instr.buildSlice, run_underlying' hu, run_sizeOf' hs, h0, newRow, h1, e0]
            · simp only [if_neg h0] at h1
              have : ¬ (len * s > 16777216) := by omega
              simp [Instr.buildSlice, run_underlying' hu, run_sizeOf' hs, run_zero' hz, h0, this, newRow, h1]
          · cases h
        · cases h
      · cases h
    · cases h
  · cases h

theorem prim_new {o : Oper} {τ : T Value} {nt : Nat} {a : Act} {v : Value} {C : CW} (hn : isNew o.op = true) (h : prim P o τ A = some (v, A')) (hw : WRel P γ C w) (hf : γ A.n = none)
    (ht : TR γ τ nt a.tmps) (hok : okOp P.globals.size o = true) :
    ∃ x obj e v', A' = A.push x ∧ (execOp a.eval o).run P w = .ok (.value v') { w with heap := w.heap.push obj } ∧ e.b = w.heap.size ∧ OR P (addG γ A.n e) e (some obj) x ∧ VR (addG γ A.n e) v v' := by
  have hopd : ∀ x ∈ o.op.operands, okOperand P.globals.size x = true := by
    unfold okOp at hok
    rw [Array.all_eq_true'] at hok
    exact hok
  have ev' : ∀ x ∈ o.op.operands, VR γ (ev τ x) (a.eval x) := fun x hx => ev_rel ht hw (hopd x hx)
  obtain ⟨dst, op, type, pos, after, guard⟩ := o
  simp only at hopd ev' hn
  cases op with
  | alloc t =>
    simp only [prim] at h
    obtain ⟨z, hz, he⟩ := Option.map_eq_some_iff.1 h
    cases he
    have hzf := (zeroOf_spec hz).2.1
    have hc : VL γ z.cells.toList z.cells.toList := (VR.of_flat γ z hzf).cells
    refine ⟨_, _, _, _, rfl, ?_, ?_, cells_OR hf hc w.heap.size t t, new_ptr γ A.n rfl rfl⟩
    · simp [execOp, Instr.alloc, run_zero' hz, newVar, newRow]
    · rfl
  | buildSlice t len parts =>
    simp only [prim] at h
    have hp : PR γ (parts.toList.map fun (i, x) => (i, ev τ x)) ((parts.map fun (i, x) => (i, a.eval x)).toList) := by
      simp only [Array.toList_map]
      exact PR.map parts.toList (ev τ) a.eval fun x hx => ev' x.2 (by simp [Op.operands]; exact ⟨x.1, by simpa using hx⟩)
    obtain ⟨l, r', e, h1, rfl, rfl, h2⟩ := buildSlice_new hp h w
    refine ⟨_, _, _, _, rfl, ?_, ?_, cells_OR hf h1 w.heap.size e e, new_slice γ A.n (Nat.le_refl _) rfl rfl⟩
    · simp [execOp, h2]
    · rfl
  | _ => simp [isNew] at hn

/-- An object of the canonical heap that is made in the real one only now. -/
theorem Step.light (h : Step P γ₀ A₀ w₀ γ A w) {k : Nat} {e : Emb} {obj : Obj} (hg : γ k = none) (h0 : A₀.n ≤ k) (hk : k < A.n) (hb : e.b = w.heap.size)
    (ho : OR P (addG γ k e) e (some obj) (A.get k)) (hh : w'.heap = w.heap.push obj) (hq : Quiet w w') : Step P γ₀ A₀ w₀ (addG γ k e) A w' := by
  have hlt : ∀ k' e', addG γ k e k' = some e' → k' ≠ k → e'.b < w.heap.size ∨ (k' < A.n ∧ harmless (A.get k') = true) := fun k' e' hk' hkn => by
    rw [addG_ne _ _ hkn] at hk'; exact h.rel.blk k' e' hk'
  refine ⟨h.calm.trans (.push hh hq), h.ext.trans (addG_ext hg), fun k' e' hk' => ?_, h.fresh, ⟨fun k' e' hk' hn => ?_, fun k₁ e₁ k₂ e₂ h1 h2 hne hbb => ?_, fun k' e' hk' => ?_, fun g hg' => ?_, h.rel.wf⟩,
    h.n, h.cfr, h.le, h.ro, ?_, fun k' e' hk' hn hlt' => ?_, fun b hb' hall => ?_⟩
  · by_cases hkn : k' = k
    · subst hkn; exact .inr ⟨h0, hk⟩
    · rw [addG_ne _ _ hkn] at hk'; exact h.dom k' e' hk'
  · by_cases hkn : k' = k
    · subst hkn
      simp at hk'; subst hk'
      rw [hh, hb]; simpa using ho
    · rw [addG_ne _ _ hkn] at hk'
      have hor := (h.rel.obj k' e' hk' hn).mono (addG_ext (e := e) hg)
      rcases h.rel.blk k' e' hk' with hlt | ⟨_, hh'⟩
      · rw [hh, Array.getElem?_push_lt hlt, ← Array.getElem?_eq_getElem hlt]
        exact hor
      · exact hor.of_harmless hh'
  · by_cases hk1 : k₁ = k
    · subst hk1; simp at h1; subst h1
      rcases hlt k₂ e₂ h2 (fun h => hne h.symm) with this | this
      · omega
      · exact .inr (.inl this)
    · by_cases hk2 : k₂ = k
      · subst hk2; simp at h2; subst h2
        rcases hlt k₁ e₁ h1 hk1 with this | this
        · omega
        · exact .inl this
      · rw [addG_ne _ _ hk1] at h1; rw [addG_ne _ _ hk2] at h2
        exact h.rel.sep k₁ e₁ k₂ e₂ h1 h2 hne hbb
  · rw [hh, Array.size_push]
    by_cases hkn : k' = k
    · subst hkn; simp at hk'; subst hk'; exact .inl (by omega)
    · exact (hlt k' e' hk' hkn).imp (fun h => by omega) id
  · obtain ⟨e', h1, h2⟩ := h.rel.glob g hg'
    exact ⟨e', addG_ext hg _ _ h1, h2⟩
  · rw [hh, Array.size_push]; have := h.size; omega
  · by_cases hkn : k' = k
    · subst hkn; simp at hk'; subst hk'
      have := h.size; omega
    · rw [addG_ne _ _ hkn] at hk'; exact h.old k' e' hk' hn hlt'
  · have h1 := h.wfr b hb' hall
    have h2 : b < w.heap.size := Nat.lt_of_lt_of_le hb' h.size
    rw [hh, Array.getElem?_push_lt h2, ← Array.getElem?_eq_getElem h2]; exact h1

/-- An object of the canonical heap that is yet to be made in the real one. -/
theorem Step.reserve (h : Step P γ₀ A₀ w₀ γ A w) (x : Ob) (hg : γ A.n = none) : Step P γ₀ A₀ w₀ γ (A.push x) w := by
  have hne : ∀ k e, γ k = some e → k ≠ A.n := fun k e hk hkn => by subst hkn; rw [hg] at hk; cases hk
  have hn := h.n
  refine ⟨h.calm, h.ext, fun k e hk => ?_, fun k h1 h2 => ?_, ⟨fun k e hk hn => ?_, fun k₁ e₁ k₂ e₂ h1 h2 hne' hbb => ?_, fun k e hk => (by rw [CW.get_push_ne _ _ (hne k e hk)]; exact (h.rel.blk k e hk).imp id fun ⟨a, b⟩ => ⟨by simp; omega, b⟩), h.rel.glob, fun k hk => ?_⟩,
    by simp; omega, fun k hk hn => ?_, fun k hk => ?_, fun k hk hr => ?_, h.size, fun k e hk hn' hlt => ?_, fun b hb hall => ?_⟩
  · rcases h.dom k e hk with h1 | ⟨h1, h2⟩
    · exact .inl h1
    · exact .inr ⟨h1, by simp; omega⟩
  · simp at h2
    by_cases hk : k = A.n
    · subst hk
      cases hg0 : γ₀ A.n with
      | none => rfl
      | some e => rw [h.ext _ _ hg0] at hg; cases hg
    · exact h.fresh k h1 (by omega)
  · simp at hn
    have := hne k e hk
    rw [CW.get_push_ne _ _ this]
    exact h.rel.obj k e hk (by omega)
  · rw [CW.get_push_ne _ _ (hne k₁ e₁ h1), CW.get_push_ne _ _ (hne k₂ e₂ h2)]
    rcases h.rel.sep k₁ e₁ k₂ e₂ h1 h2 hne' hbb with ⟨a, b⟩ | ⟨a, b⟩ | ⟨a, b, c⟩
    · exact .inl ⟨by simp; omega, b⟩
    · exact .inr (.inl ⟨by simp; omega, b⟩)
    · exact .inr (.inr ⟨by simp; omega, by simp; omega, c⟩)
  · simp at hk; rw [CW.get_push_ne _ _ (by omega)]; exact h.rel.wf k (by omega)
  · rw [CW.get_push_ne _ _ (by omega)]; exact h.cfr k hk hn
  · rw [CW.get_push_ne _ _ (by omega)]; exact h.le k hk
  · rw [CW.get_push_ne _ _ (by omega)]; exact h.ro k hk hr
  · obtain ⟨k₀, e₀, a, b, c, d⟩ := h.old k e hk hn' hlt
    refine ⟨k₀, e₀, a, b, c, ?_⟩
    rw [CW.get_push_ne _ _ (by omega), CW.get_push_ne _ _ (hne k e hk)]; exact d
  · exact h.wfr b hb fun k e hk he hlt => by
      have := hall k e hk he hlt
      rw [CW.get_push_ne _ _ (by omega)] at this; exact this

/-! ### What hangs on what -/
theorem foldl_congr' {α β : Type} {f g : β → α → β} : ∀ (l : List α) (s : β), (∀ s x, x ∈ l → f s x = g s x) → l.foldl f s = l.foldl g s
  | [], _, _ => rfl
  | x :: r, s, h => by
    simp only [List.foldl_cons]
    rw [h s x (by simp)]
    exact foldl_congr' r _ fun s y hy => h s y (by simp [hy])
theorem maskOf_congr {t t' : T Nat} {o : Oper} (h : ∀ e ∈ o.after.toList, Region.binds .any e = true → t.get e.on = t'.get e.on) : maskOf t o = maskOf t' o := by
  unfold maskOf
  refine foldl_congr' _ _ fun s e he => ?_
  split
  · rename_i hb; rw [h e he hb]
  · rfl
theorem masks_spec : ∀ (l : List Oper) (j : Nat) (t : T Nat), (∀ k, k < j → (masks l j t).get k = t.get k) ∧
    ∀ (i : Nat) (o : Oper), l[i]? = some o → (∀ e ∈ o.after.toList, Region.binds .any e = true → e.on < j + i) → (masks l j t).get (j + i) = some (maskOf (masks l j t) o)
  | [], j, t => ⟨fun _ _ => rfl, fun i o h => by simp at h⟩
  | o :: r, j, t => by
    have e : masks (o :: r) j t = masks r (j + 1) (t.set j (maskOf t o)) := by simp only [masks, force_eq]
    rw [e]
    obtain ⟨h1, h2⟩ := masks_spec r (j + 1) (t.set j (maskOf t o))
    have h3 : ∀ k, k < j → (masks r (j + 1) (t.set j (maskOf t o))).get k = t.get k := fun k hk => by
      rw [h1 k (by omega), T.get_set_ne _ _ (by omega)]
    refine ⟨h3, fun i o' hi hlt => ?_⟩
    cases i with
    | zero =>
      simp at hi; subst hi
      simp only [Nat.add_zero] at hlt ⊢
      rw [h1 j (by omega), T.get_set_self]
      congr 1
      exact maskOf_congr fun e he hb => (h3 e.on (hlt e he hb)).symm
    | succ i =>
      have := h2 i o' (by simpa using hi) (fun e he hb => by have := hlt e he hb; omega)
      rw [show j + (i + 1) = j + 1 + i by omega]; exact this

theorem mask_fold {t : T Nat} {i : Nat} : ∀ (l : List Edge) (s : Nat), (l.foldl (fun s e => if Region.binds .any e then s ||| 2 ^ e.on ||| (t.get e.on).getD 0 else s) s).testBit i = true →
    s.testBit i = true ∨ ∃ e ∈ l, Region.binds .any e = true ∧ (e.on = i ∨ ((t.get e.on).getD 0).testBit i = true)
  | [], s, h => .inl h
  | e :: r, s, h => by
    simp only [List.foldl_cons] at h
    rcases mask_fold r _ h with h1 | ⟨e', he, h1⟩
    · split at h1
      · rename_i hb
        simp only [Nat.testBit_or, Bool.or_eq_true, Nat.testBit_two_pow, decide_eq_true_eq] at h1
        rcases h1 with (h1 | h1) | h1
        · exact .inl h1
        · exact .inr ⟨e, by simp, hb, .inl h1⟩
        · exact .inr ⟨e, by simp, hb, .inr h1⟩
      · exact .inl h1
    · exact .inr ⟨e', by simp [he], h1⟩

theorem numbered_get : ∀ (l : List Oper) (i : Nat) (x : Nat × Oper), x ∈ numbered l i → ∃ j, l[j]? = some x.2 ∧ x.1 = i + j
  | [], _, _, h => by cases h
  | o :: r, i, x, h => by
    simp only [numbered, List.mem_cons] at h
    rcases h with rfl | h
    · exact ⟨0, by simp, rfl⟩
    · obtain ⟨j, h1, h2⟩ := numbered_get r (i + 1) x h
      exact ⟨j + 1, by simpa using h1, by omega⟩
theorem numbered_mem : ∀ (l : List Oper) (i j : Nat) (o : Oper), l[j]? = some o → (i + j, o) ∈ numbered l i
  | [], _, _, _, h => by simp at h
  | o :: r, i, 0, o', h => by simp at h; subst h; simp [numbered]
  | o :: r, i, j + 1, o', h => by
    simp only [numbered, List.mem_cons]
    have := numbered_mem r (i + 1) j o' (by simpa using h)
    rw [show i + (j + 1) = i + 1 + j by omega]
    exact .inr this

theorem mem_sift {bf : T Nat} : ∀ (l : List (Nat × Oper)) (d : Nat), (∀ x, x ∈ (sift bf l d).1 → x ∈ l) ∧ (∀ x, x ∈ (sift bf l d).2.1 → x ∈ l)
  | [], d => by simp [sift]
  | y :: r, d => by
    simp only [sift, force_eq]
    have h1 := mem_sift (bf := bf) r (d ||| 2 ^ y.1)
    have h2 := mem_sift (bf := bf) r d
    split
    · refine ⟨fun x hx => ?_, fun x hx => ?_⟩
      · simp only [List.mem_cons] at hx ⊢
        exact hx.imp id (h1.1 x)
      · simp only [List.mem_cons]
        exact .inr (h1.2 x hx)
    · refine ⟨fun x hx => ?_, fun x hx => ?_⟩
      · simp only [List.mem_cons]
        exact .inr (h2.1 x hx)
      · simp only [List.mem_cons] at hx ⊢
        exact hx.imp id (h2.2 x)
theorem mem_firstOf {bf : T Nat} {d : Nat} : ∀ (l : List (Nat × Oper)) (y : Nat × Oper) (l' : List (Nat × Oper)), firstOf bf d l = some (y, l') → y ∈ l ∧ ∀ x, x ∈ l' → x ∈ l
  | [], y, l', h => by simp [firstOf] at h
  | z :: r, y, l', h => by
    simp only [firstOf] at h
    split at h
    · cases h; exact ⟨by simp, fun x hx => by simp [hx]⟩
    · split at h
      · rename_i y' l'' h1
        cases h
        obtain ⟨h2, h3⟩ := mem_firstOf r _ _ h1
        refine ⟨by simp [h2], fun x hx => ?_⟩
        simp only [List.mem_cons] at hx ⊢
        exact hx.imp id (h3 x)
      · cases h
theorem mem_orderGo {bf : T Nat} : ∀ (n : Nat) (l : List (Nat × Oper)) (d : Nat) (x : Nat × Oper), x ∈ orderGo bf n l d → x ∈ l
  | 0, l, d, x, h => h
  | n + 1, l, d, x, h => by
    simp only [orderGo, force_eq] at h
    have hs := mem_sift (bf := bf) l d
    split at h
    · rename_i y b' hf
      obtain ⟨h1, h2⟩ := mem_firstOf _ _ _ hf
      simp only [List.mem_append, List.mem_cons] at h
      rcases h with h | rfl | h
      · exact hs.1 x h
      · exact hs.2 _ h1
      · exact hs.2 _ (h2 _ (mem_orderGo n _ _ _ h))
    · simp only [List.mem_append] at h
      rcases h with h | h
      · exact hs.1 x h
      · exact hs.2 x h

theorem pairsOk_get {α : Type} {f : α → α → Bool} : ∀ (l : List α), pairsOk f l = true → ∀ (p q : Nat) (x y : α), p < q → l[p]? = some x → l[q]? = some y → f x y = true
  | [], _, p, q, x, y, _, h, _ => by simp at h
  | z :: r, h, p, q, x, y, hpq, hx, hy => by
    simp only [pairsOk, Bool.and_eq_true] at h
    cases q with
    | zero => omega
    | succ q =>
      simp at hy
      cases p with
      | zero =>
        simp at hx; subst hx
        have := h.1
        rw [List.all_eq_true] at this
        exact this y (List.mem_of_getElem? hy)
      | succ p => exact pairsOk_get r h.2 p q x y (by omega) (by simpa using hx) hy

theorem allIn_get {l : List (Nat × Oper)} : ∀ (n : Nat), allIn l n = true → ∀ i, i < n → ∃ x ∈ l, x.1 = i
  | 0, _, i, h => by omega
  | n + 1, h, i, hi => by
    simp only [allIn, Bool.and_eq_true, List.any_eq_true] at h
    by_cases hin : i = n
    · subst hin
      obtain ⟨x, h1, h2⟩ := h.1
      exact ⟨x, h1, by simpa using h2⟩
    · exact allIn_get n h.2 i (by omega)

/-- What a region that is in order is. -/
structure Reg (ops : Array Oper) (L : List (Nat × Oper)) (bf : T Nat) : Prop where
  op : ∀ (p : Nat) (x : Nat × Oper), L[p]? = some x → ops[x.1]? = some x.2
  all : ∀ (i : Nat), i < ops.size → ∃ (p : Nat) (o : Oper), L[p]? = some (i, o)
  pair : ∀ (p q : Nat) (x y : Nat × Oper), p < q → L[p]? = some x → L[q]? = some y → pairOk ops bf x y = true
  edge : ∀ (i : Nat) (o : Oper), ops[i]? = some o → ∀ e ∈ o.after.toList, Region.binds .any e = true → e.on < i
  ahd : ∀ (i j : Nat) (o : Oper), ops[j]? = some o → ahead bf i j = true → ∃ e ∈ o.after.toList, Region.binds .any e = true ∧ (e.on = i ∨ ahead bf i e.on = true)

theorem regionOk_spec {ops : Array Oper} (h : regionOk ops = true) : Reg ops (orderOf ops) (bfOf ops) := by
  unfold regionOk at h
  simp only [Bool.and_eq_true] at h
  obtain ⟨⟨⟨h1, h2⟩, h3⟩, h4⟩ := h
  have hop : ∀ (p : Nat) (x : Nat × Oper), (orderOf ops)[p]? = some x → ops[x.1]? = some x.2 := fun p x hx => by
    obtain ⟨j, h5, h6⟩ := numbered_get _ _ _ (mem_orderGo _ _ _ _ (List.mem_of_getElem? hx))
    simp at h5 h6
    rw [h6]; exact h5
  have hedge : ∀ (i : Nat) (o : Oper), ops[i]? = some o → ∀ e ∈ o.after.toList, Region.binds .any e = true → e.on < i := fun i o hi e he hb => by
    unfold edgesOk at h1
    rw [List.all_eq_true] at h1
    have := h1 (0 + i, o) (numbered_mem _ 0 i o (by simpa using hi))
    rw [List.all_eq_true] at this
    have := this e he
    rw [hb] at this
    simpa using this
  refine ⟨hop, fun i hi => ?_, fun p q x y hpq hx hy => pairsOk_get _ h4 p q x y hpq hx hy, hedge, fun i j o hj hah => ?_⟩
  · obtain ⟨x, h5, h6⟩ := allIn_get _ h2 i hi
    obtain ⟨p, hp⟩ := List.mem_iff_getElem?.1 h5
    exact ⟨p, x.2, by rw [hp, ← h6]⟩
  · have hm := (masks_spec ops.toList 0 .nil).2 j o (by simpa using hj) (fun e he hb => by have := hedge j o hj e he hb; omega)
    rw [Nat.zero_add] at hm
    unfold ahead at hah
    have e0 : bfOf ops = masks ops.toList 0 .nil := rfl
    rw [e0, hm] at hah
    simp only [Option.getD_some] at hah
    unfold maskOf at hah
    rcases mask_fold _ _ hah with h5 | ⟨e, he, hb, h5⟩
    · simp at h5
    · exact ⟨e, he, hb, by unfold ahead; rw [e0]; exact h5⟩
end Go.AM

/-
  AM: for regions that draw their order: what an operation looks at; the trace.
-/
namespace Go.AM
variable {P : Program} {γ γ' γ₀ : Gam} {A A' A₀ : CW} {w w' w₀ : World}

theorem map_ev_congr {τ τ' : T Value} {xs : Array Operand} (h : ∀ x ∈ xs, ev τ x = ev τ' x) : xs.map (ev τ) = xs.map (ev τ') := by
  apply Array.map_congr_left
  exact h
theorem prim_congr {o : Oper} {τ τ' : T Value} (h : ∀ x ∈ o.op.operands, ev τ x = ev τ' x) : prim P o τ A = prim P o τ' A := by
  obtain ⟨dst, op, type, pos, after, guard⟩ := o
  simp only at h
  have hparts : ∀ {parts : Array (Nat × Operand)}, (∀ x ∈ parts, ev τ x.2 = ev τ' x.2) → (parts.toList.map fun (i, x) => (i, ev τ x)) = parts.toList.map fun (i, x) => (i, ev τ' x) := fun {parts} hp => by
    apply List.map_congr_left
    intro x hx
    simp only [hp x (by simpa using hx)]
  have hopt : ∀ {x : Option Operand}, (∀ y, x = some y → ev τ y = ev τ' y) → x.map (ev τ) = x.map (ev τ') := fun {x} hx => by
    cases x with
    | none => rfl
    | some y => simp [hx y rfl]
  cases op with
  | build t parts => simp only [prim]; rw [hparts fun x hx => h x.2 (by simp [Op.operands]; exact ⟨x.1, hx⟩)]
  | buildSlice t l parts => simp only [prim]; rw [hparts fun x hx => h x.2 (by simp [Op.operands]; exact ⟨x.1, hx⟩)]
  | makeFunc f first cap =>
    cases f with
    | func f =>
      simp only [prim]
      rw [map_ev_congr fun x hx => h x (by simp [Op.operands, hx]), map_ev_congr (xs := cap) fun x hx => h x (by simp [Op.operands, hx])]
    | _ => rfl
  | slice t x lo hi mx =>
    have e1 := h x (by simp [Op.operands])
    have e2 := hopt (x := lo) fun y hy => h y (by subst hy; simp [Op.operands])
    have e3 := hopt (x := hi) fun y hy => h y (by subst hy; simp [Op.operands])
    cases mx with
    | none => simp only [prim, e1, e2, e3]
    | some m => simp only [prim, e1, e2, e3, h m (by simp [Op.operands])]
  | makeMap t r => cases r <;> rfl
  | next x b =>
    cases b with
    | true => simp only [prim, h x (by simp [Op.operands])]
    | false => rfl
  | call c =>
    obtain ⟨callee, args, ats⟩ := c
    cases callee with
    | value f => rfl
    | invoke r m => rfl
    | builtin b =>
      have e1 := map_ev_congr (τ := τ) (τ' := τ') (xs := args) fun x hx => h x (by simp [Op.operands, Call.operands, hx])
      cases b <;> simp only [prim, e1]
  | move x => simp only [prim, h x (by simp [Op.operands])]
  | assign x => simp only [prim, h x (by simp [Op.operands])]
  | pick c x y => simp only [prim, h c (by simp [Op.operands]), h x (by simp [Op.operands]), h y (by simp [Op.operands])]
  | alloc t => rfl
  | box t x => simp only [prim, h x (by simp [Op.operands])]
  | load t x => simp only [prim, h x (by simp [Op.operands])]
  | store t x y => simp only [prim, h x (by simp [Op.operands]), h y (by simp [Op.operands])]
  | nilCheck x => simp only [prim, h x (by simp [Op.operands])]
  | binOp op t x y yt => simp only [prim, h x (by simp [Op.operands]), h y (by simp [Op.operands])]
  | unOp op t x => simp only [prim, h x (by simp [Op.operands])]
  | convert s d x => simp only [prim, h x (by simp [Op.operands])]
  | makeSlice t l c => simp only [prim, h l (by simp [Op.operands]), h c (by simp [Op.operands])]
  | fieldAddr s x f => simp only [prim, h x (by simp [Op.operands])]
  | field t x f => simp only [prim, h x (by simp [Op.operands])]
  | indexAddr t x i => simp only [prim, h x (by simp [Op.operands]), h i (by simp [Op.operands])]
  | index t x i => simp only [prim, h x (by simp [Op.operands]), h i (by simp [Op.operands])]
  | lookup t x i ok => simp only [prim, h x (by simp [Op.operands]), h i (by simp [Op.operands])]
  | mapUpdate t m i x => simp only [prim, h m (by simp [Op.operands]), h i (by simp [Op.operands]), h x (by simp [Op.operands])]
  | mapEntry t m i => simp only [prim, h m (by simp [Op.operands]), h i (by simp [Op.operands])]
  | entryStore t m s x => simp only [prim, h m (by simp [Op.operands]), h s (by simp [Op.operands]), h x (by simp [Op.operands])]
  | range t x => simp only [prim, h x (by simp [Op.operands])]
  | extract x i => simp only [prim, h x (by simp [Op.operands])]
  | _ => rfl
theorem runOp_congr {I : Inv} {o : Oper} {τ τ' : T Value} (h : ∀ x ∈ o.op.operands, ev τ x = ev τ' x) : runOp P I o τ A = runOp P I o τ' A := by
  unfold runOp
  split
  · rename_i f args ats hop
    rw [h f (by rw [hop]; simp [Op.operands, Call.operands]), map_ev_congr (τ := τ) (τ' := τ') (xs := args) fun x hx => h x (by rw [hop]; simp [Op.operands, Call.operands, hx])]
  · exact prim_congr h
theorem readsAt_congr {op : Op} {τ τ' : T Value} (h : ∀ x ∈ op.operands, ev τ x = ev τ' x) : readsAt τ op = readsAt τ' op := by
  unfold readsAt
  split
  · rw [h _ (by simp [Op.operands])]
  · rw [h _ (by simp [Op.operands])]
  · rename_i args ats
    rw [map_ev_congr (τ := τ) (τ' := τ') (xs := args) fun x hx => h x (by simp [Op.operands, Call.operands, hx])]
  · rename_i args ats
    rw [map_ev_congr (τ := τ) (τ' := τ') (xs := args) fun x hx => h x (by simp [Op.operands, Call.operands, hx])]
  · rfl

/-- The same at all that it looks at: the same operands, the same guard. -/
theorem look_ev {ops : Array Oper} {o : Oper} {τ τ' : T Value} (h : ∀ t, looksAt ops o t = true → τ.get t = τ'.get t) : ∀ x ∈ o.op.operands, ev τ x = ev τ' x := by
  intro x hx
  cases x with
  | tmp t =>
    simp only [ev]
    rw [h t]
    unfold looksAt
    simp only [Bool.or_eq_true, List.any_eq_true]
    exact .inl ⟨.tmp t, by simpa using hx, by simp⟩
  | _ => rfl
theorem look_wanted {ops : Array Oper} {o : Oper} {τ τ' : T Value} (h : ∀ t, looksAt ops o t = true → τ.get t = τ'.get t) : wantedB o ops τ = wantedB o ops τ' := by
  unfold wantedB
  split
  · rfl
  · rename_i j want hg
    split
    · rename_i d hd
      rw [h d]
      unfold looksAt
      simp only [Bool.or_eq_true]
      exact .inr (by rw [hg]; simp [hd])
    · rfl

/-! ### One operation, taken by itself -/
theorem wpOp_wanted {F : Fence} (hF : WideF F) {ops : Array Oper} {i : Nat} {o : Oper} {a : Act} {τ : T Value} {nt : Nat} {Q : Exit → Act → World → Prop} {K : Act → World → Prop}
    (hi : ops[i]? = some o) (ht : TR γ τ nt a.tmps) (hw : wantedB o ops τ = true) (hnd : ∀ c, o.op ≠ .defer c)
    (h : Up F P (fun v' w' => K (a.put o.dst v') w') ((execOp a.eval o).run P w)) : wpOpIn F 0 P ops Q i K a w := by
  unfold wpOpIn
  simp only [hi, wanted_rel (o := o) (ops := ops) ht, hw, if_true]
  refine ⟨fun f _ => hF.fn f, ?_⟩
  rw [Oper.semAt_eq _ _ _ hnd]
  exact Up.upon hF h
theorem wpOp_unwanted {F : Fence} (hF : WideF F) {ops : Array Oper} {i : Nat} {o : Oper} {a : Act} {τ : T Value} {nt : Nat} {Q : Exit → Act → World → Prop} {K : Act → World → Prop}
    (hi : ops[i]? = some o) (ht : TR γ τ nt a.tmps) (hw : wantedB o ops τ = false) (h : K (a.put o.dst undef) w) : wpOpIn F 0 P ops Q i K a w := by
  unfold wpOpIn
  simp only [hi, wanted_rel (o := o) (ops := ops) ht, hw]
  exact ⟨fun f _ => hF.fn f, h⟩

/-! ### The trace -/
structure Tr (P : Program) (I : Inv) (ops : Array Oper) (L : List (Nat × Oper)) (s₀ z : St) (st : Nat → St) : Prop where
  zero : st 0 = s₀
  last : st L.length = z
  step : ∀ (p : Nat) (x : Nat × Oper), L[p]? = some x → stepOp P I ops x.2 (st p) = some (st (p + 1))
def stAt (tr : List Ev) (z : St) (p : Nat) : St := match tr[p]? with
  | some e => e.s
  | none => z

theorem trace_spec {I : Inv} {ops : Array Oper} : ∀ (L : List (Nat × Oper)) (s z : St) (tr : List Ev), trace P I ops L s = some (tr, z) →
    Tr P I ops L s z (stAt tr z) ∧ ∀ (p : Nat) (x : Nat × Oper), L[p]? = some x → ⟨x.1, x.2, stAt tr z p, stAt tr z (p + 1)⟩ ∈ tr
  | [], s, z, tr, h => by
    simp only [trace] at h
    cases h
    exact ⟨⟨rfl, rfl, fun p x hx => by simp at hx⟩, fun p x hx => by simp at hx⟩
  | y :: rest, s, z, tr, h => by
    simp only [trace] at h
    split at h
    · rename_i s₁ h1
      split at h
      · rename_i l z' h2
        cases h
        obtain ⟨hT, hmem⟩ := trace_spec rest s₁ z l h2
        have e0 : ∀ p, stAt (⟨y.1, y.2, s, s₁⟩ :: l) z (p + 1) = stAt l z p := fun p => by simp [stAt]
        have e1 : stAt l z 0 = s₁ := hT.zero
        refine ⟨⟨by simp [stAt], by simp only [List.length_cons, e0]; exact hT.last, fun p x hx => ?_⟩, fun p x hx => ?_⟩
        · cases p with
          | zero => simp at hx; subst hx; rw [e0, e1]; simpa [stAt] using h1
          | succ p => rw [e0, e0]; exact hT.step p x (by simpa using hx)
        · cases p with
          | zero => simp at hx; subst hx; rw [e0, e1]; simp [stAt]
          | succ p => rw [e0, e0]; exact List.mem_cons_of_mem _ (hmem p x (by simpa using hx))
      · cases h
    · cases h

theorem region_trace {I : Inv} {ops : Array Oper} {s₀ z : St} (h : runRegion P I ops true s₀ = some z) :
    ∃ st, Reg ops (orderOf ops) (bfOf ops) ∧ Tr P I ops (orderOf ops) s₀ z st ∧
      ∀ (p q : Nat) (x y : Nat × Oper) (k : Nat), (orderOf ops)[p]? = some x → (orderOf ops)[q]? = some y → readsAt (st p).τ x.2.op = some k → isEff y.2.op = true →
        ahead (bfOf ops) x.1 y.1 = false → ahead (bfOf ops) y.1 x.1 = false → k < s₀.A.n ∧ ((st q).A.get k).ver = ((st (q + 1)).A.get k).ver := by
  unfold runRegion at h
  simp only [if_true] at h
  split at h
  · rename_i hok
    split at h
    · rename_i tr z' ht
      split at h
      · rename_i hl
        cases h
        obtain ⟨hT, hmem⟩ := trace_spec _ _ _ _ ht
        refine ⟨stAt tr z, regionOk_spec hok, hT, fun p q x y k hx hy hr he h1 h2 => ?_⟩
        unfold loadsOk at hl
        rw [List.all_eq_true] at hl
        have := hl _ (hmem p x hx)
        simp only [hr] at this
        rw [List.all_eq_true] at this
        have := this _ (hmem q y hy)
        simp only [loadOk, he, h1, h2, Bool.not_true, Bool.or_false, Bool.false_or, Bool.and_eq_true] at this
        exact ⟨by simpa using this.1, by simpa using this.2⟩
      · cases h
    · cases h
  · cases h

section
variable {I : Inv} {ops : Array Oper} {L : List (Nat × Oper)} {bf : T Nat} {s₀ z : St} {st : Nat → St}

theorem Tr.get (hT : Tr P I ops L s₀ z st) {p : Nat} (h : p < L.length) : ∃ x, L[p]? = some x := ⟨L[p], by simp [h]⟩
theorem lt_of_get {p : Nat} {x : Nat × Oper} (h : L[p]? = some x) : p < L.length := (List.getElem?_eq_some_iff.1 h).1
theorem Tr.cstep (hI : IStep I) (hT : Tr P I ops L s₀ z st) {p q : Nat} (hpq : p ≤ q) (hq : q ≤ L.length) : CStep (st p).A (st q).A := by
  induction q with
  | zero => have : p = 0 := by omega
            subst this; exact .refl _
  | succ q ih =>
    by_cases h : p = q + 1
    · subst h; exact .refl _
    · obtain ⟨x, hx⟩ := hT.get (p := q) (by omega)
      exact (ih (by omega) (by omega)).trans (stepOp_cstep hI (hT.step q x hx))
theorem Tr.same (hT : Tr P I ops L s₀ z st) {p q : Nat} (hpq : p ≤ q) (hq : q ≤ L.length) : (st q).nt = (st p).nt ∧ (st q).dfr = (st p).dfr := by
  induction q with
  | zero => have : p = 0 := by omega
            subst this; exact ⟨rfl, rfl⟩
  | succ q ih =>
    by_cases h : p = q + 1
    · subst h; exact ⟨rfl, rfl⟩
    · obtain ⟨x, hx⟩ := hT.get (p := q) (by omega)
      obtain ⟨v, h1, _⟩ := stepOp_spec (hT.step q x hx)
      obtain ⟨_, h2, h3, _⟩ := putT_spec h1
      obtain ⟨h4, h5⟩ := ih (by omega) (by omega)
      exact ⟨h2.trans h4, h3.trans h5⟩
theorem Tr.tau (hT : Tr P I ops L s₀ z st) {t : Tmp} {p q : Nat} (hpq : p ≤ q) (hq : q ≤ L.length) (hno : ∀ (r : Nat) (x : Nat × Oper), p ≤ r → r < q → L[r]? = some x → x.2.dst ≠ some t) :
    (st q).τ.get t = (st p).τ.get t := by
  induction q with
  | zero => have : p = 0 := by omega
            subst this; rfl
  | succ q ih =>
    by_cases h : p = q + 1
    · subst h; rfl
    · obtain ⟨x, hx⟩ := hT.get (p := q) (by omega)
      obtain ⟨v, h1, _⟩ := stepOp_spec (hT.step q x hx)
      obtain ⟨_, _, _, h4, _⟩ := putT_spec h1
      rw [h4 t, if_neg (hno q x (by omega) (by omega) hx)]
      exact ih (by omega) (by omega) fun r x a b c => hno r x a (by omega) c
theorem Tr.wf (hI : IStep I) (hT : Tr P I ops L s₀ z st) (h0 : ∀ k, s₀.A.n ≤ k → s₀.A.get k = .dead) {p : Nat} (hp : p ≤ L.length) : ∀ k, (st p).A.n ≤ k → (st p).A.get k = .dead :=
  (hT.cstep hI (Nat.zero_le p) hp).wf (by rw [hT.zero]; exact h0)

theorem Reg.dst (hR : Reg ops L bf) {p q : Nat} {x y : Nat × Oper} {t : Tmp} (hx : L[p]? = some x) (hy : L[q]? = some y) (h1 : x.2.dst = some t) (h2 : y.2.dst = some t) : p = q := by
  rcases Nat.lt_trichotomy p q with h | h | h
  · have := hR.pair p q x y h hx hy
    simp [pairOk, dstOk, h1, h2] at this
  · exact h
  · have := hR.pair q p y x h hy hx
    simp [pairOk, dstOk, h1, h2] at this
theorem Reg.idx (hR : Reg ops L bf) {p q : Nat} {x y : Nat × Oper} (hx : L[p]? = some x) (hy : L[q]? = some y) (h : x.1 = y.1) : p = q := by
  rcases Nat.lt_trichotomy p q with h' | h' | h'
  · have := hR.pair p q x y h' hx hy
    simp [pairOk, h] at this
  · exact h'
  · have := hR.pair q p y x h' hy hx
    simp [pairOk, h] at this
theorem Reg.back (hR : Reg ops L bf) {p q : Nat} {x y : Nat × Oper} (hpq : p < q) (hx : L[p]? = some x) (hy : L[q]? = some y) : ahead bf y.1 x.1 = false := by
  have := hR.pair p q x y hpq hx hy
  simp only [pairOk, Bool.and_eq_true] at this
  simpa using this.1.1.1.2
theorem Reg.eff (hR : Reg ops L bf) {p q : Nat} {x y : Nat × Oper} (hpq : p < q) (hx : L[p]? = some x) (hy : L[q]? = some y) (h1 : isEff x.2.op = true) (h2 : isEff y.2.op = true ∨ isNew y.2.op = true) :
    ahead bf x.1 y.1 = true := by
  have := hR.pair p q x y hpq hx hy
  simp only [pairOk, Bool.and_eq_true] at this
  have := this.2
  rcases h2 with h2 | h2 <;> simpa [h1, h2] using this
theorem Reg.look (hR : Reg ops L bf) {p q : Nat} {x y : Nat × Oper} {t : Tmp} (hpq : p < q) (hx : L[p]? = some x) (hy : L[q]? = some y) (h1 : x.2.dst = some t) (h2 : looksAt ops y.2 t = true) :
    ahead bf x.1 y.1 = true := by
  have := hR.pair p q x y hpq hx hy
  simp only [pairOk, Bool.and_eq_true] at this
  have := this.1.1.2
  simp only [dstOk, h1, h2] at this
  simp at this
  exact this.2
theorem Reg.look' (hR : Reg ops L bf) {p q : Nat} {x y : Nat × Oper} {t : Tmp} (hpq : p < q) (hx : L[p]? = some x) (hy : L[q]? = some y) (h1 : y.2.dst = some t) (h2 : looksAt ops x.2 t = true) :
    ahead bf x.1 y.1 = true := by
  have := hR.pair p q x y hpq hx hy
  simp only [pairOk, Bool.and_eq_true] at this
  have := this.1.2
  simp only [lookOk, h1, h2] at this
  simpa using this

/-- Who has been carried out: with each, all that come ahead of it. -/
def Closed (ops : Array Oper) (S : Nat → Prop) : Prop := ∀ (i : Nat) (o : Oper), ops[i]? = some o → S i → ∀ e ∈ o.after.toList, Region.binds .any e = true → S e.on
theorem Reg.closed (hR : Reg ops L bf) {S : Nat → Prop} (hc : Closed ops S) : ∀ (j i : Nat), S j → j < ops.size → ahead bf i j = true → S i := by
  intro j
  induction j using Nat.strongRecOn with
  | ind j ih =>
    intro i hS hj hah
    obtain ⟨e, he, hb, h⟩ := hR.ahd i j ops[j] (by simp [hj]) hah
    have h1 := hc j ops[j] (by simp [hj]) hS e he hb
    have h2 := hR.edge j ops[j] (by simp [hj]) e he hb
    rcases h with rfl | h
    · exact h1
    · exact ih e.on h2 i h1 (by omega) h

/-- The temporaries when S has been carried out. -/
def TauOk (L : List (Nat × Oper)) (st : Nat → St) (s₀ : St) (S : Nat → Prop) (τ : T Value) : Prop :=
  ∀ t, (∀ (p : Nat) (x : Nat × Oper), L[p]? = some x → x.2.dst = some t → S x.1 → τ.get t = (st (p + 1)).τ.get t) ∧
    ((∀ (p : Nat) (x : Nat × Oper), L[p]? = some x → x.2.dst = some t → ¬ S x.1) → τ.get t = s₀.τ.get t)

/-- What an operation that is next looks at is what it looked at in the trace. -/
theorem TauOk.look (hR : Reg ops L bf) (hT : Tr P I ops L s₀ z st) {S : Nat → Prop} {τ : T Value} (hτ : TauOk L st s₀ S τ) (hc : Closed ops S) {p : Nat} {x : Nat × Oper} (hx : L[p]? = some x)
    (hS : ¬ S x.1) (hah : ∀ i, ahead bf i x.1 = true → S i) : ∀ t, looksAt ops x.2 t = true → τ.get t = (st p).τ.get t := by
  intro t hl
  have hp := lt_of_get hx
  by_cases hex : ∃ (q : Nat) (y : Nat × Oper), L[q]? = some y ∧ y.2.dst = some t
  · obtain ⟨q, y, hy, hd⟩ := hex
    have hq := lt_of_get hy
    have only : ∀ (r : Nat) (x' : Nat × Oper), L[r]? = some x' → x'.2.dst = some t → r = q := fun r x' h1 h2 => hR.dst h1 hy h2 hd
    have h0 : ¬ S y.1 → τ.get t = s₀.τ.get t := fun hn => (hτ t).2 fun r x' h1 h2 => by
      have := only r x' h1 h2
      subst this
      rw [hy] at h1; cases h1; exact hn
    rcases Nat.lt_trichotomy q p with h | h | h
    · rw [(hτ t).1 q y hy hd (hah _ (hR.look h hy hx hd hl))]
      exact (hT.tau (by omega) (by omega) fun r x' h1 h2 h3 h4 => by have := only r x' h3 h4; omega).symm
    · subst h
      rw [hx] at hy; cases hy
      rw [h0 hS, ← hT.zero]
      exact (hT.tau (by omega) (by omega) fun r x' h1 h2 h3 h4 => by have := only r x' h3 h4; omega).symm
    · have : ¬ S y.1 := fun hs => hS (hR.closed hc y.1 x.1 hs (by have := hR.op q y hy; exact (Array.getElem?_eq_some_iff.1 this).1) (hR.look' h hx hy hd hl))
      rw [h0 this, ← hT.zero]
      exact (hT.tau (by omega) (by omega) fun r x' h1 h2 h3 h4 => by have := only r x' h3 h4; omega).symm
  · rw [(hτ t).2 (fun q y hy hd => absurd ⟨q, y, hy, hd⟩ hex), ← hT.zero]
    exact (hT.tau (by omega) (by omega) fun r x' h1 h2 h3 h4 => hex ⟨r, x', h3, h4⟩).symm

theorem TauOk.put (hR : Reg ops L bf) (hT : Tr P I ops L s₀ z st) {S : Nat → Prop} {τ : T Value} (hτ : TauOk L st s₀ S τ) {p : Nat} {x : Nat × Oper} (hx : L[p]? = some x) {v : Value}
    (hv : ∀ t, x.2.dst = some t → (st (p + 1)).τ.get t = some v) :
    TauOk L st s₀ (fun i => i = x.1 ∨ S i) (match x.2.dst with
      | none => τ
      | some d => τ.set d v) := by
  intro t
  cases hd : x.2.dst with
  | none =>
    refine ⟨fun q y hy hdy hs => ?_, fun hn => (hτ t).2 fun q y hy hdy hs => hn q y hy hdy (.inr hs)⟩
    rcases hs with hs | hs
    · have := hR.idx hy hx hs
      subst this
      rw [hx] at hy; cases hy
      rw [hd] at hdy; cases hdy
    · exact (hτ t).1 q y hy hdy hs
  | some d =>
    simp only [T.get_set]
    by_cases htd : t = d
    · subst htd
      simp only [if_true]
      refine ⟨fun q y hy hdy hs => ?_, fun hn => absurd (.inl rfl) (hn p x hx hd)⟩
      have := hR.dst hy hx hdy hd
      subst this
      exact (hv t hd).symm
    · simp only [if_neg htd]
      refine ⟨fun q y hy hdy hs => ?_, fun hn => (hτ t).2 fun q y hy hdy hs => hn q y hy hdy (.inr hs)⟩
      rcases hs with hs | hs
      · have := hR.idx hy hx hs
        subst this
        rw [hx] at hy; cases hy
        rw [hd] at hdy; cases hdy; exact absurd rfl htd
      · exact (hτ t).1 q y hy hdy hs
end
end Go.AM

/-
  AM: regions that draw their order: whatever the order, what the trace gives stands for what comes of it.
-/
namespace Go.AM
variable {P : Program} {γ γ' γ₀ : Gam} {A A' A₀ : CW} {w w' w₀ : World}

section
variable {I : Inv} {ops : Array Oper} {L : List (Nat × Oper)} {bf : T Nat} {s₀ z : St} {st : Nat → St}

/-- Made in the canonical heap, not yet in the real one. -/
def Pend (L : List (Nat × Oper)) (st : Nat → St) (S : Nat → Prop) (γ : Gam) (j : Nat) : Prop :=
  ∀ (p : Nat) (x : Nat × Oper), p < j → L[p]? = some x → isNew x.2.op = true → ¬ S x.1 → (st p).A.n < (st (p + 1)).A.n →
    γ (st p).A.n = none ∧ (st j).A.get (st p).A.n = (st (p + 1)).A.get (st p).A.n

theorem next_eff (L : List (Nat × Oper)) : ∀ (d m : Nat), m + d = L.length → ∃ j, m ≤ j ∧ j ≤ L.length ∧ (∀ (p : Nat) (x : Nat × Oper), m ≤ p → p < j → L[p]? = some x → isEff x.2.op = false) ∧
    (∀ x, L[j]? = some x → isEff x.2.op = true)
  | 0, m, h => ⟨m, by omega, by omega, fun p x h1 h2 => by omega, fun x hx => by have := lt_of_get hx; omega⟩
  | d + 1, m, h => by
    have hm : m < L.length := by omega
    cases he : isEff (L[m]).2.op with
    | true => exact ⟨m, by omega, by omega, fun p x h1 h2 => by omega, fun x hx => by rw [List.getElem?_eq_getElem hm] at hx; cases hx; exact he⟩
    | false =>
      obtain ⟨j, h1, h2, h3, h4⟩ := next_eff L d (m + 1) (by omega)
      refine ⟨j, by omega, h2, fun p x h5 h6 hx => ?_, h4⟩
      by_cases hp : p = m
      · subst hp; rw [List.getElem?_eq_getElem hm] at hx; cases hx; exact he
      · exact h3 p x (by omega) h6 hx

/-- The heap goes on to the next effect. -/
theorem advance (hI : IStep I) (hT : Tr P I ops L s₀ z st) (hf0 : ∀ k, s₀.A.n ≤ k → k < z.A.n → γ₀ k = none) {S : Nat → Prop} :
    ∀ (d m : Nat), m + d ≤ L.length → (∀ (p : Nat) (x : Nat × Oper), m ≤ p → p < m + d → L[p]? = some x → isEff x.2.op = false) → Step P γ₀ s₀.A w₀ γ (st m).A w → Pend L st S γ m →
      Step P γ₀ s₀.A w₀ γ (st (m + d)).A w ∧ Pend L st S γ (m + d)
  | 0, m, _, _, h, hp => ⟨h, hp⟩
  | d + 1, m, hle, hno, h, hp => by
    obtain ⟨x, hx⟩ := hT.get (p := m) (by omega)
    have he := hno m x (by omega) (by omega) hx
    have hcs := hT.cstep hI (p := m + 1) (q := L.length) (by omega) (Nat.le_refl _)
    have hstep := stepOp_cstep hI (hT.step m x hx)
    rw [hT.last] at hcs
    have key : Step P γ₀ s₀.A w₀ γ (st (m + 1)).A w ∧ Pend L st S γ (m + 1) := by
      obtain ⟨v, _, hv⟩ := stepOp_spec (hT.step m x hx)
      have hsame : (st (m + 1)).A = (st m).A → Step P γ₀ s₀.A w₀ γ (st (m + 1)).A w ∧ Pend L st S γ (m + 1) := fun e => by
        refine ⟨by rw [e]; exact h, fun p y h1 h2 h3 h4 h5 => ?_⟩
        by_cases hpm : p = m
        · subst hpm; rw [e] at h5; omega
        · have := hp p y (by omega) h2 h3 h4 h5
          rw [e]; exact this
      rcases hv with ⟨_, hv⟩ | ⟨_, _, hv⟩
      · unfold runOp at hv
        split at hv
        · rename_i hop; simp [hop, isEff] at he
        · cases hn : isNew x.2.op with
          | false => exact hsame (prim_light he hn hv).1
          | true =>
            have hpush : ∃ o, (st (m + 1)).A = (st m).A.push o := by
              generalize (st (m + 1)).A = B at hv
              obtain ⟨i, o⟩ := x
              obtain ⟨dst, op, type, pos, after, guard⟩ := o
              cases op with
              | alloc t =>
                simp only [prim] at hv
                obtain ⟨u, _, e⟩ := Option.map_eq_some_iff.1 hv
                cases e; exact ⟨_, rfl⟩
              | buildSlice t l parts =>
                simp only [prim] at hv
                unfold buildSlice at hv
                repeat' (split at hv)
                all_goals first | cases hv | skip
                exact ⟨_, rfl⟩
              | _ => simp [isNew] at hn
            obtain ⟨o, e⟩ := hpush
            have hn1 : (st (m + 1)).A.n = (st m).A.n + 1 := by rw [e]; rfl
            have hg : γ (st m).A.n = none := by
              cases hg : γ (st m).A.n with
              | none => rfl
              | some em =>
                rcases h.dom _ _ hg with h1 | ⟨_, h2⟩
                · have := hf0 _ h.n (by have := hcs.n; omega)
                  rw [h1] at this; cases this
                · omega
            refine ⟨by rw [e]; exact h.reserve o hg, fun p y h1 h2 h3 h4 h5 => ?_⟩
            by_cases hpm : p = m
            · subst hpm; exact ⟨hg, rfl⟩
            · obtain ⟨h6, h7⟩ := hp p y (by omega) h2 h3 h4 h5
              refine ⟨h6, ?_⟩
              rw [← h7, e, CW.get_push_ne]
              have := (hT.cstep hI (p := p + 1) (q := m) (by omega) (by omega)).n
              omega
      · exact hsame hv
    have := advance hI hT hf0 d (m + 1) (by omega) (fun p y h1 h2 => hno p y (by omega) (by omega)) key.1 key.2
    rw [show m + (d + 1) = m + 1 + d by omega]
    exact this

/-- Where a region that draws its order stands. -/
structure RI (P : Program) (ops : Array Oper) (L : List (Nat × Oper)) (st : Nat → St) (s₀ : St) (γ₀ : Gam) (w₀ : World) (S : Nat → Prop) (w : World) (a : Act) (γ : Gam) (j : Nat) (τ : T Value) : Prop where
  cl : Closed ops S
  jle : j ≤ L.length
  jeff : ∀ x, L[j]? = some x → isEff x.2.op = true ∧ ¬ S x.1
  jbef : ∀ (p : Nat) (x : Nat × Oper), p < j → L[p]? = some x → isEff x.2.op = true → S x.1
  step : Step P γ₀ s₀.A w₀ γ (st j).A w
  pend : Pend L st S γ j
  tr : TR γ τ s₀.nt a.tmps
  tau : TauOk L st s₀ S τ
  dr : DR γ s₀.dfr a.defers

/-- An operation has been carried out. -/
theorem RI.next (hR : Reg ops L bf) (hT : Tr P I ops L s₀ z st) {S : Nat → Prop} {a : Act} {j j' : Nat} {τ : T Value} (h : RI P ops L st s₀ γ₀ w₀ S w a γ j τ) {p : Nat} {x : Nat × Oper} (hx : L[p]? = some x)
    (hedge : ∀ e ∈ x.2.after.toList, Region.binds .any e = true → S e.on) (hext : Ext γ γ') (hstep : Step P γ₀ s₀.A w₀ γ' (st j').A w') {v v' : Value} (hv : VR γ' v v')
    (hput : putT (st p) x.2.dst v (st (p + 1)).A = some (st (p + 1)))
    (jle : j' ≤ L.length) (jeff : ∀ y, L[j']? = some y → isEff y.2.op = true ∧ ¬ (y.1 = x.1 ∨ S y.1)) (jbef : ∀ (q : Nat) (y : Nat × Oper), q < j' → L[q]? = some y → isEff y.2.op = true → (y.1 = x.1 ∨ S y.1))
    (pend : Pend L st (fun i => i = x.1 ∨ S i) γ' j') :
    ∃ τ', RI P ops L st s₀ γ₀ w₀ (fun i => i = x.1 ∨ S i) w' (a.put x.2.dst v') γ' j' τ' := by
  obtain ⟨_, hnt, _, htau, hlt⟩ := putT_spec hput
  refine ⟨_, ⟨fun i o hi hs e he hb => ?_, jle, jeff, jbef, hstep, pend, ?_, TauOk.put (v := v) hR hT h.tau hx fun t ht => by rw [htau t, if_pos ht], ?_⟩⟩
  · rcases hs with rfl | hs
    · have := hR.op p x hx
      rw [hi] at this; cases this
      exact .inr (hedge e he hb)
    · exact .inr (h.cl i o hi hs e he hb)
  · cases hd : x.2.dst with
    | none => exact h.tr.mono hext
    | some d =>
      have : d < s₀.nt := by
        have h1 := hlt d hd
        have h2 := (hT.same (Nat.zero_le p) (Nat.le_of_lt (lt_of_get hx))).1
        rw [hT.zero] at h2
        exact h2 ▸ h1
      exact (h.tr.mono hext).set hv this
  · cases hd : x.2.dst with
    | none => exact h.dr.mono hext
    | some d => exact h.dr.mono hext

/-- The object that a load reads is as it was in the trace. -/
theorem read_same (hI : IStep I) (hR : Reg ops L bf) (hT : Tr P I ops L s₀ z st) {S : Nat → Prop} (hcl : Closed ops S) {j : Nat} (jle : j ≤ L.length) (jeff : ∀ x, L[j]? = some x → isEff x.2.op = true ∧ ¬ S x.1)
    (jbef : ∀ (p : Nat) (x : Nat × Oper), p < j → L[p]? = some x → isEff x.2.op = true → S x.1)
    {p : Nat} {x : Nat × Oper} (hx : L[p]? = some x) (hS : ¬ S x.1) (hah : ∀ i, ahead bf i x.1 = true → S i) {k : Nat}
    (hl : ∀ (q : Nat) (y : Nat × Oper), L[q]? = some y → isEff y.2.op = true → ahead bf x.1 y.1 = false → ahead bf y.1 x.1 = false → k < s₀.A.n ∧ ((st q).A.get k).ver = ((st (q + 1)).A.get k).ver)
    (hkp : k < (st p).A.n) (hkj : k < (st j).A.n) : (st j).A.get k = (st p).A.get k := by
  have hp := lt_of_get hx
  -- one step of the trace, at an operation whose order with x is open
  have one : ∀ (q : Nat) (y : Nat × Oper), L[q]? = some y → k < (st q).A.n → (isEff y.2.op = true → ahead bf x.1 y.1 = false ∧ ahead bf y.1 x.1 = false) → (st (q + 1)).A.get k = (st q).A.get k := fun q y hy hk hu => by
    have hc := stepOp_cstep hI (hT.step q y hy)
    cases he : isEff y.2.op with
    | true => exact (hc.le k hk).of_ver (hl q y hy he (hu he).1 (hu he).2).2.symm
    | false =>
      obtain ⟨v, _, hv⟩ := stepOp_spec (hT.step q y hy)
      rcases hv with ⟨_, hv⟩ | ⟨_, _, hv⟩
      · unfold runOp at hv
        split at hv
        · rename_i hop; simp [hop, isEff] at he
        · cases hn : isNew y.2.op with
          | false => rw [(prim_light he hn hv).1]
          | true =>
            generalize (st (q + 1)).A = B at hv
            obtain ⟨i, o⟩ := y
            obtain ⟨dst, op, type, pos, after, guard⟩ := o
            cases op with
            | alloc t =>
              simp only [prim] at hv
              obtain ⟨u, _, e⟩ := Option.map_eq_some_iff.1 hv
              cases e
              exact CW.get_push_ne _ _ (by omega)
            | buildSlice t l parts =>
              simp only [prim] at hv
              unfold buildSlice at hv
              repeat' (split at hv)
              all_goals first | cases hv | skip
              exact CW.get_push_ne _ _ (by omega)
            | _ => simp [isNew] at hn
      · rw [hv]
  -- along a stretch of the trace
  have walk : ∀ (d m : Nat), m + d ≤ L.length → k < (st m).A.n → (∀ (q : Nat) (y : Nat × Oper), m ≤ q → q < m + d → L[q]? = some y → isEff y.2.op = true → ahead bf x.1 y.1 = false ∧ ahead bf y.1 x.1 = false) →
      (st (m + d)).A.get k = (st m).A.get k := by
    intro d
    induction d with
    | zero => intro m _ _ _; rfl
    | succ d ih =>
      intro m hle hk hu
      obtain ⟨y, hy⟩ := hT.get (p := m + d) (by omega)
      have hk' : k < (st (m + d)).A.n := by have := (hT.cstep hI (p := m) (q := m + d) (by omega) (by omega)).n; omega
      rw [show m + (d + 1) = m + d + 1 by omega, one (m + d) y hy hk' fun he => hu (m + d) y (by omega) (by omega) hy he]
      exact ih m (by omega) hk fun q y h1 h2 => hu q y h1 (by omega)
  rcases Nat.lt_or_ge p j with h | h
  · have := walk (j - p) p (by omega) hkp fun q y h1 h2 hy he => by
      have hSy := jbef q y (by omega) hy he
      have hlt : p < q := by
        rcases Nat.lt_or_ge p q with h' | h'
        · exact h'
        · have : q = p := by omega
          subst this; rw [hx] at hy; cases hy; exact absurd hSy hS
      refine ⟨?_, hR.back hlt hx hy⟩
      cases hah' : ahead bf x.1 y.1 with
      | false => rfl
      | true => exact absurd (hR.closed hcl y.1 x.1 hSy (by have := hR.op q y hy; exact (Array.getElem?_eq_some_iff.1 this).1) hah') hS
    rw [show p + (j - p) = j by omega] at this
    exact this
  · have := walk (p - j) j (by omega) hkj fun q y h1 h2 hy he => by
      refine ⟨hR.back (by omega) hy hx, ?_⟩
      cases hah' : ahead bf y.1 x.1 with
      | false => rfl
      | true =>
        exfalso
        have hSy := hah _ hah'
        obtain ⟨y', hy'⟩ := hT.get (p := j) (by omega)
        obtain ⟨h3, h4⟩ := jeff y' hy'
        by_cases hqj : q = j
        · subst hqj; rw [hy] at hy'; cases hy'; exact h4 hSy
        · exact h4 (hR.closed hcl y.1 y'.1 hSy (by have := hR.op q y hy; exact (Array.getElem?_eq_some_iff.1 this).1) (hR.eff (by omega) hy' hy h3 (.inl he)))
    rw [show j + (p - j) = p by omega] at this
    exact this.symm

theorem prim_reads_live {o : Oper} {τ : T Value} {v : Value} {k : Nat} (h : prim P o τ A = some (v, A')) (hr : readsAt τ o.op = some k) : A.get k ≠ .dead ∨ ∀ B : CW, prim P o τ B = some (v, B) ∧ A' = A := by
  obtain ⟨dst, op, type, pos, after, guard⟩ := o
  simp only at hr
  unfold readsAt at hr
  split at hr
  · rename_i t a
    simp only [prim] at h ⊢
    by_cases hd : A.get k = .dead
    · exfalso
      obtain ⟨u, hu, e⟩ := Option.map_eq_some_iff.1 h
      unfold loadAt at hu
      split at hu
      · rename_i k' off sp hq
        rw [hq] at hr
        simp [idOf] at hr
        subst hr
        simp only [cellsAt, cellAt, hd] at hu
        repeat' (split at hu)
        all_goals cases hu
      · cases hu
    · exact .inl hd
  · rename_i t m i ok
    simp only [prim] at h ⊢
    by_cases hd : A.get k = .dead
    · exfalso
      obtain ⟨u, hu, e⟩ := Option.map_eq_some_iff.1 h
      unfold lookup at hu
      cases hm : ev τ m with
      | map q =>
        cases q with
        | none => rw [hm] at hr; simp [idOf] at hr
        | some k' =>
          rw [hm] at hr; simp [idOf] at hr; subst hr
          simp only [hm, hd] at hu
          repeat' (split at hu)
          all_goals first | cases hu | skip
          all_goals rename_i hx _; cases hx
      | _ =>
        simp only [hm] at hu
        repeat' (split at hu)
        all_goals first | cases hu | skip
        all_goals rename_i hx _; cases hx
    · exact .inl hd
  · rename_i args ats
    simp only [prim] at h ⊢
    by_cases hd : A.get k = .dead
    · obtain ⟨u, hu, e⟩ := Option.map_eq_some_iff.1 h
      cases e
      split at hr
      · rename_i m hm
        refine .inr fun B => ⟨?_, rfl⟩
        subst hr
        have : len P B ats (args.map (ev τ)) = some v := by
          unfold len at hu ⊢
          rw [hm] at hu ⊢
          cases ht : ats[0]? with
          | none => rw [ht] at hu; cases hu
          | some t =>
            rw [ht] at hu
            simp only at hu ⊢
            cases hd' : P.underlying t with
            | none => rw [hd'] at hu; cases hu
            | some d =>
              rw [hd'] at hu
              cases d <;> first | exact hu | (simp only [hd] at hu; cases hu)
        rw [this]; rfl
      · cases hr
    · exact .inl hd
  · rename_i args ats
    simp only [prim] at h ⊢
    by_cases hd : A.get k = .dead
    · exfalso
      obtain ⟨u, hu, e⟩ := Option.map_eq_some_iff.1 h
      split at hr
      · rename_i a n c hm
        simp only [Option.some.injEq] at hr
        unfold capOf at hu
        rw [hm] at hu
        split at hu
        · rename_i t a' n' c' ht hx
          cases hx
          simp only [hr, hd] at hu
          repeat' (split at hu)
          all_goals first | cases hu | skip
          all_goals simp_all
        · cases hu
      · cases hr
    · exact .inl hd
  · cases hr
end
end Go.AM

/-
  AM: regions that draw their order: the theorem.
-/
namespace Go.AM
variable {P : Program} {γ γ' γ₀ : Gam} {A A' A₀ : CW} {w w' w₀ : World}

theorem reads_dom {o : Oper} {τ : T Value} {nt : Nat} {tmps : Array Value} {k : Nat} (hw : WRel P γ A w) (ht : TR γ τ nt tmps) (hok : okOp P.globals.size o = true) (h : readsAt τ o.op = some k) :
    ∃ e, γ k = some e := by
  have hopd : ∀ x ∈ o.op.operands, ∃ v', VR γ (ev τ x) v' := fun x hx => by
    unfold okOp at hok
    rw [Array.all_eq_true'] at hok
    exact ⟨_, ev_rel (a := { tmps, defers := [] }) ht hw (hok x hx)⟩
  obtain ⟨dst, op, type, pos, after, guard⟩ := o
  simp only at hopd h
  unfold readsAt at h
  split at h
  · rename_i t a
    obtain ⟨v', hv⟩ := hopd a (by simp [Op.operands])
    cases hq : ev τ a with
    | pointer q =>
      cases q with
      | none => rw [hq] at h; simp [idOf] at h
      | some q =>
        rw [hq] at h hv; simp [idOf] at h
        obtain ⟨k', o, sp⟩ := q
        obtain ⟨e, hg, _⟩ := hv.inv_ptr
        simp only at h; subst h; exact ⟨e, hg⟩
    | map q =>
      cases q with
      | none => rw [hq] at h; simp [idOf] at h
      | some q =>
        rw [hq] at h hv; simp [idOf] at h
        cases hv with | map hg => subst h; exact ⟨_, hg⟩
    | _ => rw [hq] at h; simp [idOf] at h
  · rename_i t m i b
    obtain ⟨v', hv⟩ := hopd m (by simp [Op.operands])
    cases hq : ev τ m with
    | pointer q =>
      cases q with
      | none => rw [hq] at h; simp [idOf] at h
      | some q =>
        rw [hq] at h hv; simp [idOf] at h
        obtain ⟨k', o, sp⟩ := q
        obtain ⟨e, hg, _⟩ := hv.inv_ptr
        simp only at h; subst h; exact ⟨e, hg⟩
    | map q =>
      cases q with
      | none => rw [hq] at h; simp [idOf] at h
      | some q =>
        rw [hq] at h hv; simp [idOf] at h
        cases hv with | map hg => subst h; exact ⟨_, hg⟩
    | _ => rw [hq] at h; simp [idOf] at h
  · rename_i args ats
    split at h
    · rename_i m hm
      subst h
      obtain ⟨x, hx, hxe⟩ : ∃ x, args[0]? = some x ∧ ev τ x = Value.map (some k) := by simpa using hm
      obtain ⟨v', hv⟩ := hopd x (by simp [Op.operands, Call.operands, Array.mem_of_getElem? hx])
      rw [hxe] at hv
      cases hv with | map hg => exact ⟨_, hg⟩
    · cases h
  · rename_i args ats
    split at h
    · rename_i q n c hm
      obtain ⟨x, hx, hxe⟩ : ∃ x, args[0]? = some x ∧ ev τ x = Value.slice (some q) n c := by simpa using hm
      obtain ⟨v', hv⟩ := hopd x (by simp [Op.operands, Call.operands, Array.mem_of_getElem? hx])
      rw [hxe] at hv
      simp only [Option.some.injEq] at h
      obtain ⟨k', o, sp⟩ := q
      simp only at h; subst h
      cases hv with | slice hg => exact ⟨_, hg⟩
    · cases h
  · cases h

section
variable {I : Inv} {ops : Array Oper} {L : List (Nat × Oper)} {bf : T Nat} {s₀ z : St} {st : Nat → St}

theorem RI.take (hI : IStep I) (hSd : ISound P I) {F : Fence} (hF : WideF F) (hokp : ops.all (okOp P.globals.size) = true) (hR : Reg ops L bf) (hT : Tr P I ops L s₀ z st) (h0 : WRel P γ₀ s₀.A w₀)
    (hf0 : ∀ k, s₀.A.n ≤ k → k < z.A.n → γ₀ k = none) {S : Nat → Prop} {a : Act} {j : Nat} {τ : T Value} (h : RI P ops L st s₀ γ₀ w₀ S w a γ j τ) {p : Nat} {x : Nat × Oper} (hx : L[p]? = some x)
    (hS : ¬ S x.1) (hedge : ∀ e ∈ x.2.after.toList, Region.binds .any e = true → S e.on)
    (hload : ∀ (q : Nat) (y : Nat × Oper) (k : Nat), L[q]? = some y → readsAt (st p).τ x.2.op = some k → isEff y.2.op = true → ahead bf x.1 y.1 = false → ahead bf y.1 x.1 = false →
      k < s₀.A.n ∧ ((st q).A.get k).ver = ((st (q + 1)).A.get k).ver)
    {Q : Exit → Act → World → Prop} {K : Act → World → Prop}
    (hK : ∀ γ' j' τ' w' a', RI P ops L st s₀ γ₀ w₀ (fun i => i = x.1 ∨ S i) w' a' γ' j' τ' → K a' w') : wpOpIn F 0 P ops Q x.1 K a w := by
  have hp := lt_of_get hx
  have hi := hR.op p x hx
  have hoko : okOp P.globals.size x.2 = true := by
    rw [Array.all_eq_true'] at hokp
    exact hokp _ (Array.mem_of_getElem? hi)
  have hsz : ∀ (q : Nat) (y : Nat × Oper), L[q]? = some y → y.1 < ops.size := fun q y hy => (Array.getElem?_eq_some_iff.1 (hR.op q y hy)).1
  have hah : ∀ i, ahead bf i x.1 = true → S i := fun i hi' => by
    obtain ⟨e, he, hb, h1⟩ := hR.ahd i x.1 x.2 hi hi'
    have h2 := hedge e he hb
    rcases h1 with rfl | h1
    · exact h2
    · exact hR.closed h.cl e.on i h2 (by have := hR.edge x.1 x.2 hi e he hb; have := hsz p x hx; omega) h1
  have hlook := h.tau.look hR hT h.cl hx hS hah
  have hopd := look_ev hlook
  have hwt := look_wanted hlook
  obtain ⟨v, hput, hv⟩ := stepOp_spec (hT.step p x hx)
  have hzn : ∀ q, q ≤ L.length → (st q).A.n ≤ z.A.n := fun q hq => by have := (hT.cstep hI hq (Nat.le_refl _)).n; rwa [hT.last] at this
  have hs0n : ∀ q, q ≤ L.length → s₀.A.n ≤ (st q).A.n := fun q hq => by have := (hT.cstep hI (Nat.zero_le q) hq).n; rwa [hT.zero] at this
  -- an effect is the next effect; what makes an object has its place ahead of the next effect
  have heff : ∀ {e : Bool}, isEff x.2.op = true ∨ isNew x.2.op = true → ¬ j < p := fun {_} he hjp => by
    obtain ⟨y, hy⟩ := hT.get (p := j) (by omega)
    obtain ⟨h1, h2⟩ := h.jeff y hy
    exact h2 (hah _ (hR.eff hjp hy hx h1 he))
  have hpj : isEff x.2.op = true → p = j := fun he => by
    have h1 := heff (e := true) (.inl he)
    rcases Nat.lt_or_ge p j with h2 | h2
    · exact absurd (h.jbef p x h2 hx he) hS
    · omega
  -- on from an effect
  have adv : ∀ {γ' : Gam} {w' : World} {v' : Value}, isEff x.2.op = true → Ext γ γ' → Step P γ₀ s₀.A w₀ γ' (st (j + 1)).A w' → VR γ' v v' → Pend L st (fun i => i = x.1 ∨ S i) γ' (j + 1) → K (a.put x.2.dst v') w' := fun {γ' w' v'} he hext hst hv' hpe => by
    have := hpj he
    subst this
    obtain ⟨j', h1, h2, h3, h4⟩ := next_eff L (L.length - (p + 1)) (p + 1) (by omega)
    obtain ⟨h5, h6⟩ := advance hI hT hf0 (j' - (p + 1)) (p + 1) (by omega) (fun q y h7 h8 => h3 q y h7 (by omega)) hst hpe
    rw [show p + 1 + (j' - (p + 1)) = j' by omega] at h5 h6
    have ha : ∀ y, L[j']? = some y → isEff y.2.op = true ∧ ¬ (y.1 = x.1 ∨ S y.1) := fun y hy => by
      refine ⟨h4 y hy, fun hs => ?_⟩
      rcases hs with hs | hs
      · have := hR.idx hy hx hs; omega
      · exact hS (hR.closed h.cl y.1 x.1 hs (hsz _ _ hy) (hR.eff (by omega) hx hy he (.inl (h4 y hy))))
    have hb : ∀ (q : Nat) (y : Nat × Oper), q < j' → L[q]? = some y → isEff y.2.op = true → (y.1 = x.1 ∨ S y.1) := fun q y hq hy hey => by
      rcases Nat.lt_trichotomy q p with h8 | h8 | h8
      · exact .inr (h.jbef q y h8 hy hey)
      · subst h8; rw [hx] at hy; cases hy; exact .inl rfl
      · have := h3 q y (by omega) hq hy; rw [hey] at this; cases this
    obtain ⟨τ', h7⟩ := h.next hR hT hx hedge hext h5 hv' hput h2 ha hb h6
    exact hK _ _ _ _ _ h7
  -- on from what is none
  have stay : ∀ {γ' : Gam} {w' : World} {v' : Value}, isEff x.2.op = false → Ext γ γ' → Step P γ₀ s₀.A w₀ γ' (st j).A w' → VR γ' v v' → Pend L st (fun i => i = x.1 ∨ S i) γ' j → K (a.put x.2.dst v') w' := fun {γ' w' v'} he hext hst hv' hpe => by
    have ha : ∀ y, L[j]? = some y → isEff y.2.op = true ∧ ¬ (y.1 = x.1 ∨ S y.1) := fun y hy => by
      refine ⟨(h.jeff y hy).1, fun hs => ?_⟩
      rcases hs with hs | hs
      · have := hR.idx hy hx hs
        subst this
        rw [hx] at hy; cases hy
        have := (h.jeff x hx).1
        rw [he] at this; cases this
      · exact (h.jeff y hy).2 hs
    obtain ⟨τ', h7⟩ := h.next hR hT hx hedge hext hst hv' hput h.jle ha (fun q y hq hy hey => .inr (h.jbef q y hq hy hey)) hpe
    exact hK _ _ _ _ _ h7
  have weak : Pend L st (fun i => i = x.1 ∨ S i) γ j := fun q y h1 h2 h3 h4 h5 => h.pend q y h1 h2 h3 (fun hs => h4 (.inr hs)) h5
  rcases hv with ⟨hw, hrun⟩ | ⟨hw, rfl, hsame⟩
  · rw [← hwt] at hw
    rw [← runOp_congr hopd] at hrun
    refine wpOp_wanted hF hi h.tr hw (runOp_noDefer hrun) ?_
    cases he : isEff x.2.op with
    | true =>
      have := hpj he
      subst this
      have hfn : ∀ k, (st p).A.n ≤ k → k < (st (p + 1)).A.n → γ k = none := fun k h1 h2 => by
        cases hg : γ k with
        | none => rfl
        | some e =>
          rcases h.step.dom k e hg with h3 | ⟨_, h3⟩
          · have := hf0 k (by have := hs0n p (by omega); omega) (by have := hzn (p + 1) (by omega); omega)
            rw [h3] at this; cases this
          · omega
      refine (op_sound hSd hF hrun h.step.rel hfn h.tr hoko).mono fun v' w' ⟨γ', hs, hv'⟩ => ?_
      refine adv he hs.ext (h.step.trans hs) hv' fun q y h1 h2 h3 h4 h5 => ?_
      have hqp : q ≠ p := fun hqp => by
        subst hqp; rw [hx] at h2; cases h2
        exact h4 (.inl rfl)
      obtain ⟨h6, h7⟩ := weak q y (by omega) h2 h3 h4 h5
      have hlt : (st q).A.n < (st p).A.n := by have := (hT.cstep hI (p := q + 1) (q := p) (by omega) (by omega)).n; omega
      refine ⟨?_, by rw [hs.cfr _ hlt h6]; exact h7⟩
      cases hg : γ' (st q).A.n with
      | none => rfl
      | some e =>
        rcases hs.dom _ e hg with h8 | ⟨h8, _⟩
        · rw [h6] at h8; cases h8
        · omega
    | false =>
      have hprim : prim P x.2 τ (st p).A = some (v, (st (p + 1)).A) := by
        unfold runOp at hrun
        split at hrun
        · rename_i hop; simp [hop, isEff] at he
        · exact hrun
      cases hn : isNew x.2.op with
      | true =>
        have hlt : p < j := by
          have h1 := heff (e := true) (.inr hn)
          rcases Nat.lt_or_ge p j with h2 | h2
          · exact h2
          · exfalso
            have : p = j := by omega
            subst this
            have := (h.jeff x hx).1
            rw [he] at this; cases this
        have hpend := h.pend p x hlt hx hn hS
        have hgn : γ (st p).A.n = none := by
          cases hg : γ (st p).A.n with
          | none => rfl
          | some e =>
            have hlt' : (st p).A.n < (st (p + 1)).A.n := by
              generalize (st (p + 1)).A = B at hprim
              obtain ⟨i, o⟩ := x
              obtain ⟨dst, op, type, pos, after, guard⟩ := o
              cases op with
              | alloc t =>
                simp only [prim] at hprim
                obtain ⟨u, _, e⟩ := Option.map_eq_some_iff.1 hprim
                cases e; simp [newCells]
              | buildSlice t l parts =>
                simp only [prim] at hprim
                unfold buildSlice at hprim
                repeat' (split at hprim)
                all_goals first | cases hprim | skip
                simp
              | _ => simp [isNew] at hn
            rw [(hpend hlt').1] at hg; cases hg
        obtain ⟨o, obj, e, v', hA, hrun', hb, hor, hvr⟩ := prim_new hn hprim h.step.rel hgn h.tr hoko
        have hn1 : (st (p + 1)).A.n = (st p).A.n + 1 := by rw [hA]; rfl
        have hcont := (hpend (by omega)).2
        rw [hrun']
        simp only [Up]
        have hkj : (st p).A.n < (st j).A.n := by have := (hT.cstep hI (p := p + 1) (q := j) (by omega) h.jle).n; omega
        refine stay he (addG_ext hgn) (h.step.light hgn (hs0n p (by omega)) hkj hb ?_ rfl ⟨rfl, rfl⟩) hvr fun q y h1 h2 h3 h4 h5 => ?_
        · rw [hcont, hA, CW.get_push_self]; exact hor
        · obtain ⟨h6, h7⟩ := weak q y h1 h2 h3 h4 h5
          have hqp : q ≠ p := fun hqp => by
            subst hqp; rw [hx] at h2; cases h2
            exact h4 (.inl rfl)
          refine ⟨?_, h7⟩
          rw [addG_ne]
          · exact h6
          · intro hk
            rcases Nat.lt_or_gt_of_ne hqp with h8 | h8
            · have := (hT.cstep hI (p := q + 1) (q := p) (by omega) (by omega)).n; omega
            · have := (hT.cstep hI (p := p + 1) (q := q) (by omega) (by have := lt_of_get h2; omega)).n; omega
      | false =>
        obtain ⟨_, hl⟩ := prim_light he hn hprim
        have hC : prim P x.2 τ (st j).A = some (v, (st j).A) := by
          cases hr : readsAt τ x.2.op with
          | none => exact hl _ fun k hk => by rw [hr] at hk; cases hk
          | some k =>
            rcases prim_reads_live hprim hr with hlive | hall
            · refine hl _ fun k' hk' => ?_
              rw [hr] at hk'; cases hk'
              have hkp : k < (st p).A.n := by
                rcases Nat.lt_or_ge k (st p).A.n with h1 | h1
                · exact h1
                · exact absurd (hT.wf hI h0.wf (Nat.le_of_lt hp) k h1) hlive
              have hkj : k < (st j).A.n := by
                obtain ⟨e, hg⟩ := reads_dom h.step.rel h.tr hoko hr
                rcases h.step.dom k e hg with h1 | ⟨_, h1⟩
                · have h2 := hs0n j h.jle
                  rcases Nat.lt_or_ge k s₀.A.n with h3 | h3
                  · omega
                  · have := hf0 k h3 (by have := hzn p (by omega); omega)
                    rw [h1] at this; cases this
                · exact h1
              rw [readsAt_congr hopd] at hr
              exact read_same hI hR hT h.cl h.jle h.jeff h.jbef hx hS hah (fun q y hy he' h1 h2 => hload q y k hy hr he' h1 h2) hkp hkj
            · exact (hall _).1
        refine (prim_sound hC h.step.rel (fun k h1 h2 => by omega) h.tr hoko).up.mono fun v' w' ⟨γ', hs, hv'⟩ => ?_
        refine stay he hs.ext (h.step.trans hs) hv' fun q y h1 h2 h3 h4 h5 => ?_
        obtain ⟨h6, h7⟩ := weak q y h1 h2 h3 h4 h5
        refine ⟨?_, h7⟩
        cases hg : γ' (st q).A.n with
        | none => rfl
        | some e =>
          rcases hs.dom _ e hg with h8 | ⟨h8, h9⟩
          · rw [h6] at h8; cases h8
          · omega
  · rw [← hwt] at hw
    refine wpOp_unwanted hF hi h.tr hw ?_
    cases he : isEff x.2.op with
    | true =>
      have := hpj he
      subst this
      refine adv he (.refl _) (by rw [hsame]; exact h.step) (.of_flat γ undef rfl) fun q y h1 h2 h3 h4 h5 => ?_
      have hqp : q ≠ p := fun hqp => by
        subst hqp; rw [hx] at h2; cases h2
        exact h4 (.inl rfl)
      have := weak q y (by omega) h2 h3 h4 h5
      rw [hsame]; exact this
    | false => exact stay he (.refl _) h.step (.of_flat γ undef rfl) weak

theorem count_set : ∀ (l : List Bool) (i : Nat), l[i]? = some false → (l.set i true).count false + 1 = l.count false
  | [], i, h => by simp at h
  | b :: r, 0, h => by simp at h; subst h; simp
  | b :: r, i + 1, h => by
    have := count_set r i (by simpa using h)
    simp only [List.set_cons_succ, List.count_cons]
    omega
theorem count_zero : ∀ (l : List Bool), l.count false = 0 → ∀ i, i < l.length → l.getD i false = true
  | [], _, i, h => by simp at h
  | b :: r, hc, i, h => by
    simp only [List.count_cons] at hc
    cases i with
    | zero => cases b with
      | true => simp
      | false => simp at hc
    | succ i =>
      have := count_zero r (by omega) i (by simpa using h)
      simpa using this

abbrev lst (listed : Array Bool) : Nat → Prop := fun i => listed.getD i false = true
theorem lst_set {listed : Array Bool} {i : Nat} (hi : i < listed.size) : lst (listed.setIfInBounds i true) = fun k => k = i ∨ lst listed k := by
  funext k
  apply propext
  simp only [lst, Array.getD_eq_getD_getElem?, Array.getElem?_setIfInBounds]
  by_cases h : i = k
  · subst h; simp [hi]
  · have : ¬ (k = i) := fun hh => h hh.symm
    simp [h, this]

theorem any_sound (hI : IStep I) (hSd : ISound P I) {F : Fence} (hF : WideF F) (hokp : ops.all (okOp P.globals.size) = true) (hR : Reg ops L bf) (hT : Tr P I ops L s₀ z st) (h0 : WRel P γ₀ s₀.A w₀)
    (hf0 : ∀ k, s₀.A.n ≤ k → k < z.A.n → γ₀ k = none)
    (hload : ∀ (p q : Nat) (x y : Nat × Oper) (k : Nat), L[p]? = some x → L[q]? = some y → readsAt (st p).τ x.2.op = some k → isEff y.2.op = true → ahead bf x.1 y.1 = false → ahead bf y.1 x.1 = false →
      k < s₀.A.n ∧ ((st q).A.get k).ver = ((st (q + 1)).A.get k).ver)
    {Q : Exit → Act → World → Prop} (hQ : ∀ γ' w' a', Step P γ₀ s₀.A w₀ γ' z.A w' → Rel P γ' z w' a' → Q .normal a' w') :
    ∀ (fuel : Nat) (listed : Array Bool) (a : Act) (w : World) (γ : Gam) (j : Nat) (τ : T Value), listed.size = ops.size → listed.toList.count false ≤ fuel → RI P ops L st s₀ γ₀ w₀ (lst listed) w a γ j τ →
      wpAnyIn F 0 P .any ops Q fuel listed a w := by
  intro fuel
  -- at the end
  have done : ∀ (listed : Array Bool) (a : Act) (w : World) (γ : Gam) (j : Nat) (τ : T Value), (∀ i, i < ops.size → lst listed i) → RI P ops L st s₀ γ₀ w₀ (lst listed) w a γ j τ → Q .normal a w := fun listed a w γ j τ hall h => by
    have hsz : ∀ (q : Nat) (y : Nat × Oper), L[q]? = some y → lst listed y.1 := fun q y hy => hall _ (Array.getElem?_eq_some_iff.1 (hR.op q y hy)).1
    have hj : j = L.length := by
      rcases Nat.lt_or_ge j L.length with h1 | h1
      · obtain ⟨y, hy⟩ := hT.get (p := j) h1
        exact absurd (hsz j y hy) (h.jeff y hy).2
      · have := h.jle; omega
    subst hj
    have hst := h.step
    rw [hT.last] at hst
    obtain ⟨e1, e2⟩ := hT.same (Nat.zero_le L.length) (Nat.le_refl _)
    rw [hT.last, hT.zero] at e1 e2
    refine hQ γ w a hst ⟨hst.rel, ⟨by rw [e1]; exact h.tr.1, fun t => ?_⟩, by rw [e2]; exact h.dr⟩
    have : z.τ.get t = τ.get t := by
      by_cases hex : ∃ (q : Nat) (y : Nat × Oper), L[q]? = some y ∧ y.2.dst = some t
      · obtain ⟨q, y, hy, hd⟩ := hex
        have hq := lt_of_get hy
        rw [(h.tau t).1 q y hy hd (hsz q y hy), ← hT.last]
        exact hT.tau (by omega) (Nat.le_refl _) fun r x' h1 h2 h3 h4 => by have := hR.dst h3 hy h4 hd; omega
      · rw [(h.tau t).2 (fun q y hy hd => absurd ⟨q, y, hy, hd⟩ hex), ← hT.last, ← hT.zero]
        exact hT.tau (Nat.zero_le _) (Nat.le_refl _) fun r x' h1 h2 h3 h4 => hex ⟨r, x', h3, h4⟩
    rw [this]
    exact h.tr.2 t
  have none_left : ∀ (listed : Array Bool), listed.size = ops.size → Region.ready .any ops listed = [] → ∀ i, i < ops.size → lst listed i := fun listed hs hr i => by
    induction i using Nat.strongRecOn with
    | ind i ih =>
      intro hi
      cases hc : listed.getD i true with
      | true =>
        simp only [lst, Array.getD_eq_getD_getElem?] at hc ⊢
        have : i < listed.size := by omega
        simp [this] at hc ⊢; exact hc
      | false =>
        have : i ∈ Region.ready .any ops listed := mem_ready.2 ⟨hc, ops[i], by simp [hi], fun e he hb => by
          have := hR.edge i ops[i] (by simp [hi]) e (by simpa using he) hb
          exact ih e.on this (by omega)⟩
        rw [hr] at this; cases this
  induction fuel with
  | zero =>
    intro listed a w γ j τ hs hc h
    have hall : ∀ i, i < ops.size → lst listed i := fun i hi => by
      have := count_zero listed.toList (by omega) i (by simpa [hs] using hi)
      simpa [lst, Array.getD_eq_getD_getElem?, List.getD_eq_getElem?_getD] using this
    refine ⟨?_, done listed a w γ j τ hall h⟩
    cases hr : Region.ready .any ops listed with
    | nil => rfl
    | cons i r =>
      exfalso
      have : i ∈ Region.ready .any ops listed := by rw [hr]; simp
      obtain ⟨h1, o, h2, _⟩ := mem_ready.1 this
      have hi := (Array.getElem?_eq_some_iff.1 h2).1
      have h3 := hall i hi
      simp only [lst, Array.getD_eq_getD_getElem?] at h1 h3
      have : i < listed.size := by omega
      simp [this] at h1 h3
      rw [h1] at h3; cases h3
  | succ fuel ih =>
    intro listed a w γ j τ hs hc h
    refine ⟨fun hr => done listed a w γ j τ (none_left listed hs hr) h, fun i hi => ?_⟩
    obtain ⟨h1, o, h2, h3⟩ := mem_ready.1 hi
    have hlt := (Array.getElem?_eq_some_iff.1 h2).1
    have hls : i < listed.size := by omega
    have hfalse : listed[i]? = some false := by
      simp only [Array.getD_eq_getD_getElem?] at h1
      simp [hls] at h1 ⊢; exact h1
    have hnl : ¬ lst listed i := by
      simp [lst, Array.getD_eq_getD_getElem?, hfalse]
    obtain ⟨p, o', hp⟩ := hR.all i hlt
    have : o' = o := by have := hR.op p _ hp; simp only at this; rw [h2] at this; exact (Option.some.inj this).symm
    subst this
    refine RI.take (x := (i, o')) hI hSd hF hokp hR hT h0 hf0 h hp hnl (fun e he hb => h3 e (by simpa using he) hb) (fun q y k hy hr => hload p q _ y k hp hy hr) fun γ' j' τ' w' a' h' => ?_
    refine ih (listed.setIfInBounds i true) a' w' γ' j' τ' (by simp [hs]) ?_ (by rw [lst_set hls]; exact h')
    have := count_set listed.toList i (by simpa using hfalse)
    rw [Array.toList_setIfInBounds]
    omega
end

theorem region_sound {I : Inv} (hI : IStep I) (hSd : ISound P I) {F : Fence} (hF : WideF F) (hm : P.follows .mixedOrders = true) {ops : Array Oper} (hokp : ops.all (okOp P.globals.size) = true)
    {s s' : St} {a : Act} {id : Nat} {Q : Exit → Act → World → Prop} (h : runRegion P I ops true s = some s') (hr : Rel P γ s w a) (hf : ∀ k, s.A.n ≤ k → k < s'.A.n → γ k = none)
    (hK : ∀ γ' w' a', Step P γ s.A w γ' s'.A w' → Rel P γ' s' w' a' → Q .normal a' w') : (Code.region id ops true).wpIn F 0 P Q a w := by
  obtain ⟨st, hR, hT, hload⟩ := region_trace h
  refine wpIn_region_any hm ?_
  have h0 : Step P γ s.A w γ s.A { w with drawn := w.drawn + 1 } := Step.of_heap hr.w rfl
  obtain ⟨j, h1, h2, h3, h4⟩ := next_eff (orderOf ops) (orderOf ops).length 0 (by omega)
  have hstart : Step P γ s.A w γ (st 0).A { w with drawn := w.drawn + 1 } := by rw [hT.zero]; exact h0
  obtain ⟨h5, h6⟩ := advance (S := fun _ => False) hI hT hf j 0 (by omega) (fun p x h7 h8 => h3 p x h7 (by omega)) hstart (fun p x h7 => by omega)
  rw [Nat.zero_add] at h5 h6
  have hnone : lst (Array.replicate ops.size false) = fun _ => False := by
    funext k
    apply propext
    simp only [lst, Array.getD_eq_getD_getElem?, Array.getElem?_replicate]
    split <;> simp
  refine any_sound hI hSd hF hokp hR hT hr.w hf hload hK ops.size _ a _ γ j s.τ (by simp) (by simp) ?_
  rw [hnone]
  exact ⟨fun _ _ _ h => h.elim, h2, fun x hx => ⟨h4 x hx, fun h => h⟩, fun p x h7 h8 h9 => (by have := h3 p x (by omega) h7 h8; rw [h9] at this; cases this), h5, h6, hr.t,
    fun t => ⟨fun _ _ _ _ h => h.elim, fun _ => rfl⟩, hr.d⟩
end Go.AM
