/-
  AM: data in the canonical heap, read as trees; contracts over data.
-/
import Derived.Test.YthfphmbjhmaomaaAmTrim
namespace Go.AM
variable {P : Program} {A A' A₁ A₂ : CW}

/-! ### Data as trees -/
inductive DT where
  | f (v : Value)
  | s (es : Nat) (rows : List (List DT))
  | a (cs : List DT)

/-- Whole objects of which all can be read: n slices deep at most. -/
def nestB (A : CW) (f : Ob → Bool) : Value → Bool
  | .slice (some q) _ _ => decide (q.block < A.n) && f (A.get q.block)
  | _ => false
def cellsB (f : Value → Bool) : Ob → Bool
  | .dead => true
  | .cells vs _ _ _ _ => vs.all f
  | _ => false
def okOb (A : CW) : Nat → Ob → Bool
  | 0, o => cellsB flatB o
  | n + 1, o => cellsB (fun v => flatB v || nestB A (okOb A n) v) o
def rowsOf (s : Nat) : Nat → List Value → List (List Value)
  | 0, _ => []
  | n + 1, vs => vs.take s :: rowsOf s n (vs.drop s)
def mapO {α β : Type} (f : α → Option β) : List α → Option (List β)
  | [] => some []
  | x :: l => match f x with
    | some y => (mapO f l).map (y :: ·)
    | none => none
def decRow (P : Program) (A : CW) (f : Value → Option DT) : Value → Option DT
  | .slice (some q) len cap => match A.get q.block with
    | .cells vs e _ _ _ => match szOf P e with
      | some (s + 1) => if q.block < A.n ∧ q.off + len * (s + 1) ≤ vs.length ∧ spotOk (some q) (s + 1) = true ∧ len ≤ cap ∧ okOb A 3 (A.get q.block) = true then
          (mapO (mapO f) (rowsOf (s + 1) len (vs.drop q.off))).map (.s (s + 1))
        else none
      | _ => none
    | _ => none
  | .agg cs => (mapO f cs.toList).map .a
  | _ => none
def decV (P : Program) (A : CW) : Nat → Value → Option DT
  | 0, v => if flatB v then some (.f v) else none
  | n + 1, v => if flatB v then some (.f v) else decRow P A (decV P A n) v

theorem cellsB_mono {f g : Value → Bool} (h : ∀ v, f v = true → g v = true) {o : Ob} (ho : cellsB f o = true) : cellsB g o = true := by
  cases o with
  | dead => rfl
  | cells vs e lo ro ver => simp only [cellsB, List.all_eq_true] at ho ⊢; exact fun v hv => h v (ho v hv)
  | _ => cases ho
theorem nestB_mono {f g : Ob → Bool} (h : ∀ o, f o = true → g o = true) {v : Value} (hv : nestB A f v = true) : nestB A g v = true := by
  unfold nestB at hv ⊢
  split at hv
  · simp only [Bool.and_eq_true] at hv ⊢; exact ⟨hv.1, h _ hv.2⟩
  · cases hv
theorem okOb_succ : ∀ (n : Nat) (o : Ob), okOb A n o = true → okOb A (n + 1) o = true
  | 0, o, h => cellsB_mono (fun v hv => by rw [hv]; rfl) h
  | n + 1, o, h => cellsB_mono (fun v hv => by
    simp only [Bool.or_eq_true] at hv ⊢
    exact hv.imp id (nestB_mono (okOb_succ n))) h

/-- The part of a heap that can be read whole. -/
def Sok (A : CW) (k : Nat) : Prop := k < A.n ∧ okOb A 3 (A.get k) = true
theorem okOb_closed {o : Ob} (h : okOb A 3 o = true) : OB id (Sok A) o o := by
  cases o with
  | dead => exact .dead
  | cells vs e lo ro ver =>
    refine .cells ?_
    simp only [okOb, cellsB] at h
    induction vs with
    | nil => exact .nil
    | cons v vs ih =>
      simp only [List.all_cons, Bool.and_eq_true] at h
      refine .cons ?_ (ih (by simpa using h.2))
      rcases Bool.or_eq_true_iff.1 h.1 with hf | h1
      · exact .flat hf
      · unfold nestB at h1
        split at h1
        · simp only [Bool.and_eq_true, decide_eq_true_eq] at h1
          rename_i q _ _
          exact .slice (k := q.block) (o := q.off) (sp := q.spot) ⟨h1.1, okOb_succ 2 _ h1.2⟩
        · cases h1
  | map => simp [okOb, cellsB] at h
  | siter => simp [okOb, cellsB] at h
  | loop => simp [okOb, cellsB] at h
  | dfr => simp [okOb, cellsB] at h

/-- The heap that a contract's call is proved over: what can be read whole of the great one. -/
def keepN (A : CW) : Nat → CW
  | 0 => ⟨.nil, A.n⟩
  | k + 1 => if okOb A 3 (A.get k) then (keepN A k).set k (A.get k) else keepN A k
def keep (A : CW) : CW := keepN A A.n
theorem keepN_n : ∀ k, (keepN A k).n = A.n
  | 0 => rfl
  | k + 1 => by simp only [keepN]; split <;> simp [keepN_n k]
theorem keepN_get : ∀ (m k : Nat), (keepN A m).get k = if k < m ∧ okOb A 3 (A.get k) = true then A.get k else .dead
  | 0, k => by simp [keepN, CW.get, T.get_nil]
  | m + 1, k => by
    simp only [keepN]
    split
    · rename_i h
      rw [CW.get_set, keepN_get m k]
      by_cases hk : k = m
      · subst hk; simp [h]
      · rw [if_neg hk]
        have : k < m + 1 ↔ k < m := by omega
        simp only [this]
    · rename_i h
      rw [keepN_get m k]
      by_cases hk : k = m
      · subst hk; simp [h]
      · have : k < m + 1 ↔ k < m := by omega
        simp only [this]
theorem keep_n : (keep A).n = A.n := keepN_n _
theorem keep_get (k : Nat) : (keep A).get k = if k < A.n ∧ okOb A 3 (A.get k) = true then A.get k else .dead := keepN_get _ k
theorem keep_ok {k : Nat} (h : Sok A k) : (keep A).get k = A.get k := by rw [keep_get]; exact if_pos h

/-- What a heap keeps of another. -/
structure Grow (A A' : CW) : Prop where
  n : A.n ≤ A'.n
  old : ∀ k, k < A.n → A'.get k = A.get k
theorem Grow.refl (A : CW) : Grow A A := ⟨Nat.le_refl _, fun _ _ => rfl⟩
theorem Grow.trans (h : Grow A A₁) (h' : Grow A₁ A₂) : Grow A A₂ := ⟨Nat.le_trans h.n h'.n, fun k hk => by rw [h'.old k (Nat.lt_of_lt_of_le hk h.n), h.old k hk]⟩
theorem Grow.push (h : Grow A A') (o : Ob) : Grow A (A'.push o) := ⟨by simp; have := h.n; omega, fun k hk => by rw [CW.get_push_ne _ _ (by have := h.n; omega)]; exact h.old k hk⟩
theorem Grow.set (h : Grow A A') {k : Nat} (hk : A.n ≤ k) (o : Ob) : Grow A (A'.set k o) := ⟨by simpa using h.n, fun j hj => by rw [CW.get_set_ne _ _ (by omega)]; exact h.old j hj⟩

/-! ### What is read is read in every heap that keeps it -/
def Same (A A' : CW) : Prop := A.n ≤ A'.n ∧ ∀ k, Sok A k → A'.get k = A.get k
theorem Same.of_grow (h : Grow A A') : Same A A' := ⟨h.n, fun k hk => h.old k hk.1⟩
theorem Same.keep (A : CW) : Same A (keep A) := ⟨by rw [keep_n]; exact Nat.le_refl _, fun _ hk => keep_ok hk⟩
theorem okOb_up {n : Nat} (hn : n ≤ 3) {o : Ob} (h : okOb A n o = true) : okOb A 3 o = true := by
  match n, hn with
  | 0, _ => exact okOb_succ 2 _ (okOb_succ 1 _ (okOb_succ 0 _ h))
  | 1, _ => exact okOb_succ 2 _ (okOb_succ 1 _ h)
  | 2, _ => exact okOb_succ 2 _ h
  | 3, _ => exact h
theorem okOb_same (h : Same A A') : ∀ (n : Nat) (o : Ob), n ≤ 3 → okOb A n o = true → okOb A' n o = true
  | 0, o, _, hh => hh
  | n + 1, o, hn, hh => cellsB_mono (fun v hv => by
    simp only [Bool.or_eq_true] at hv ⊢
    refine hv.imp id fun h1 => ?_
    unfold nestB at h1 ⊢
    split at h1
    · simp only [Bool.and_eq_true, decide_eq_true_eq] at h1 ⊢
      refine ⟨Nat.lt_of_lt_of_le h1.1 h.1, ?_⟩
      rw [h.2 _ ⟨h1.1, okOb_up (by omega) h1.2⟩]
      exact okOb_same h n _ (by omega) h1.2
    · cases h1) hh
theorem mapO_mono {α β : Type} {f g : α → Option β} (h : ∀ x y, f x = some y → g x = some y) : ∀ (l : List α) (r : List β), mapO f l = some r → mapO g l = some r
  | [], r, hh => hh
  | x :: l, r, hh => by
    simp only [mapO] at hh ⊢
    split at hh
    · rename_i y hy
      rw [h x y hy]
      obtain ⟨z, hz, rfl⟩ := Option.map_eq_some_iff.1 hh
      simp only [mapO_mono h l z hz]; rfl
    · cases hh
theorem decRow_same (h : Same A A') {f g : Value → Option DT} (hfg : ∀ x y, f x = some y → g x = some y) {v : Value} {d : DT} (hh : decRow P A f v = some d) : decRow P A' g v = some d := by
  unfold decRow at hh ⊢
  split at hh
  · rename_i q len cap
    split at hh
    · rename_i vs e lo ro ver hk
      split at hh
      · rename_i s hs
        split at hh
        · rename_i hc
          have hS : Sok A q.block := ⟨hc.1, hc.2.2.2.2⟩
          rw [h.2 _ hS, hk]
          simp only [hs]
          rw [if_pos ⟨Nat.lt_of_lt_of_le hc.1 h.1, hc.2.1, hc.2.2.1, hc.2.2.2.1, by rw [← hk]; exact okOb_same h 3 _ (Nat.le_refl _) hc.2.2.2.2⟩]
          obtain ⟨z, hz, rfl⟩ := Option.map_eq_some_iff.1 hh
          rw [mapO_mono (mapO_mono hfg) _ _ hz]; rfl
        · cases hh
      · cases hh
    · cases hh
  · obtain ⟨z, hz, rfl⟩ := Option.map_eq_some_iff.1 hh
    rw [mapO_mono hfg _ _ hz]; rfl
  · cases hh
theorem decV_same (h : Same A A') : ∀ (n : Nat) (v : Value) (d : DT), decV P A n v = some d → decV P A' n v = some d
  | 0, v, d, hh => hh
  | n + 1, v, d, hh => by
    rw [decV] at hh
    rw [decV]
    split at hh
    · rename_i hf; rw [if_pos hf]; exact hh
    · rename_i hf
      rw [if_neg hf]
      exact decRow_same h (decV_same h n) hh

/-- What is read stands for itself. -/
theorem mapO_RL : ∀ (f : Value → Option DT) (l : List Value) (r : List DT) (S : Nat → Prop), (∀ x y, f x = some y → RN id S x x) → mapO f l = some r → RL id S l l
  | _, [], _, _, _, _ => .nil
  | f, x :: l, r, S, h, hh => by
    simp only [mapO] at hh
    split at hh
    · rename_i y hy
      obtain ⟨z, hz, rfl⟩ := Option.map_eq_some_iff.1 hh
      exact .cons (h x y hy) (mapO_RL f l z S h hz)
    · cases hh
theorem RL.get {ρ : Nat → Nat} {S : Nat → Prop} {l l' : List Value} (h : RL ρ S l l') : ∀ (i : Nat) (h1 : i < l.length) (h2 : i < l'.length), RN ρ S l[i] l'[i] := by
  induction h with
  | nil => intro i h1; simp at h1
  | cons h _ ih =>
    intro i h1 h2
    cases i with
    | zero => exact h
    | succ i => simpa using ih i (by simpa using h1) (by simpa using h2)
theorem RN.aggL {ρ : Nat → Nat} {S : Nat → Prop} {a a' : Array Value} (h : RL ρ S a.toList a'.toList) : RN ρ S (.agg a) (.agg a') :=
  .agg (by simpa using h.length) fun i h1 h2 => h.get i (by simpa using h1) (by simpa using h2)
theorem RN.tupleL {ρ : Nat → Nat} {S : Nat → Prop} {a a' : Array Value} (h : RL ρ S a.toList a'.toList) : RN ρ S (.tuple a) (.tuple a') :=
  .tuple (by simpa using h.length) fun i h1 h2 => h.get i (by simpa using h1) (by simpa using h2)
theorem decV_RN : ∀ (n : Nat) (v : Value) (d : DT), decV P A n v = some d → RN id (Sok A) v v
  | 0, v, d, hh => by
    simp only [decV] at hh
    split at hh
    · rename_i hf; exact .flat hf
    · cases hh
  | n + 1, v, d, hh => by
    rw [decV] at hh
    split at hh
    · rename_i hf; exact .flat hf
    · unfold decRow at hh
      split at hh
      · rename_i q len cap _
        split at hh
        · rename_i vs e lo ro ver hk
          split at hh
          · split at hh
            · rename_i hc; exact .slice (k := q.block) (o := q.off) (sp := q.spot) ⟨hc.1, hc.2.2.2.2⟩
            · cases hh
          · cases hh
        · cases hh
      · rename_i cs
        obtain ⟨z, hz, rfl⟩ := Option.map_eq_some_iff.1 hh
        exact RN.aggL (mapO_RL _ _ _ _ (fun x y => decV_RN n x y) hz)
      · cases hh

/-! ### Contracts over data -/
def gOk (P : Program) (A : CW) : Bool := decide (P.globals.size ≤ A.n) && (List.range P.globals.size).all fun g => okOb A 0 (A.get g)
theorem gOk_grow (h : Grow A A') (hg : gOk P A = true) : gOk P A' = true := by
  simp only [gOk, Bool.and_eq_true, decide_eq_true_eq, List.all_eq_true, List.mem_range] at hg ⊢
  refine ⟨Nat.le_trans hg.1 h.n, fun g hh => ?_⟩
  rw [h.old g (by omega)]
  exact hg.2 g hh
theorem gOk_keep (hg : gOk P A = true) : gOk P (keep A) = true := by
  simp only [gOk, Bool.and_eq_true, decide_eq_true_eq, List.all_eq_true, List.mem_range] at hg ⊢
  refine ⟨by rw [keep_n]; exact hg.1, fun g hh => ?_⟩
  rw [keep_get]
  split
  · exact hg.2 g hh
  · rfl

/-- What comes back: a flat value; or one new row, alone or among flat values. -/
inductive Res where
  | v (x : Value)
  | s (cells : List Value) (e : TypeId) (lo : Bool) (sz len : Nat) (wrap : Option (List Value × List Value))
def Res.sl (sz len : Nat) (lo : Bool) (k : Nat) : Value := .slice (some ⟨k, 0, if lo then some sz else none⟩) len len
def Res.wr (x : Value) : Option (List Value × List Value) → Value
  | none => x
  | some (pre, post) => .tuple (pre ++ x :: post).toArray
def Res.ok : Res → Bool
  | .v x => flatB x
  | .s cells _ _ _ _ wrap => cells.all flatB && match wrap with
    | none => true
    | some (pre, post) => pre.all flatB && post.all flatB
def Res.lay (A : CW) : Res → Value × CW
  | .v x => (x, A)
  | .s cells e lo sz len wrap => (Res.wr (Res.sl sz len lo A.n) wrap, A.push (.cells cells e lo false 0))
def ResIs (A A1 : CW) (v1 : Value) : Res → Prop
  | .v x => v1 = x
  | .s cells e lo sz len wrap => ∃ k ver, A.n ≤ k ∧ k < A1.n ∧ A1.get k = .cells cells e lo false ver ∧ v1 = Res.wr (Res.sl sz len lo k) wrap

def con (P : Program) (F : List DT → Option Res) (args : Array Value) (A : CW) : Option (Value × CW) :=
  if gOk P A then match mapO (decV P A 4) args.toList with
    | some ds => match F ds with
      | some r => if r.ok then some (r.lay A) else none
      | none => none
    | none => none
  else none

theorem con_trim {F : List DT → Option Res} {args : Array Value} {v v1 : Value} {A1 : CW} {ds : List DT} {r : Res} (hg : gOk P A = true) (hds : mapO (decV P A 4) args.toList = some ds) (hr : r.ok = true) (hlay : r.lay A = (v, A'))
    (hgr : Grow (keep A) A1) (hres : ResIs (keep A) A1 v1 r) : ∃ ρ, TrimOk P args A v A' args (keep A) v1 A1 id ρ (Sok A) := by
  have hn : (keep A).n = A.n := keep_n
  simp only [gOk, Bool.and_eq_true, decide_eq_true_eq, List.all_eq_true, List.mem_range] at hg
  have hpre : TrimPre P args A args (keep A) id (Sok A) := ⟨fun k hk => ⟨by rw [hn]; exact hk.1, hk.1⟩, fun j k _ _ h => h, fun g hh => ⟨⟨by omega, okOb_up (Nat.zero_le 3) (hg.2 g hh)⟩, rfl⟩, fun k hk => by rw [keep_get, if_neg (by omega)], mapO_RL _ _ _ _ (fun x y => decV_RN 4 x y) hds,
    fun k hk => by rw [keep_ok hk]; exact okOb_closed hk.2⟩
  have hold : ∀ k, Sok A k → A1.get k = (keep A).get k := fun k hk => hgr.old k (by rw [hn]; exact hk.1)
  cases r with
  | v x =>
    cases hlay
    refine ⟨id, hpre, hold, fun _ _ => rfl, Nat.le_refl _, fun h => h, fun k h1 h2 => by omega, fun j k h1 h2 => by omega, fun k h1 h2 => by omega, fun k h1 h2 => by omega, ?_⟩
    rw [show v1 = v from hres]
    exact .flat hr
  | s cells e lo sz len wrap =>
    obtain ⟨k1, ver, h1, h2, h3, h4⟩ := hres
    simp only [Res.lay, Prod.mk.injEq] at hlay
    obtain ⟨rfl, rfl⟩ := hlay
    simp only [Res.ok, Bool.and_eq_true] at hr
    refine ⟨fun k => if k = A.n then k1 else k, hpre, hold, fun k hk => CW.get_push_ne _ _ (by omega), by simp, fun h k hk => ?_, fun k a b => ?_, fun j k a b c d _ => ?_, fun k a b => ?_, fun k a b hro => ?_, ?_⟩
    · simp at hk; rw [CW.get_push_ne _ _ (by omega)]; exact h k (by omega)
    · simp at b
      have : k = A.n := by omega
      subst this
      rw [if_pos rfl]; exact ⟨h1, h2⟩
    · simp at b d; omega
    · simp at b
      have : k = A.n := by omega
      subst this
      rw [if_pos rfl, h3, CW.get_push_self]
      exact .cells (RL.flat hr.1)
    · simp at b
      have : k = A.n := by omega
      subst this
      rw [CW.get_push_self] at hro
      simp [isRo] at hro
    · rw [h4]
      have hsl : RN (fun k => if k = A.n then k1 else k) (fun k => (A.n ≤ k ∧ k < (A.push (.cells cells e lo false 0)).n) ∨ (k < A.n ∧ Sok A (if k = A.n then k1 else k) ∧ id (if k = A.n then k1 else k) = k)) (Res.sl sz len lo A.n) (Res.sl sz len lo k1) := by
        have := RN.slice (ρ := fun k => if k = A.n then k1 else k) (S := fun k => (A.n ≤ k ∧ k < (A.push (.cells cells e lo false 0)).n) ∨ (k < A.n ∧ Sok A (if k = A.n then k1 else k) ∧ id (if k = A.n then k1 else k) = k))
          (k := A.n) (o := 0) (len := len) (cap := len) (sp := if lo then some sz else none) (.inl ⟨Nat.le_refl _, by simp⟩)
        simpa [Res.sl] using this
      cases wrap with
      | none => exact hsl
      | some pp =>
        obtain ⟨pre, post⟩ := pp
        have hw := hr.2
        simp only [Bool.and_eq_true] at hw
        refine RN.tupleL ?_
        have happ : ∀ (p : List Value), p.all flatB = true → RL (fun k => if k = A.n then k1 else k) (fun k => (A.n ≤ k ∧ k < (A.push (.cells cells e lo false 0)).n) ∨ (k < A.n ∧ Sok A (if k = A.n then k1 else k) ∧ id (if k = A.n then k1 else k) = k)) (p ++ Res.sl sz len lo A.n :: post) (p ++ Res.sl sz len lo k1 :: post) := fun p => by
          induction p with
          | nil => intro _; exact .cons hsl (RL.flat hw.2)
          | cons x p ih =>
            intro hp
            simp only [List.all_cons, Bool.and_eq_true] at hp
            exact .cons (.flat hp.1) (ih hp.2)
        simpa using happ pre hw.1

/-- A contract over data, taken in: it is proved over every heap where the arguments read so. -/
theorem OvSound.addF {ov : Ov} (ho : OvSound P ov) (hm : P.follows .mixedOrders = true) (hP : OkProg P) {f : FuncId} (F : List DT → Option Res)
    (h : ∀ (args : Array Value) (A : CW) (ds : List DT) (r : Res), gOk P A = true → mapO (decV P A 4) args.toList = some ds → F ds = some r → ∃ v1 A1, den P ov (.func f) args A = some (v1, A1) ∧ Grow A A1 ∧ ResIs A A1 v1 r) :
    OvSound P (ov.add f (con P F)) := by
  refine ho.add hm hP fun args A v A' hc => ?_
  unfold con at hc
  split at hc
  · rename_i hg
    split at hc
    · rename_i ds hds
      split at hc
      · rename_i r hr
        split at hc
        · rename_i hok
          cases hc' : r.lay A with
          | mk v0 A0 =>
            rw [hc'] at hc; cases hc
            obtain ⟨v1, A1, h1, h2, h3⟩ := h args (keep A) ds r (gOk_keep hg) (mapO_mono (decV_same (.keep A) 4) _ _ hds) hr
            obtain ⟨ρ, ht⟩ := con_trim (F := F) hg hds hok hc' h2 h3
            exact ⟨args, keep A, v1, A1, id, ρ, Sok A, h1, ht⟩
        · cases hc
      · cases hc
    · cases hc
  · cases hc
theorem con_eq {F : List DT → Option Res} {args : Array Value} {ds : List DT} {r : Res} (hg : gOk P A = true) (hds : mapO (decV P A 4) args.toList = some ds) (hr : F ds = some r) (hok : r.ok = true) : con P F args A = some (r.lay A) := by
  unfold con
  rw [if_pos hg, hds]
  simp only [hr]
  rw [if_pos hok]
end Go.AM

/-
  AM: slices of flat elements as lists.
-/
namespace Go.AM
variable {P : Program} {A A' : CW} {α : Type}

/-- How an element lies in memory: flat cells. -/
structure Codec (α : Type) where
  es : Nat
  pos : 0 < es
  enc : α → List Value
  dec : List DT → Option α
  len : ∀ x, (enc x).length = es
  flat : ∀ x, (enc x).all flatB = true
  dec_enc : ∀ x, dec ((enc x).map .f) = some x
  enc_dec : ∀ row x, dec row = some x → row = (enc x).map .f

def dSl (c : Codec α) : DT → Option (List α)
  | .f (.slice none 0 0) => some []
  | .s es rows => if es = c.es then mapO c.dec rows else none
  | _ => none

structure IsRow (P : Program) (A : CW) (c : Codec α) (q : Addr) (l : List α) : Prop where
  ex : ∃ vs e lo ro ver, A.get q.block = .cells vs e lo ro ver ∧ szOf P e = some c.es ∧ q.off + l.length * c.es ≤ vs.length ∧ (vs.drop q.off).take (l.length * c.es) = l.flatMap c.enc
  lt : q.block < A.n
  spot : spotOk (some q) c.es = true
  ok : okOb A 3 (A.get q.block) = true
/-- A slice value, and the list that it is. -/
def IsSl (P : Program) (A : CW) (c : Codec α) (a : Option Addr) (cap : Nat) (l : List α) : Prop :=
  l.length ≤ cap ∧ (a = none → l = [] ∧ cap = 0) ∧ ∀ q, a = some q → IsRow P A c q l

theorem IsSl.same (h : Same A A') {c : Codec α} {a : Option Addr} {cap : Nat} {l : List α} (hs : IsSl P A c a cap l) : IsSl P A' c a cap l := by
  refine ⟨hs.1, hs.2.1, fun q hq => ?_⟩
  obtain ⟨h1, h2, h3, h4⟩ := hs.2.2 q hq
  have hS : Sok A q.block := ⟨h2, h4⟩
  exact ⟨by rw [h.2 _ hS]; exact h1, Nat.lt_of_lt_of_le h2 h.1, h3, by rw [h.2 _ hS]; exact okOb_same h 3 _ (Nat.le_refl _) h4⟩
theorem IsSl.grow (h : Grow A A') {c : Codec α} {a : Option Addr} {cap : Nat} {l : List α} (hs : IsSl P A c a cap l) : IsSl P A' c a cap l := hs.same (.of_grow h)
theorem IsSl.nil (c : Codec α) : IsSl P A c none 0 [] := ⟨Nat.le_refl _, fun _ => ⟨rfl, rfl⟩, fun q h => by cases h⟩

theorem rowsOf_length (s : Nat) : ∀ (n : Nat) (vs : List Value), (rowsOf s n vs).length = n
  | 0, _ => rfl
  | n + 1, vs => by simp [rowsOf, rowsOf_length s n]
theorem mapO_length {α β : Type} (f : α → Option β) : ∀ (l : List α) (r : List β), mapO f l = some r → r.length = l.length
  | [], r, h => by simp only [mapO] at h; cases h; rfl
  | x :: l, r, h => by
    simp only [mapO] at h
    split at h
    · obtain ⟨z, hz, rfl⟩ := Option.map_eq_some_iff.1 h
      simp [mapO_length f l z hz]
    · cases h
theorem decV_flat (n : Nat) {v : Value} (h : flatB v = true) : decV P A n v = some (.f v) := by cases n <;> simp [decV, h]
theorem decV_f {n : Nat} {v x : Value} (h : decV P A n v = some (.f x)) : v = x := by
  cases n with
  | zero =>
    simp only [decV] at h
    split at h
    · cases h; rfl
    · cases h
  | succ n =>
    rw [decV] at h
    split at h
    · cases h; rfl
    · unfold decRow at h
      split at h
      · split at h
        · split at h
          · split at h
            · obtain ⟨z, _, e⟩ := Option.map_eq_some_iff.1 h; cases e
            · cases h
          · cases h
        · cases h
      · obtain ⟨z, _, e⟩ := Option.map_eq_some_iff.1 h; cases e
      · cases h
theorem mapO_f {f : Value → Option DT} (hf : ∀ v x, f v = some (.f x) → v = x) : ∀ (vs us : List Value), mapO f vs = some (us.map .f) → vs = us
  | [], us, h => by simp only [mapO, Option.some.injEq] at h; cases us <;> simp_all
  | v :: vs, us, h => by
    simp only [mapO] at h
    split at h
    · rename_i y hy
      obtain ⟨z, hz, e⟩ := Option.map_eq_some_iff.1 h
      cases us with
      | nil => simp at e
      | cons u us =>
        simp only [List.map_cons, List.cons.injEq] at e
        obtain ⟨rfl, rfl⟩ := e
        rw [hf v u hy, mapO_f hf vs us hz]
    · cases h
theorem mapO_flat {f : Value → Option DT} (hf : ∀ v, flatB v = true → f v = some (.f v)) : ∀ (vs : List Value), vs.all flatB = true → mapO f vs = some (vs.map .f)
  | [], _ => rfl
  | v :: vs, h => by
    simp only [List.all_cons, Bool.and_eq_true] at h
    simp [mapO, hf v h.1, mapO_flat hf vs h.2]
theorem rows_dec {f : Value → Option DT} (hf : ∀ v x, f v = some (.f x) → v = x) (c : Codec α) : ∀ (n : Nat) (vs : List Value) (rows : List (List DT)) (l : List α), n * c.es ≤ vs.length → mapO (mapO f) (rowsOf c.es n vs) = some rows → mapO c.dec rows = some l →
    vs.take (n * c.es) = l.flatMap c.enc
  | 0, vs, rows, l, _, h, h2 => by simp only [rowsOf, mapO, Option.some.injEq] at h; subst h; simp only [mapO, Option.some.injEq] at h2; subst h2; simp
  | n + 1, vs, rows, l, hl, h, h2 => by
    rw [Nat.succ_mul] at hl
    simp only [rowsOf, mapO] at h
    split at h
    · rename_i row hrow
      obtain ⟨rs, hrs, rfl⟩ := Option.map_eq_some_iff.1 h
      simp only [mapO] at h2
      split at h2
      · rename_i x hx
        obtain ⟨l', hl', rfl⟩ := Option.map_eq_some_iff.1 h2
        have e1 := c.enc_dec row x hx
        rw [e1] at hrow
        have e2 := mapO_f hf _ _ hrow
        have e3 := rows_dec hf c n (vs.drop c.es) rs l' (by rw [List.length_drop]; omega) hrs hl'
        rw [Nat.succ_mul, Nat.add_comm, List.take_add, e2, e3]
        simp
      · cases h2
    · cases h
theorem dec_rows {f : Value → Option DT} (hf : ∀ v, flatB v = true → f v = some (.f v)) (c : Codec α) : ∀ (vs : List Value) (l : List α), vs.take (l.length * c.es) = l.flatMap c.enc →
    ∃ rows, mapO (mapO f) (rowsOf c.es l.length vs) = some rows ∧ mapO c.dec rows = some l
  | vs, [], _ => ⟨[], rfl, rfl⟩
  | vs, x :: l, h => by
    simp only [List.length_cons] at h
    rw [Nat.succ_mul, Nat.add_comm, List.take_add] at h
    have hlen : (vs.take c.es ++ (vs.drop c.es).take (l.length * c.es)).length = ((x :: l).flatMap c.enc).length := by rw [h]
    rw [List.flatMap_cons] at h
    have hes : (vs.take c.es).length = c.es := by
      by_cases hv : c.es ≤ vs.length
      · simp [hv]
      · have h1 := congrArg List.length h
        have h2 : (l.flatMap c.enc).length = l.length * c.es := by
          clear h h1 hlen
          induction l with
          | nil => simp
          | cons y l ih => rw [List.flatMap_cons, List.length_append, ih, c.len, List.length_cons, Nat.succ_mul, Nat.add_comm]
        simp [c.len, h2] at h1
        omega
    obtain ⟨e1, e2⟩ := List.append_inj h (by rw [hes, c.len])
    obtain ⟨rows, h1, h2⟩ := dec_rows hf c (vs.drop c.es) l e2
    refine ⟨(c.enc x).map .f :: rows, ?_, ?_⟩
    · simp only [List.length_cons, rowsOf, mapO]
      rw [e1, mapO_flat hf _ (c.flat x)]
      simp [h1]
    · simp only [mapO, c.dec_enc, h2]; rfl

theorem sl_read {n : Nat} {c : Codec α} {v : Value} {d : DT} {l : List α} (h : decV P A n v = some d) (hd : dSl c d = some l) : ∃ a cap, v = .slice a l.length cap ∧ IsSl P A c a cap l := by
  unfold dSl at hd
  split at hd
  · cases hd
    rw [decV_f h]
    exact ⟨none, 0, rfl, .nil c⟩
  · rename_i es rows
    split at hd
    case isFalse => cases hd
    rename_i hes
    subst hes
    cases n with
    | zero =>
      simp only [decV] at h
      split at h <;> cases h
    | succ n =>
      rw [decV] at h
      split at h
      · cases h
      · unfold decRow at h
        split at h
        · rename_i q len cap _
          split at h
          · rename_i vs e lo ro ver hk
            split at h
            · rename_i s hs
              split at h
              · rename_i hc
                obtain ⟨z, hz, e1⟩ := Option.map_eq_some_iff.1 h
                simp only [DT.s.injEq] at e1
                obtain ⟨hes, rfl⟩ := e1
                have h1 := mapO_length _ _ _ hz
                rw [rowsOf_length] at h1
                have h2 := mapO_length _ _ _ hd
                have hll : l.length = len := by omega
                refine ⟨some q, cap, by rw [hll], by rw [hll]; exact hc.2.2.2.1, fun h => (by cases h), fun q' hq => ?_⟩
                cases hq
                exact ⟨⟨vs, e, lo, ro, ver, hk, by rw [hs, ← hes], by rw [hll, ← hes]; exact hc.2.1, by rw [hll]; rw [hes] at hz; exact rows_dec (fun v x => decV_f) c len _ _ l (by rw [List.length_drop]; have := hc.2.1; rw [hes] at this; omega) hz hd⟩, hc.1, by rw [← hes]; exact hc.2.2.1, hc.2.2.2.2⟩
              · cases h
            · cases h
          · cases h
        · obtain ⟨z, _, e⟩ := Option.map_eq_some_iff.1 h; cases e
        · cases h
  · cases hd
theorem sl_dec {n : Nat} {c : Codec α} {a : Option Addr} {cap : Nat} {l : List α} (h : IsSl P A c a cap l) : ∃ d, decV P A (n + 1) (.slice a l.length cap) = some d ∧ dSl c d = some l := by
  cases a with
  | none =>
    obtain ⟨rfl, rfl⟩ := h.2.1 rfl
    exact ⟨.f (.slice none 0 0), rfl, rfl⟩
  | some q =>
    obtain ⟨⟨vs, e, lo, ro, ver, h1, h2, h3, h4⟩, h5, h6, h7⟩ := h.2.2 q rfl
    obtain ⟨rows, r1, r2⟩ := dec_rows (f := decV P A n) (fun v hv => decV_flat n hv) c (vs.drop q.off) l h4
    obtain ⟨s, hs⟩ : ∃ s, c.es = s + 1 := ⟨c.es - 1, by have := c.pos; omega⟩
    refine ⟨.s c.es rows, ?_, by simp [dSl, r2]⟩
    rw [decV, if_neg (by simp [flatB])]
    simp only [decRow, h1, h2]
    rw [hs] at r1 h3 h6 ⊢
    dsimp only
    rw [if_pos ⟨h5, h3, h6, h.1, by rw [← h1]; exact h7⟩, r1]
    rfl

/-! ### Reading -/
theorem flatMap_take {c : Codec α} : ∀ (l : List α) (i : Nat) (h : i < l.length), ((l.flatMap c.enc).drop (i * c.es)).take c.es = c.enc l[i]
  | x :: l, 0, _ => by simp [List.flatMap_cons, c.len]
  | x :: l, i + 1, h => by
    rw [List.flatMap_cons, Nat.succ_mul, Nat.add_comm, ← List.drop_drop]
    rw [show (c.enc x ++ List.flatMap c.enc l).drop c.es = l.flatMap c.enc by rw [List.drop_append, c.len]; simp [c.len]]
    simpa using flatMap_take l i (by simpa using h)
theorem IsRow.cells {c : Codec α} {q : Addr} {l : List α} (h : IsRow P A c q l) (i : Nat) (hi : i < l.length) : cellsAt A q.block (q.off + i * c.es) c.es = some (c.enc l[i]) := by
  obtain ⟨vs, e, lo, ro, ver, h1, h2, h3, h4⟩ := h.ex
  have hm : (i + 1) * c.es ≤ l.length * c.es := Nat.mul_le_mul_right _ hi
  rw [Nat.succ_mul] at hm
  unfold cellsAt
  rw [h1]
  dsimp only
  rw [if_pos (by omega)]
  congr 1
  rw [← flatMap_take l i hi, ← h4, List.drop_take, List.take_take, List.drop_drop]
  congr 1
  omega
theorem IsRow.cell {c : Codec α} {q : Addr} {l : List α} (h : IsRow P A c q l) (i : Nat) (hi : i < l.length) (j : Nat) (hj : j < c.es) : cellAt A q.block (q.off + i * c.es + j) = (c.enc l[i])[j]? := by
  have hc := h.cells i hi
  unfold cellsAt at hc
  unfold cellAt
  split at hc
  · rename_i vs e lo ro ver hk
    split at hc
    · simp only [Option.some.injEq] at hc
      rw [← hc, List.getElem?_take, if_pos hj, List.getElem?_drop]
    · cases hc
  · cases hc
theorem IsRow.all {c : Codec α} {q : Addr} {l : List α} (h : IsRow P A c q l) : cellsAt A q.block q.off (l.length * c.es) = some (l.flatMap c.enc) := by
  obtain ⟨vs, e, lo, ro, ver, h1, h2, h3, h4⟩ := h.ex
  unfold cellsAt
  rw [h1]
  dsimp only
  rw [if_pos h3, h4]
theorem IsSl.at {c : Codec α} {a : Option Addr} {cap : Nat} {l : List α} (h : IsSl P A c a cap l) {i : Nat} (hi : i < l.length) : ∃ k o sp, a = some ⟨k, o, sp⟩ ∧ IsRow P A c ⟨k, o, sp⟩ l := by
  cases a with
  | none => have := (h.2.1 rfl).1; subst this; simp at hi
  | some q => exact ⟨q.block, q.off, q.spot, rfl, h.2.2 q rfl⟩
end Go.AM
