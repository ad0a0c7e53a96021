/-
  AM: a row of the template 'for every input true, each argument reads as it did', by one canonical run.
-/
import Derived.Test.YthfphmbjhmaomaaAmLay
import Derived.Test.YthfphmbjhmaomaaAmDen
import Derived.ChangeSame
import Derived.ChangeStays
import Derived.ChangeBook
import Derived.OpenShut
import Derived.ShutString
namespace Go.AM
open Go.ChangeShapes Go.WideShapes
variable {P : Program} {γ γ' γ₀ : Gam} {A A' A₀ A₁ A₂ : CW} {w w' w₀ : World} {H : Type} {enc : TypeId × Value → H}

/-! ### The start: the program's variables, some of them laid -/
def startA (P : Program) : List (Nat × TypeId × List Value) → CW
  | [] => ⟨.nil, P.globals.size⟩
  | (g, t, cs) :: r => (startA P r).set g (.cells cs t false true 0)
theorem startA_n : ∀ l, (startA P l).n = P.globals.size
  | [] => rfl
  | (_, _, _) :: r => startA_n r
def LaidIn (w : World) (P : Program) (l : List (Nat × TypeId × List Value)) : Prop :=
  ∀ g t cs, (g, t, cs) ∈ l → g < P.globals.size ∧ cs.all flatB = true ∧ ∃ cs' t' fr, w.heap[g]? = some (.cells cs' t' fr) ∧ cs'.toList = cs
def sizeAt (w : World) (g : Nat) : Nat := match w.heap[g]? with
  | some (.cells cs _ _) => cs.size
  | _ => 0
def gam0 (P : Program) (w : World) : Gam := fun k => if k < P.globals.size then some ⟨k, 0, sizeAt w k, 0, false⟩ else none
theorem startA_get : ∀ (l : List (Nat × TypeId × List Value)) (k : Nat), (startA P l).get k = .dead ∨ ∃ t cs, (k, t, cs) ∈ l ∧ (startA P l).get k = .cells cs t false true 0
  | [], k => .inl (by simp [startA, CW.get, T.get_nil])
  | (g, t, cs) :: r, k => by
    simp only [startA, CW.get_set]
    split
    · rename_i h; subst h; exact .inr ⟨t, cs, by simp, rfl⟩
    · rcases startA_get r k with h | ⟨t', cs', h1, h2⟩
      · exact .inl h
      · exact .inr ⟨t', cs', by simp [h1], h2⟩
theorem VL.of_flat (γ : Gam) : ∀ (l : List Value), l.all flatB = true → VL γ l l
  | [], _ => .nil
  | v :: l, h => by
    simp only [List.all_cons, Bool.and_eq_true] at h
    exact .cons (.of_flat γ v h.1) (VL.of_flat γ l h.2)
theorem start_rel {l : List (Nat × TypeId × List Value)} (hl : LaidIn w P l) : WRel P (gam0 P w) (startA P l) w ∧ Still (gam0 P w) (startA P l) := by
  have hst : Still (gam0 P w) (startA P l) := fun k e hk => by
    unfold gam0 at hk
    split at hk
    · rename_i hlt
      refine ⟨by rw [startA_n]; exact hlt, ?_⟩
      rcases startA_get (P := P) l k with h | ⟨t, cs, _, h⟩
      · rw [h]; exact .inr rfl
      · rw [h]; exact .inl rfl
    · cases hk
  refine ⟨⟨fun k e hk _ => ?_, fun k₁ e₁ k₂ e₂ h1 h2 hne hbb => ?_, fun k e hk => ?_, fun g hg => ⟨_, by unfold gam0; rw [if_pos hg], rfl, rfl, rfl⟩, fun k hk => ?_⟩, hst⟩
  · unfold gam0 at hk
    split at hk
    · rename_i hlt
      cases hk
      rcases startA_get (P := P) l k with h | ⟨t, cs, hm, h⟩
      · rw [h]; trivial
      · rw [h]
        obtain ⟨_, hfl, cs', t', fr, h1, h2⟩ := hl _ _ _ hm
        refine ⟨rfl, fun h => (by cases h), .inr ⟨cs', t', fr, h1, ?_, ?_, ?_, fun h => by cases h⟩⟩
        · simp [sizeAt, h1]
        · simp [sizeAt, h1, ← h2]
        · rw [h2]; simp; exact .of_flat _ _ hfl
    · cases hk
  · unfold gam0 at h1 h2
    split at h1 <;> split at h2 <;> first | (cases h1; done) | (cases h2; done) | skip
    cases h1; cases h2
    exact absurd hbb hne
  · have h1 := hst k e hk
    unfold gam0 at hk
    split at hk
    · rename_i hlt
      cases hk
      rcases startA_get (P := P) l k with h | ⟨t, cs, hm, h⟩
      · exact .inr ⟨h1.1, by rw [h]; rfl⟩
      · obtain ⟨_, hfl, cs', t', fr, h3, h2⟩ := hl _ _ _ hm
        exact .inl (Array.getElem?_eq_some_iff.1 h3).1
    · cases hk
  · rcases startA_get (P := P) l k with h | ⟨t, cs, hm, h⟩
    · exact h
    · have := (hl _ _ _ hm).1
      rw [startA_n] at hk; omega

/-! ### The arguments -/
def valOf (P : Program) (t : TypeId) (vs : List Value) : Option Value := match aggB P t with
  | some true => some (.agg vs.toArray)
  | some false => match vs with
    | [v] => some v
    | _ => none
  | none => none
def layA (P : Program) (nested : Bool) (n : Nat) : List (TypeId × DataW H) → CW → Option (List Value × CW)
  | [], A => some ([], A)
  | (t, d) :: r, A => match lay P nested n t d A with
    | some (vs, A1) => match valOf P t vs, layA P nested n r A1 with
      | some v, some (us, A2) => some (v :: us, A2)
      | _, _ => none
    | none => none

theorem cell_unmarked {b : Nat} {r : Reach} {t : TypeId} {v : Value} (h : Cell.okWide P w r b t v) : unmarked v := by
  cases v <;> try trivial
  rename_i a len cap
  cases a with
  | none => trivial
  | some a =>
    unfold Cell.okWide at h
    split at h <;> try (rename_i heq _; cases heq; done)
    all_goals first
      | (rename_i h1 h2; cases h2; done)
      | skip
    unfold Cell.ok at h
    split at h
    all_goals first
      | (rename_i h1 h2; cases h2; done)
      | skip
    · rename_i heq; cases heq; exact h.2.2.2.1
    · exact h.elim

theorem okWide_cells {b : Nat} {t : TypeId} {v : Value} (h : Value.okWide P w .any b t v) : (∀ x ∈ v.cells.toList, unmarked x) ∧ (aggB P t = some true → ∃ cs, v = .agg cs) ∧ (aggB P t = some false → v.cells.toList = [v]) := by
  unfold Value.okWide at h
  have row : ∀ cs, v = .agg cs → Row.okWide P w .any b t cs → ∀ x ∈ v.cells.toList, unmarked x := fun cs hv hr x hx => by
    subst hv
    obtain ⟨ts, _, _, h3⟩ := hr
    obtain ⟨i, hi⟩ := List.mem_iff_getElem?.1 hx
    have hi' : cs[i]? = some x := by simpa [Value.cells] using hi
    obtain ⟨u, _, hc⟩ := h3 i x hi'
    exact cell_unmarked hc
  split at h
  · rename_i fs ht
    obtain ⟨cs, hv, _, hr⟩ := h
    exact ⟨row cs hv hr, fun _ => ⟨cs, hv⟩, fun ha => by simp [aggB, ht] at ha⟩
  · rename_i n e ht
    obtain ⟨cs, hv, _, hr⟩ := h
    exact ⟨row cs hv hr, fun _ => ⟨cs, hv⟩, fun ha => by simp [aggB, ht] at ha⟩
  · rename_i h1 h2
    have hone : v.cells = #[v] := by
      cases v with
      | agg cs =>
        exfalso
        unfold Cell.okWide at h
        split at h <;> try (rename_i heq; cases heq; done)
        all_goals first
          | (rename_i h1 h2; cases h2; done)
          | skip
        unfold Cell.ok at h
        split at h
        all_goals first
          | (rename_i h1 h2; cases h2; done)
          | exact h.elim
      | _ => rfl
    refine ⟨fun x hx => ?_, fun ha => ?_, fun _ => by rw [hone]⟩
    · rw [hone] at hx; simp at hx; subst hx; exact cell_unmarked h
    · unfold aggB at ha
      split at ha
      · rename_i fs ht; exact absurd ht (h1 fs)
      · rename_i m e ht; exact absurd ht (h2 m e)
      · cases ha
      · cases ha

theorem layA_sound {nested : Bool} (hN : nested = true → Unmarked w) {n : Nat} : ∀ (ts : List TypeId) (vs' : List Value) (ds : List (DataW H)) (ps : List MemPlace) (A : CW) (γ : Gam) (us : List Value) (A' : CW),
    DataW.TrodAll enc P w 0 (fun _ => true) true ts vs' ds ps → (∀ (j : Nat) t v, ts[j]? = some t → vs'[j]? = some v → ∃ b, Value.okWide P w .any b t v) → layA P nested n (ts.zip ds) A = some (us, A') → WRel P γ A w → Still γ A →
    ∃ γ', Lays P w γ A γ' A' ∧ VL γ' us vs'
  | [], [], [], ps, A, γ, us, A', _, _, h, hw, hs => by
    simp only [List.zip_nil_left, layA] at h; cases h
    exact ⟨γ, .refl hw hs, .nil⟩
  | t :: ts, v :: vs', d :: ds, ps, A, γ, us, A', ht, hv, h, hw, hs => by
    obtain ⟨p, q, ⟨fuel, h1⟩, h2, rfl⟩ := ht
    simp only [List.zip_cons_cons, layA] at h
    split at h
    · rename_i cs A1 hl
      split at h
      · rename_i x us' A2 hx hr
        cases h
        obtain ⟨b, hok⟩ := hv 0 t v (by simp) (by simp)
        obtain ⟨c1, c2, c3⟩ := okWide_cells hok
        obtain ⟨γ1, l1, e1⟩ := lay_sound (enc := enc) hN n t d A cs A1 hl fuel v.cells.toList p γ h1 c1 hw hs
        obtain ⟨γ2, l2, e2⟩ := layA_sound hN ts vs' ds q A1 γ1 us' _ h2 (fun j t v a b => hv (j + 1) t v (by simpa using a) (by simpa using b)) hr l1.rel l1.still
        refine ⟨γ2, l1.trans l2, .cons ?_ e2⟩
        refine VR.mono l2.ext ?_
        unfold valOf at hx
        split at hx
        · rename_i ha
          cases hx
          obtain ⟨c, rfl⟩ := c2 ha
          exact VR.aggL (by simpa [VA, Value.cells] using e1)
        · rename_i ha
          split at hx
          · rename_i y
            cases hx
            rw [c3 ha] at e1
            obtain ⟨y', l', hy, h3, h4⟩ := e1.inv_cons
            cases hy
            exact h3
          · cases hx
        · cases hx
      · cases h
    · cases h
  | [], [], _ :: _, _, _, _, _, _, h, _, _, _, _ => h.elim
  | [], _ :: _, _, _, _, _, _, _, h, _, _, _, _ => h.elim
  | _ :: _, [], _, _, _, _, _, _, h, _, _, _, _ => h.elim
  | _ :: _, _ :: _, [], _, _, _, _, _, h, _, _, _, _ => h.elim

/-! ### The end -/
theorem kept_of_blocks {W W' : World} (hc : Calm W W') (hb : ∀ b, b < W.heap.size → W'.heap[b]? = W.heap[b]?) (may : MemPlace → Prop) : W.keptBut W' may := by
  refine ⟨hc.os, hc.out, fun i hi => ?_⟩
  rw [hb i hi]
  cases h : W.heap[i]? with
  | none => rfl
  | some o =>
    cases o <;> try rfl
    · exact ⟨rfl, rfl, rfl, fun _ _ => rfl⟩
    · exact .inr ⟨rfl, rfl⟩
theorem sameAt_of_blocks {W W' : World} (hb : ∀ b, b < W.heap.size → W'.heap[b]? = W.heap[b]?) {p : MemPlace} (hp : p.block < W.heap.size) : W.sameAt W' p := by
  cases p with
  | cell b off => show W'.cell? _ = W.cell? _; unfold World.cell?; rw [hb b hp]
  | map b => exact hb b hp
theorem trodAll_stays (hl : laidOutB P = true) {W W' : World} (hb : ∀ b, b < W.heap.size → W'.heap[b]? = W.heap[b]?) {sp : Nat → Bool} : ∀ {ts : List TypeId} {vs : List Value} {ds : List (DataW H)} {ps : List MemPlace},
    (∀ t ∈ ts, P.readableRec t = true ∧ t < P.types.size) → DataW.TrodAll enc P W 0 (fun _ => true) true ts vs ds ps → (∀ p ∈ ps, sp p.block = true) → DataW.TrodAll enc P W' 0 sp true ts vs ds ps
  | [], [], [], _, _, h, _ => h
  | t :: ts, v :: vs, d :: ds, ps, hr, ⟨p, q, ⟨n, h⟩, hs, e⟩, hsp => by
    have h0 := hr t (by simp)
    refine ⟨p, q, ⟨n, ?_⟩, trodAll_stays hl hb (fun t ht => hr t (by simp [ht])) hs (fun p hp => hsp p (by rw [e]; simp [hp])), e⟩
    have hlt := DataW.trod_lt n t _ _ h
    exact DataW.trod_stays (kids_book hl h0.1) (book_sized h0.1) (fun h => by cases h) ⟨h0.2, book_self t⟩ h (fun p hp => sameAt_of_blocks hb (hlt p hp)) (fun p hp => hsp p (by rw [e]; simp [hp]))
  | [], [], _ :: _, _, _, h, _ => h.elim
  | [], _ :: _, _, _, _, h, _ => h.elim
  | _ :: _, [], _, _, _, h, _ => h.elim
  | _ :: _, _ :: _, [], _, _, h, _ => h.elim

/-- The row's post, where nothing that was there has turned. -/
theorem post_of_blocks {f : Func} {s : ChangeSpec} {apart fresh handsOn again : Bool} {W W' : World} {args : Array Value} {v : Value} {ds gs : List (DataW H)} {before : List MemPlace} (hl : laidOutB P = true)
    (hrd : ∀ t ∈ f.params.toList, P.readableRec t = true ∧ t < P.types.size) (hvars : s.vars = [])
    (hW : DataW.Whole enc P f.params.toList s.vars apart W args.toList ds gs before)
    (hres : ∀ (b : Nat) (sp : Nat → Bool) (hd : Bool), DataW.TrodAll enc P W' b sp hd f.resultTypes.toList (v.resultList f.resultTypes.size) (s.fn H (ds ++ gs)).results [])
    (hargs : (s.fn H (ds ++ gs)).args = ds) (hv : (s.fn H (ds ++ gs)).vars = [])
    (hc : Calm W W') (hb : ∀ b, b < W.heap.size → W'.heap[b]? = W.heap[b]?)
    (hok : ∀ (j : Nat) (t : TypeId) (r : Value), f.resultTypes[j]? = some t → (v.resultList f.resultTypes.size)[j]? = some r → Value.okWide P W' .any 0 t r) :
    s.post enc P f apart fresh handsOn again W args v W' := by
  have hlt : ∀ p ∈ before, p.block < W.heap.size := fun p hp => hW.lt p hp
  have hold : ∀ p ∈ before, (fun b => decide (b < W.heap.size)) p.block = true := fun p hp => by simpa using hlt p hp
  have hW0 := hW
  obtain ⟨pp, qq, hA, hV, hpq, hz, hn⟩ := hW
  rw [hvars] at hV
  have hgs : gs = [] ∧ qq = [] := by
    cases gs with
    | nil => exact ⟨rfl, hV⟩
    | cons g r => exact absurd hV (by intro h; cases h)
  obtain ⟨rfl, rfl⟩ := hgs
  have hbp : before = pp := by simpa using hpq
  have hA' : ∀ sp : Nat → Bool, (∀ p ∈ before, sp p.block = true) → DataW.TrodAll enc P W' 0 sp true f.params.toList args.toList (s.fn H (ds ++ [])).args pp := fun sp hsp => by
    rw [hargs]; exact trodAll_stays hl hb hrd hA (by rw [← hbp]; exact hsp)
  have hV' : ∀ sp : Nat → Bool, DataW.TrodVars enc P W' sp s.vars (s.fn H (ds ++ [])).vars [] := fun sp => by rw [hvars, hv]; rfl
  refine ⟨ds, [], before, [], pp, [], hW0, hres _ _ _, hA' _ hold, hV' _, World.keptBut_mono (fun p hp => ⟨hp, ?_⟩) (kept_of_blocks hc hb (· ∈ before)), fun _ => ?_⟩
  · rw [hbp] at hp; exact Or.inr (by simpa using hp)
  · refine ⟨hok, _, _, ([] ++ pp) ++ [], ⟨[] ++ pp, [], trodAll_append (hA' _ (fun _ _ => rfl)) (hres _ _ _), hV' _, rfl, ?_, ?_⟩, ?_⟩
    · intro b off hp
      have hin : MemPlace.cell b off ∈ before := by rw [hbp]; simpa using hp
      rw [hc.frz _ (hlt _ hin)]
      exact hz b off hin
    · intro ha
      have := hn ha
      rw [hbp] at this
      simpa using this
    · intro p hp _
      rw [hbp]
      simpa using hp

/-- The law's call, by the canonical run. -/
theorem law_calls {ov : Ov} (ho : OvSound P ov) (hm : P.follows .mixedOrders = true) (hP : OkProg P) {f : FuncId} {fn : Func} (hent : enters P f = true) (hl : laidOutB P = true)
    (hrd : ∀ t ∈ fn.params.toList, P.readableRec t = true ∧ t < P.types.size) {tb : TypeId} (hrt : fn.resultTypes = #[tb]) (hbt : P.underlying tb = some .bool)
    {laid : List (Nat × TypeId × List Value)} {nested : Bool} {n : Nat} {s : ChangeSpec} {apart fresh handsOn again : Bool} {W : World} {args : Array Value} {ds gs : List (DataW H)} {before : List MemPlace}
    (hN : nested = true → Unmarked W) (hlaid : LaidIn W P laid) (hvars : s.vars = [])
    (hval : ∀ (j : Nat) t v, fn.params[j]? = some t → args[j]? = some v → ∃ b, Value.okWide P W .any b t v)
    (hW : DataW.Whole enc P fn.params.toList s.vars apart W args.toList ds gs before)
    (hfn : s.fn H (ds ++ gs) = { results := [.lit (.bool true)], args := ds })
    {us : List Value} {A1 A2 : CW} (hlay : layA P nested n (fn.params.toList.zip ds) (startA P laid) = some (us, A1)) (hden : den P ov (.func f) us.toArray A1 = some (.bool true, A2)) :
    Calls P f args W fun e W' => ∃ v, e = .returned v ∧ s.post enc P fn apart fresh handsOn again W args v W' := by
  have hW0 := hW
  obtain ⟨pp, qq, hA, _, _, _, _⟩ := hW
  obtain ⟨r1, r2⟩ := start_rel hlaid
  obtain ⟨γ1, l1, e1⟩ := layA_sound (enc := enc) hN fn.params.toList args.toList ds pp (startA P laid) (gam0 P W) us A1 hA (fun j t v a b => hval j t v (by simpa using a) (by simpa using b)) hlay r1 r2
  obtain ⟨k, hk⟩ := den_some.1 hden
  have hfr : ∀ j, A1.n ≤ j → j < A2.n → γ1 j = none := fun j h1 _ => by
    cases hg : γ1 j with
    | none => rfl
    | some e => have := (l1.still _ _ hg).1; omega
  have hs := inv_sound ho hm hP k Fence.wide (.inl rfl) (.func f) us.toArray A1 (.bool true) A2 hk γ1 W (.func f) args l1.rel hfr rfl (by simpa [VA] using e1)
  simp only [callFn, enters_run hent, Up] at hs
  refine (callsIn_wide.1 hs).mono fun e W' ⟨v, he, γ', hst, hv⟩ => ⟨v, he, ?_⟩
  have hvb := hv.inv_bool
  subst hvb
  refine post_of_blocks hl hrd hvars hW0 (fun b sp hd => ?_) (by rw [hfn]) (by rw [hfn]) hst.calm (fun b hb => hst.wfr b hb fun k e hg _ hk => ?_) ?_
  · rw [hfn, hrt]
    exact ⟨[], [], ⟨1, by simp [DataW.trod, Value.cells, hbt]⟩, rfl, rfl⟩
  · have h2 := (l1.still k e hg).2
    rcases h2 with h2 | h2
    · exact hst.ro k hk h2
    · cases hx : A1.get k with
      | dead => have := hst.le k hk; rw [hx] at this; exact this.dead
      | cells vs t lo ro ver =>
        rw [← hx]
        refine hst.ro k hk ?_
        rw [hx] at h2 ⊢
        cases ro with
        | true => rfl
        | false => cases vs <;> simp [harmless] at h2
      | map => rw [hx] at h2; simp [harmless] at h2
      | siter => rw [hx] at h2; simp [harmless] at h2
      | loop => rw [hx] at h2; simp [harmless] at h2
      | dfr => rw [hx] at h2; simp [harmless] at h2
  · intro j t r h1 h2
    rw [hrt] at h1 h2
    cases j with
    | zero =>
      simp at h1 h2
      obtain rfl := h1
      simp [Value.resultList] at h2
      subst h2
      simp [Value.okWide, hbt, Cell.okWide, Cell.ok]
    | succ j => simp at h1
end Go.AM

