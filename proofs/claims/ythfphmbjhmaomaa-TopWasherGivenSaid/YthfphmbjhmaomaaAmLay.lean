/-
  AM: inputs, laid as canonical objects that nobody writes.
-/
import Derived.Test.YthfphmbjhmaomaaAmExec1
import Derived.ChangeArms
import Derived.OpenShut
namespace Go.AM
variable {P : Program} {γ γ' γ₀ : Gam} {A A' A₀ A₁ A₂ : CW} {w w' w₀ : World} {H : Type}

def layL (f : TypeId → DataW H → CW → Option (List Value × CW)) : List (TypeId × DataW H) → CW → Option (List Value × CW)
  | [], A => some ([], A)
  | (t, d) :: r, A => match f t d A with
    | some (vs, A1) => match layL f r A1 with
      | some (us, A2) => some (vs ++ us, A2)
      | none => none
    | none => none
/-- The fields lie one behind another. -/
def tightF (P : Program) : List Field → Nat → Option Nat
  | [], o => some o
  | f :: r, o => if f.offset = o then tightF P r (o + P.cellsOf f.type) else none
/-- No slice in it. -/
def noSl (P : Program) : Nat → TypeId → Bool
  | 0, _ => false
  | n + 1, t => match P.underlying t with
    | some .bool | some (.int _) | some (.float _) | some .string => true
    | some (.struct fs) => decide (tightF P fs.toList 0 = some (P.cellsOf t)) && fs.toList.all fun f => noSl P n f.type
    | some (.array m e) => decide (m * P.cellsOf e = P.cellsOf t) && noSl P n e
    | _ => false
def lay (P : Program) (nested : Bool) : Nat → TypeId → DataW H → CW → Option (List Value × CW)
  | 0, _, _, _ => none
  | n + 1, t, d, A => match P.underlying t, d with
    | some .bool, .lit (.bool b) => some ([.bool b], A)
    | some (.int k), .lit (.int _ x) => some ([.int k x], A)
    | some (.float k), .lit (.float _ b) => some ([.float k b], A)
    | some .string, .lit (.string s) => some ([.string ⟨s.toArray⟩], A)
    | some (.slice _), .nil => some ([.slice none 0 0], A)
    | some (.slice e), .slice elems _ => match szOf P e with
      | some (s + 1) => match (if nested || noSl P n e then layL (lay P nested n) (elems.map fun d => (e, d)) A else none) with
        | some (vs, A1) => some ([.slice (some ⟨A1.n, 0, some (s + 1)⟩) elems.length elems.length], A1.push (.cells vs e true true 0))
        | none => none
      | _ => none
    | some (.struct fs), .agg ds => if tightF P fs.toList 0 = some (P.cellsOf t) ∧ ds.length = fs.size then layL (lay P nested n) (fs.toList.map (·.type) |>.zip ds) A else none
    | some (.array m e), .agg ds => if m * P.cellsOf e = P.cellsOf t ∧ ds.length = m then layL (lay P nested n) (ds.map fun d => (e, d)) A else none
    | _, _ => none

/-- All that stands for something is not to be written, or nothing. -/
def Still (γ : Gam) (A : CW) : Prop := ∀ k e, γ k = some e → k < A.n ∧ (isRo (A.get k) = true ∨ harmless (A.get k) = true)
structure Lays (P : Program) (w : World) (γ : Gam) (A : CW) (γ' : Gam) (A' : CW) : Prop where
  ext : Ext γ γ'
  rel : WRel P γ' A' w
  still : Still γ' A'
  n : A.n ≤ A'.n
  old : ∀ k, k < A.n → A'.get k = A.get k
  new : ∀ k, A.n ≤ k → k < A'.n → isRo (A'.get k) = true
theorem Lays.refl (h : WRel P γ A w) (hs : Still γ A) : Lays P w γ A γ A := ⟨.refl _, h, hs, Nat.le_refl _, fun _ _ => rfl, fun _ h1 h2 => by omega⟩
theorem Lays.trans {γ₁ γ₂ : Gam} (h : Lays P w γ A γ₁ A₁) (h' : Lays P w γ₁ A₁ γ₂ A₂) : Lays P w γ A γ₂ A₂ := by
  have h1 := h.n
  have h2 := h'.n
  refine ⟨h.ext.trans h'.ext, h'.rel, h'.still, by omega, fun k hk => by rw [h'.old k (by omega), h.old k hk], fun k a b => ?_⟩
  by_cases hk : k < A₁.n
  · rw [h'.old k hk]; exact h.new k a hk
  · exact h'.new k (by omega) b
theorem Lays.push (h : WRel P γ A w) (hs : Still γ A) {vs : List Value} {e : TypeId} {em : Emb} {loose : Bool} (ho : OR P (addG γ A.n em) em w.heap[em.b]? (.cells vs e loose true 0)) (hb : em.b < w.heap.size ∨ vs = []) :
    Lays P w γ A (addG γ A.n em) (A.push (.cells vs e loose true 0)) := by
  have hn : γ A.n = none := by
    cases hg : γ A.n with
    | none => rfl
    | some e => have := (hs _ _ hg).1; omega
  have hst : Still (addG γ A.n em) (A.push (.cells vs e loose true 0)) := fun k e' hk => by
    by_cases hkn : k = A.n
    · subst hkn; rw [CW.get_push_self]; exact ⟨by simp, .inl rfl⟩
    · rw [addG_ne _ _ hkn] at hk; rw [CW.get_push_ne _ _ hkn]
      have := hs k e' hk
      exact ⟨by simp; omega, this.2⟩
  refine ⟨addG_ext hn, ⟨fun k e' hk hlt => ?_, fun k₁ e₁ k₂ e₂ h1 h2 hne hbb => ?_, fun k e' hk => ?_, fun g hg => ?_, fun k hk => ?_⟩, hst, by simp, fun k hk => CW.get_push_ne _ _ (by omega), fun k h1 h2 => ?_⟩
  · by_cases hkn : k = A.n
    · subst hkn; simp at hk; subst hk; rw [CW.get_push_self]; exact ho
    · rw [addG_ne _ _ hkn] at hk; rw [CW.get_push_ne _ _ hkn]
      exact (h.obj k e' hk (hs k e' hk).1).mono (addG_ext hn)
  · have a1 := hst k₁ e₁ h1
    have a2 := hst k₂ e₂ h2
    rcases a1.2 with b1 | b1
    · rcases a2.2 with b2 | b2
      · exact .inr (.inr ⟨a1.1, a2.1, b1, b2⟩)
      · exact .inr (.inl ⟨a2.1, b2⟩)
    · exact .inl ⟨a1.1, b1⟩
  · by_cases hkn : k = A.n
    · subst hkn; simp at hk; subst hk
      rcases hb with hb | rfl
      · exact .inl hb
      · exact .inr ⟨by simp, by rw [CW.get_push_self]; rfl⟩
    · rw [addG_ne _ _ hkn] at hk; rw [CW.get_push_ne _ _ hkn]
      exact (h.blk k e' hk).imp id fun ⟨a, b⟩ => ⟨by simp; omega, b⟩
  · obtain ⟨e', h1, h2⟩ := h.glob g hg
    exact ⟨e', addG_ext hn _ _ h1, h2⟩
  · simp at hk; rw [CW.get_push_ne _ _ (by omega)]; exact h.wf k (by omega)
  · simp at h2
    have : k = A.n := by omega
    subst this; rw [CW.get_push_self]; rfl
end Go.AM

/-
  AM: inputs, laid as canonical objects that nobody writes: what is laid stands for what the row's datum was read off.
-/
namespace Go.AM
variable {P : Program} {γ γ' γ₀ : Gam} {A A' A₀ A₁ A₂ : CW} {w w' w₀ : World} {H : Type} {enc : TypeId × Value → H}

/-- No slice's address in it is marked. -/
def unmarked : Value → Prop
  | .slice (some a) _ _ => a.spot = none
  | _ => True
/-- Nor in what lies in memory. -/
def Unmarked (w : World) : Prop := ∀ x v, w.cell? x = some v → unmarked v

abbrev trodT (enc : TypeId × Value → H) (P : Program) (w : World) := DataW.trod enc P w 0 (fun _ => true) true
/-- Cells that the data were read off, one after another. -/
def ReadL (enc : TypeId × Value → H) (P : Program) (w : World) : List (TypeId × DataW H) → List (List Value) → Prop
  | [], [] => True
  | (t, d) :: r, c :: cs => (∃ fuel ps, trodT enc P w fuel t c = some (d, ps)) ∧ (∀ v ∈ c, unmarked v) ∧ ReadL enc P w r cs
  | _, _ => False

theorem ReadL.of_get : ∀ (l : List (TypeId × DataW H)) (css : List (List Value)), l.length = css.length →
    (∀ (i : Nat) (t : TypeId) (d : DataW H) (c : List Value), l[i]? = some (t, d) → css[i]? = some c → (∃ fuel ps, trodT enc P w fuel t c = some (d, ps)) ∧ ∀ v ∈ c, unmarked v) → ReadL enc P w l css
  | [], [], _, _ => trivial
  | (t, d) :: r, c :: cs, hl, h => by
    obtain ⟨h1, h2⟩ := h 0 t d c (by simp) (by simp)
    exact ⟨h1, h2, ReadL.of_get r cs (by simpa using hl) fun i t d c a b => h (i + 1) t d c (by simpa using a) (by simpa using b)⟩
  | [], _ :: _, h, _ => by simp at h
  | _ :: _, [], h, _ => by simp at h

theorem layL_sound {f : TypeId → DataW H → CW → Option (List Value × CW)}
    (hf : ∀ t d A vs A', f t d A = some (vs, A') → ∀ fuel cs ps γ, trodT enc P w fuel t cs = some (d, ps) → (∀ v ∈ cs, unmarked v) → WRel P γ A w → Still γ A → ∃ γ', Lays P w γ A γ' A' ∧ VL γ' vs cs) :
    ∀ (l : List (TypeId × DataW H)) (css : List (List Value)) (A : CW) (vs : List Value) (A' : CW) (γ : Gam), layL f l A = some (vs, A') → ReadL enc P w l css → WRel P γ A w → Still γ A →
      ∃ γ', Lays P w γ A γ' A' ∧ VL γ' vs css.flatten
  | [], [], A, vs, A', γ, h, _, hw, hs => by
    simp only [layL] at h; cases h
    exact ⟨γ, .refl hw hs, .nil⟩
  | (t, d) :: r, c :: cs, A, vs, A', γ, h, hr, hw, hs => by
    simp only [layL] at h
    obtain ⟨⟨fuel, ps, h1⟩, hu, h2⟩ := hr
    split at h
    · rename_i v1 A1 h3
      split at h
      · rename_i v2 A2 h4
        cases h
        obtain ⟨γ1, l1, e1⟩ := hf t d A v1 A1 h3 fuel c ps γ h1 hu hw hs
        obtain ⟨γ2, l2, e2⟩ := layL_sound hf r cs A1 v2 _ γ1 h4 h2 l1.rel l1.still
        exact ⟨γ2, l1.trans l2, by rw [List.flatten_cons]; exact (e1.mono l2.ext).append e2⟩
      · cases h
    · cases h
  | [], _ :: _, _, _, _, _, _, hr, _, _ => hr.elim
  | _ :: _, [], _, _, _, _, _, hr, _, _ => hr.elim

theorem tightF_cat (cs : List Value) : ∀ (fs : List Field) (o tot : Nat), tightF P fs o = some tot → cs.length = tot →
    (fs.map fun f => (cs.drop f.offset).take (P.cellsOf f.type)).flatten = cs.drop o ∧ o ≤ tot
  | [], o, tot, h, hl => by
    simp only [tightF] at h; cases h
    simp; omega
  | f :: r, o, tot, h, hl => by
    simp only [tightF] at h
    split at h
    · rename_i ho
      obtain ⟨h1, h2⟩ := tightF_cat cs r _ tot h hl
      refine ⟨?_, by omega⟩
      rw [List.map_cons, List.flatten_cons, h1, ho, ← List.drop_drop]
      exact List.take_append_drop ..
    · cases h

theorem chunks (s : Nat) : ∀ (m : Nat) (cs : List Value), m * s ≤ cs.length → ((List.range m).map fun i => (cs.drop (i * s)).take s).flatten = cs.take (m * s)
  | 0, cs, _ => by simp
  | m + 1, cs, h => by
    have e : (m + 1) * s = m * s + s := Nat.succ_mul m s
    rw [List.range_succ, List.map_append, List.flatten_append, chunks s m cs (by omega), e, List.take_add]
    simp

theorem cells?_spec {b o n : Nat} {l : List Value} (h : w.cells? 0 ⟨b, o, none⟩ n = some l) : l.length = n ∧ ∀ j, j < n → w.cell? ⟨b, o + j, none⟩ = l[j]? := by
  unfold World.cells? at h
  simp only [Nat.zero_le, if_true] at h
  refine ⟨by simpa using mapM_some_length h, fun j hj => ?_⟩
  have := mapM_some_get h j j (by simp [hj])
  rw [addr_add] at this
  exact this

theorem szOf_cellsOf {t : TypeId} {s : Nat} (h : szOf P t = some s) : P.cellsOf t = s := by
  unfold szOf at h
  unfold Program.cellsOf
  rw [h]; rfl

theorem noSl_sound : ∀ (n : Nat) (t : TypeId), noSl P n t = true → ∀ (fuel : Nat) (cs : List Value) (x : DataW H × List MemPlace), trodT enc P w fuel t cs = some x → ∀ v ∈ cs, unmarked v
  | 0, t, h => by simp [noSl] at h
  | n + 1, t, h => fun fuel cs x hx v hv => by
    simp only [noSl] at h
    split at h
    · rename_i ht
      cases fuel with
      | zero => simp [DataW.trod] at hx
      | succ fuel =>
        unfold DataW.trod at hx
        rw [ht] at hx
        split at hx <;> simp_all [unmarked]
    · rename_i k ht
      obtain ⟨m, rfl, _⟩ := DataW.trod_int ht hx
      simp at hv; subst hv; trivial
    · rename_i k ht
      cases fuel with
      | zero => simp [DataW.trod] at hx
      | succ fuel =>
        unfold DataW.trod at hx
        rw [ht] at hx
        split at hx <;> simp_all [unmarked]
    · rename_i ht
      obtain ⟨m, rfl, _⟩ := DataW.trod_string ht hx
      simp at hv; subst hv; trivial
    · rename_i fs ht
      simp only [Bool.and_eq_true, decide_eq_true_eq, List.all_eq_true] at h
      obtain ⟨xs, m, _, _, hl, hxl, hall⟩ := DataW.trod_struct ht hx
      have hcat := (tightF_cat cs fs.toList 0 _ h.1 hl).1
      rw [List.drop_zero] at hcat
      rw [← hcat, List.mem_flatten] at hv
      obtain ⟨c, hc, hvc⟩ := hv
      obtain ⟨f, hf, rfl⟩ := List.mem_map.1 hc
      obtain ⟨i, hi⟩ := List.mem_iff_getElem?.1 hf
      have h1 := hall i f (by simpa using hi)
      have hlt : i < xs.length := by
        have := (List.getElem?_eq_some_iff.1 hi).1
        simp at this; omega
      exact noSl_sound n f.type (h.2 f hf) m _ xs[i] (by rw [trodT, h1]; simp [hlt]) v hvc
    · rename_i m e ht
      simp only [Bool.and_eq_true, decide_eq_true_eq] at h
      obtain ⟨xs, k, _, _, hl, hxl, hall⟩ := DataW.trod_array ht hx
      have hcat := chunks (P.cellsOf e) m cs (by omega)
      rw [h.1, ← hl, List.take_length] at hcat
      rw [← hcat, List.mem_flatten] at hv
      obtain ⟨c, hc, hvc⟩ := hv
      obtain ⟨i, hi, rfl⟩ := List.mem_map.1 hc
      simp at hi
      have h1 := hall i hi
      exact noSl_sound n e h.2 k _ (xs[i]'(by omega)) (by rw [trodT, h1]; simp [hxl, hi]) v hvc
    · cases h

theorem lay_sound {nested : Bool} (hN : nested = true → Unmarked w) : ∀ (n : Nat) (t : TypeId) (d : DataW H) (A : CW) (vs : List Value) (A' : CW), lay P nested n t d A = some (vs, A') →
    ∀ (fuel : Nat) (cs : List Value) (ps : List MemPlace) (γ : Gam), trodT enc P w fuel t cs = some (d, ps) → (∀ v ∈ cs, unmarked v) → WRel P γ A w → Still γ A → ∃ γ', Lays P w γ A γ' A' ∧ VL γ' vs cs
  | 0, t, d, A, vs, A', h => by simp [lay] at h
  | n + 1, t, d, A, vs, A', h => fun fuel cs ps γ hx hu hw hs => by
    have ih := lay_sound hN n
    have one : ∀ v, flatB v = true → cs = [v] → ∃ γ', Lays P w γ A γ' A ∧ VL γ' [v] cs := fun v hv hc => ⟨γ, .refl hw hs, by rw [hc]; exact .cons (.of_flat γ v hv) .nil⟩
    simp only [lay] at h
    split at h
    · rename_i b ht
      cases h
      cases fuel with
      | zero => simp [DataW.trod] at hx
      | succ fuel =>
        unfold trodT DataW.trod at hx
        rw [ht] at hx
        split at hx <;> simp_all
        exact ⟨γ, .refl hw hs, .cons (.bool _) .nil⟩
    · rename_i k k' x ht
      cases h
      obtain ⟨m, hc, he, _⟩ := DataW.trod_int ht hx
      cases he
      exact one _ rfl hc
    · rename_i k k' x ht
      cases h
      cases fuel with
      | zero => simp [DataW.trod] at hx
      | succ fuel =>
        unfold trodT DataW.trod at hx
        rw [ht] at hx
        split at hx <;> simp_all
        exact ⟨γ, .refl hw hs, .cons (.float ..) .nil⟩
    · rename_i s ht
      cases h
      obtain ⟨m, hc, he, _⟩ := DataW.trod_string ht hx
      cases he
      exact one _ rfl (by rw [hc])
    · rename_i e ht
      cases h
      rcases DataW.trod_slice ht hx with ⟨hc, _⟩ | ⟨a, len, cap, elems, rest, m, _, _, he, _⟩
      · exact one _ rfl hc
      · cases he
    · rename_i e elems' sp ht
      split at h
      · rename_i s hsz
        split at h
        · rename_i v1 A1 hl
          split at hl
          · rename_i hnest
            cases h
            have hce := szOf_cellsOf hsz
            rcases DataW.trod_slice ht hx with ⟨_, he⟩ | ⟨a, len, cap, elems, rest, m, hfu, hc, he, _, hlc, _, hel, hread, hrest, _⟩
            · cases he
            · simp only [Prod.mk.injEq, DataW.slice.injEq] at he
              obtain ⟨⟨rfl, _⟩, _⟩ := he
              subst hc
              have hsp : a.spot = none := hu (.slice (some a) len cap) (by simp)
              obtain ⟨b, o, spot⟩ := a
              simp only at hsp
              subst hsp
              rw [hce] at hread hrest
              have hrl := (hrest rfl).1
              have hrest := (hrest rfl).2
              -- the elements' cells
              have hcell : ∀ i, i < cap → ∃ c, w.cells? 0 ⟨b, o + i * (s + 1), none⟩ (s + 1) = some c ∧ ∃ x, trodT enc P w m e c = some x ∧ (∀ h : i < len, elems[i]? = some x) := fun i hi => by
                by_cases hil : i < len
                · have h1 := hread i hil
                  rw [addr_add] at h1
                  obtain ⟨x, hxx⟩ : ∃ x, elems[i]? = some x := ⟨elems[i]'(by omega), by simp⟩
                  rw [hxx] at h1
                  obtain ⟨c, hc1, hc2⟩ := Option.bind_eq_some_iff.1 h1
                  exact ⟨c, hc1, x, hc2, fun _ => hxx⟩
                · have h1 := hrest (i - len) (by omega)
                  rw [show len + (i - len) = i by omega, addr_add] at h1
                  obtain ⟨x, hxx⟩ : ∃ x, rest[i - len]? = some x := ⟨rest[i - len]'(by omega), by simp⟩
                  rw [hxx] at h1
                  obtain ⟨c, hc1, hc2⟩ := Option.bind_eq_some_iff.1 h1
                  exact ⟨c, hc1, x, hc2, fun h => absurd h hil⟩
              have hcss : ∀ i, i < len → ∃ c x, ((List.range len).map fun i => (w.cells? 0 ⟨b, o + i * (s + 1), none⟩ (s + 1)).getD [])[i]? = some c ∧ w.cells? 0 ⟨b, o + i * (s + 1), none⟩ (s + 1) = some c ∧
                  elems[i]? = some x ∧ trodT enc P w m e c = some x := fun i hi => by
                obtain ⟨c, h1, x, h2, h3⟩ := hcell i (by omega)
                exact ⟨c, x, by simp [hi, h1], h1, h3 hi, h2⟩
              have hR : ReadL enc P w ((elems.map (·.1)).map fun d => (e, d)) ((List.range len).map fun i => (w.cells? 0 ⟨b, o + i * (s + 1), none⟩ (s + 1)).getD []) := by
                refine ReadL.of_get _ _ (by simp [hel]) fun i t d c a1 a2 => ?_
                have hi : i < len := by
                  have := (List.getElem?_eq_some_iff.1 a2).1
                  simpa using this
                obtain ⟨c', x, b1, b2, b3, b4⟩ := hcss i hi
                rw [b1] at a2; cases a2
                simp [b3] at a1
                obtain ⟨rfl, rfl⟩ := a1
                refine ⟨⟨m, x.2, b4⟩, ?_⟩
                rcases Bool.or_eq_true_iff.1 hnest with hh | hh
                · intro v hv
                  obtain ⟨j, hj⟩ := List.mem_iff_getElem?.1 hv
                  have hs' := cells?_spec b2
                  have hjl := (List.getElem?_eq_some_iff.1 hj).1
                  exact hN hh ⟨b, o + i * (s + 1) + j, none⟩ v (by rw [hs'.2 j (by omega)]; exact hj)
                · exact noSl_sound n e hh m c x b4
              obtain ⟨γ1, l1, e1⟩ := layL_sound ih _ _ A v1 A1 γ hl hR hw hs
              have hA1 : γ1 A1.n = none := by
                cases hg : γ1 A1.n with
                | none => rfl
                | some e => have := (l1.still _ _ hg).1; omega
              have fin : ∀ lim, o + cap * (s + 1) ≤ lim → OR P (addG γ1 A1.n ⟨b, o, lim, s + 1, true⟩) ⟨b, o, lim, s + 1, true⟩ w.heap[b]? (.cells v1 e true true 0) → (b < w.heap.size ∨ v1 = []) →
                  ∃ γ', Lays P w γ A γ' (A1.push (.cells v1 e true true 0)) ∧ VL γ' [.slice (some ⟨A1.n, 0, some (s + 1)⟩) (elems.map (·.1)).length (elems.map (·.1)).length] [.slice (some ⟨b, o, none⟩) len cap] := fun lim h1 h2 h3 => by
                refine ⟨_, l1.trans (Lays.push l1.rel l1.still h2 h3), .cons ?_ .nil⟩
                rw [List.length_map, hel]
                exact VR.slice (e := ⟨b, o, lim, s + 1, true⟩) (addG_self γ1 A1.n _) (Nat.le_refl _) hlc (.inl (by simp)) (fun h => by cases h) (fun _ => ⟨h1, rfl⟩)
              by_cases hc0 : cap = 0
              · have : len = 0 := by omega
                subst this
                have hv1 : v1 = [] := by
                  have := e1.1
                  simp at this; exact this
                subst hv1
                exact fin o (by rw [hc0]; omega) ⟨rfl, fun _ => hsz, .inl ⟨rfl, rfl⟩⟩ (.inr rfl)
              · -- the block
                have hat : ∀ j, j < cap * (s + 1) → ∃ v, w.cell? ⟨b, o + j, none⟩ = some v := fun j hj => by
                  have hi : j / (s + 1) < cap := Nat.div_lt_of_lt_mul (by rw [Nat.mul_comm]; exact hj)
                  obtain ⟨c, h1, _⟩ := hcell _ hi
                  have h2 := cells?_spec h1
                  have hm : j % (s + 1) < s + 1 := Nat.mod_lt _ (by omega)
                  have h3 := h2.2 _ hm
                  have h4 : o + j / (s + 1) * (s + 1) + j % (s + 1) = o + j := by have := Nat.div_add_mod j (s + 1); rw [Nat.mul_comm] at this; omega
                  rw [h4] at h3
                  exact ⟨c[j % (s + 1)]'(by omega), by rw [h3]; simp⟩
                obtain ⟨v0, hv0⟩ := hat 0 (Nat.mul_pos (by omega) (by omega))
                rw [Nat.add_zero] at hv0
                obtain ⟨cc, t', fr, hb⟩ : ∃ cc t' fr, w.heap[b]? = some (.cells cc t' fr) := by
                  unfold World.cell? at hv0
                  dsimp only at hv0
                  split at hv0
                  · rename_i c t' fr hh; exact ⟨c, t', fr, hh⟩
                  · cases hv0
                have hcc : ∀ j, w.cell? ⟨b, j, none⟩ = cc.toList[j]? := fun j => by
                  unfold World.cell?
                  dsimp only
                  rw [hb]; simp
                have hsz' : o + cap * (s + 1) ≤ cc.size := by
                  obtain ⟨v, hv⟩ := hat (cap * (s + 1) - 1) (by have : 0 < cap * (s + 1) := Nat.mul_pos (by omega) (by omega); omega)
                  rw [hcc] at hv
                  have := (List.getElem?_eq_some_iff.1 hv).1
                  simp at this
                  have : 0 < cap * (s + 1) := Nat.mul_pos (by omega) (by omega)
                  omega
                have hlen : len * (s + 1) ≤ cap * (s + 1) := Nat.mul_le_mul_right _ hlc
                have hflat : ((List.range len).map fun i => (w.cells? 0 ⟨b, o + i * (s + 1), none⟩ (s + 1)).getD []).flatten = (cc.toList.drop o).take (len * (s + 1)) := by
                  rw [← chunks (s + 1) len (cc.toList.drop o) (by simp; omega)]
                  congr 1
                  refine List.map_congr_left fun i hi => ?_
                  simp at hi
                  obtain ⟨c, x, _, b2, _, _⟩ := hcss i hi
                  rw [b2]
                  have h2 := cells?_spec b2
                  have hi' : (i + 1) * (s + 1) ≤ len * (s + 1) := Nat.mul_le_mul_right _ hi
                  rw [Nat.succ_mul] at hi'
                  refine List.ext_getElem? fun j => ?_
                  simp only [Option.getD_some]
                  by_cases hj : j < s + 1
                  · rw [← h2.2 j hj, hcc, List.getElem?_take, if_pos hj, List.getElem?_drop, List.getElem?_drop]
                    congr 1; omega
                  · rw [List.getElem?_eq_none (by omega), List.getElem?_eq_none (by rw [List.length_take]; omega)]
                have hv1 : v1.length = len * (s + 1) := by rw [e1.1, hflat]; simp; omega
                refine fin (o + cap * (s + 1)) (Nat.le_refl _) ⟨rfl, fun _ => hsz, .inr ⟨cc, t', fr, hb, hsz', by show o + v1.length ≤ o + cap * (s + 1); omega, ?_, fun h => by cases h⟩⟩ (.inl (Array.getElem?_eq_some_iff.1 hb).1)
                rw [hv1, ← hflat]
                exact e1.mono (addG_ext hA1)
          · cases hl
        · cases h
      · cases h
    · rename_i fs ds ht
      split at h
      · rename_i hcond
        obtain ⟨xs, m, hfu, hxe, hl, hxl, hall⟩ := DataW.trod_struct ht hx
        cases hxe
        have hcat := (tightF_cat cs fs.toList 0 _ hcond.1 hl).1
        rw [List.drop_zero] at hcat
        obtain ⟨γ1, l1, e1⟩ := layL_sound (enc := enc) ih _ (fs.toList.map fun f => (cs.drop f.offset).take (P.cellsOf f.type)) A vs A' γ h (by
          refine ReadL.of_get _ _ (by simp [hxl]) fun i t d c a1 a2 => ?_
          rw [List.getElem?_map] at a2
          obtain ⟨f, hf, rfl⟩ := Option.map_eq_some_iff.1 a2
          rw [List.getElem?_zip_eq_some] at a1
          obtain ⟨a1, a3⟩ := a1
          rw [List.getElem?_map, hf] at a1
          cases a1
          rw [List.getElem?_map] at a3
          obtain ⟨x, hx1, rfl⟩ := Option.map_eq_some_iff.1 a3
          have h1 := hall i f (by simpa using hf)
          rw [hx1] at h1
          exact ⟨⟨m, x.2, h1⟩, fun v hv => hu v (List.mem_of_mem_drop (List.mem_of_mem_take hv))⟩) hw hs
        rw [hcat] at e1
        exact ⟨γ1, l1, e1⟩
      · cases h
    · rename_i m e ds ht
      split at h
      · rename_i hcond
        obtain ⟨xs, k, hfu, hxe, hl, hxl, hall⟩ := DataW.trod_array ht hx
        cases hxe
        have hcat := chunks (P.cellsOf e) m cs (by omega)
        rw [hcond.1, ← hl, List.take_length] at hcat
        obtain ⟨γ1, l1, e1⟩ := layL_sound (enc := enc) ih _ ((List.range m).map fun i => (cs.drop (i * P.cellsOf e)).take (P.cellsOf e)) A vs A' γ h (by
          refine ReadL.of_get _ _ (by simp [hxl]) fun i t d c a1 a2 => ?_
          rw [List.getElem?_map] at a2
          obtain ⟨j, hj, rfl⟩ := Option.map_eq_some_iff.1 a2
          have hi : i < m := by
            have := (List.getElem?_eq_some_iff.1 hj).1
            simpa using this
          obtain rfl : j = i := by rw [List.getElem?_range hi] at hj; exact (Option.some.inj hj).symm
          rw [List.getElem?_map, List.getElem?_map] at a1
          have h1 := hall j hi
          cases hx1 : xs[j]? with
          | none => rw [hx1] at a1; cases a1
          | some x =>
            rw [hx1] at a1 h1
            cases a1
            exact ⟨⟨k, x.2, h1⟩, fun v hv => hu v (List.mem_of_mem_drop (List.mem_of_mem_take hv))⟩) hw hs
        rw [hcat] at e1
        exact ⟨γ1, l1, e1⟩
      · cases h
    · cases h
end Go.AM
