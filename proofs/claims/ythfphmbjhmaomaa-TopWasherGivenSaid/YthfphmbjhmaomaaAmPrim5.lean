/-
  AM: what an operation gives in the canonical heap stands for what the model's operation gives in the real one. Fifth part: copy, clear, len, cap, maps, strings, arithmetic.
-/
import Derived.Test.YthfphmbjhmaomaaAmPrim1
namespace Go.AM
variable {P : Program} {γ γ' : Gam} {A A' : CW} {w w' : World}

theorem pureRun_run {α : Type} : ∀ (m : Sem α) (a : α), pureRun P m = some a → ∀ w, m.run P w = .ok a w
  | .pure _, _, h, _ => by simp [pureRun] at h; subst h; rfl
  | .program k, a, h, w => by simp only [pureRun] at h; simp only [Sem.run]; exact pureRun_run (k P) a h w
  | .mark _ k, a, h, w => by simp only [pureRun] at h; simp only [Sem.run]; exact pureRun_run k a h w
  | .load .., _, h, _ => by simp [pureRun] at h
  | .store .., _, h, _ => by simp [pureRun] at h
  | .new .., _, h, _ => by simp [pureRun] at h
  | .shape .., _, h, _ => by simp [pureRun] at h
  | .freeze .., _, h, _ => by simp [pureRun] at h
  | .frozen .., _, h, _ => by simp [pureRun] at h
  | .getObj .., _, h, _ => by simp [pureRun] at h
  | .setObj .., _, h, _ => by simp [pureRun] at h
  | .choose .., _, h, _ => by simp [pureRun] at h
  | .sys .., _, h, _ => by simp [pureRun] at h
  | .halt _, _, h, _ => by simp [pureRun] at h

theorem copy_sound (hw : WRel P γ A w) {ats : Array TypeId} {args args' : Array Value} {ty : TypeId} {v : Value} (ha : VA γ args args') (h : copy P A ats args = some (v, A')) :
    ∃ w' v', (Builtin.copy_ ats ty args').run P w = .ok v' w' ∧ Step P γ A w γ A' w' ∧ VR γ v v' := by
  unfold copy at h
  split at h
  · rename_i dT base dLen dCap x h0 h2 h3
    obtain ⟨d', h2', hd⟩ := ha.get h2
    obtain ⟨x', h3', hx⟩ := ha.get h3
    split at h
    · rename_i e hu
      split at h
      · rename_i s n hs hn
        split at h
        · rename_i cs hcs
          obtain ⟨cs', hc1, hc2⟩ := elems_sound hw hx hn (Nat.min_le_left n dLen) hcs
          have hl := lenOf_sound (P := P) hx hn w
          have hc1' := hc1 w rfl
          have hmin : Nat.min n dLen = min n dLen := rfl
          split at h
          · rename_i a
            obtain ⟨k, off, sp⟩ := a
            obtain ⟨em, o', cap', hg, rfl, a1, a2, a3, a4, a5⟩ := hd.inv_slice
            split at h
            · rename_i A₁ hput
              cases h
              obtain ⟨w', b1, b2⟩ := cells_write (P := P) hw hg hput hc2
              refine ⟨w', goInt ((min n dLen : Nat) : Int), ?_, b2, .int ..⟩
              have hst : (storeCells ⟨em.b, o', none⟩ cs' 0).run P w = .ok () w' := by
                rcases a3 with a3 | a3
                · rw [a3]; exact b1
                · have e0 : min n dLen = 0 := by omega
                  rw [e0] at hcs
                  have : cs = [] := by
                    unfold elems at hcs
                    split at hcs
                    · obtain ⟨e1, _, _, hg1, _⟩ := hx.inv_slice
                      have := (cells_read hw hg1 hcs).choose_spec.2.1
                      exact List.eq_nil_of_length_eq_zero (by simpa using this)
                    · cases hcs; rfl
                    · simp at hcs; exact hcs
                    · cases hcs
                  subst this
                  cases hc2.inv_nil
                  exact b1
              simp [Builtin.copy_, h0, h2', h3', run_underlying' hu, hl, run_sizeOf' hs, hmin, hc1', hst]
            · cases h
          · cases h
            obtain ⟨rfl, rfl, rfl⟩ := hd.inv_snil
            refine ⟨w, goInt ((min n 0 : Nat) : Int), ?_, .refl hw, .int ..⟩
            simp [Builtin.copy_, h0, h2', h3', run_underlying' hu, hl, run_sizeOf' hs] at hc1' ⊢
            rw [hc1']; simp
        · cases h
      · cases h
    · cases h
  · cases h

theorem clear_sound (hw : WRel P γ A w) {ats : Array TypeId} {args args' : Array Value} {ty : TypeId} (ha : VA γ args args') (h : clear P A ats args = some A') :
    ∃ w', (Builtin.clear_ ats ty args').run P w = .ok (.tuple #[]) w' ∧ Step P γ A w γ A' w' := by
  unfold clear at h
  split at h
  · rename_i t a n cap h0 h1
    obtain ⟨d', h1', hd⟩ := ha.get h1
    split at h
    · rename_i e hu
      cases h
      obtain ⟨rfl, rfl, rfl⟩ := hd.inv_snil
      exact ⟨w, by simp [Builtin.clear_, h0, h1', run_underlying' hu], .refl hw⟩
    · rename_i e q hu
      obtain ⟨k, off, sp⟩ := q
      obtain ⟨em, o', cap', hg, rfl, a1, a2, a3, a4, a5⟩ := hd.inv_slice
      split at h
      · rename_i hn
        cases h; subst hn
        exact ⟨w, by simp [Builtin.clear_, h0, h1', run_underlying' hu], .refl hw⟩
      · rename_i hn
        split at h
        · rename_i z hz
          have hzf := (zeroOf_spec hz).2.1
          have hcz : VL γ z.cells.toList z.cells.toList := (VR.of_flat γ z hzf).cells
          obtain ⟨w', b1, b2⟩ := cells_write (P := P) hw hg h (hcz.rep n)
          refine ⟨w', ?_, b2⟩
          have ho : o' = em.sh + off := by
            rcases a3 with a3 | a3
            · exact a3
            · omega
          subst ho
          have hr := range_rep z.cells n
          obtain ⟨m, rfl⟩ : ∃ m, n = m + 1 := ⟨n - 1, by omega⟩
          have hr2 := congrArg Array.toList hr
          simp only [Array.toList_map, Array.toList_range] at hr2
          simp [Builtin.clear_, h0, h1', run_underlying' hu, run_zero' hz, Builtin.zeroCells, hr2, b1]
        · cases h
    · cases h
  · cases h

theorem VR.inv_map {k : Nat} {v : Value} (h : VR γ (.map (some k)) v) : ∃ e, γ k = some e ∧ v = .map (some e.b) := by cases h with | map h => exact ⟨_, h, rfl⟩
theorem VR.inv_mnil {v : Value} (h : VR γ (.map none) v) : v = .map none := by cases h; rfl

/-- A map's entries in the real heap. -/
def ER (γ : Gam) (es : List MapEntry) (es' : Array MapEntry) : Prop :=
  es'.size = es.length ∧ ∀ (i : Nat) en, es[i]? = some en → ∃ en', es'[i]? = some en' ∧ en'.key = en.key ∧ en'.born = en.born ∧ VR γ en.val en'.val

theorem map_read (hw : WRel P γ A w) {k : Nat} {e : Emb} {es : List MapEntry} {clock ver : Nat} (hg : γ k = some e) (h : A.get k = .map es clock ver) :
    ∃ es', w.heap[e.b]? = some (.map es' clock) ∧ ER γ es es' := by
  have := hw.obj k e hg (CW.lt_of_live hw (by rw [h]; simp))
  rw [h] at this
  obtain ⟨es', h1, h2, h3⟩ := this
  exact ⟨es', h1, h2, h3⟩

theorem run_getObj_map {b : Nat} {es : Array MapEntry} {clock : Nat} (h : w.heap[b]? = some (.map es clock)) : (getObj b).run P w = .ok (.map es clock) w := by
  simp [getObj, Sem.run, h]

theorem findNow_sound (kd : TypeDesc) (key : Value) : ∀ (es : List MapEntry) (es' : List MapEntry) (i : Nat) (r : Option (Nat × Value)),
    es'.length = es.length → (∀ (j : Nat) en, es[j]? = some en → ∃ en', es'[j]? = some en' ∧ en'.key = en.key ∧ en'.born = en.born ∧ VR γ en.val en'.val) →
    Instr.findNow kd key es i = some r → match r with
      | none => Instr.findNow kd key es' i = some none
      | some (j, v) => ∃ v', Instr.findNow kd key es' i = some (some (j, v')) ∧ VR γ v v' ∧ i ≤ j ∧ j < i + es.length ∧ (es[j - i]?).map (·.val) = some v
  | [], es', i, r, hl, _, h => by
    simp [Instr.findNow] at h; subst h
    have : es' = [] := List.eq_nil_of_length_eq_zero (by simpa using hl)
    subst this; rfl
  | en :: es, es', i, r, hl, hall, h => by
    obtain ⟨en', h1, h2, h3, h4⟩ := hall 0 en (by simp)
    cases es' with
    | nil => simp at h1
    | cons x es' =>
      simp at h1; subst h1
      simp only [Instr.findNow] at h ⊢
      rw [h2]
      split at h
      · cases h
        exact ⟨_, rfl, h4, Nat.le_refl _, by simp, by simp⟩
      · have := findNow_sound kd key es es' (i + 1) r (by simpa using hl) (fun j en hj => by
          obtain ⟨y, a, b⟩ := hall (j + 1) en (by simpa using hj)
          exact ⟨y, by simpa using a, b⟩) h
        cases r with
        | none => exact this
        | some q =>
          obtain ⟨j, v⟩ := q
          obtain ⟨v', a, b, c, d, f⟩ := this
          refine ⟨v', a, b, by omega, by simp; omega, ?_⟩
          rw [show j - i = (j - (i + 1)) + 1 by omega]
          simpa using f
      · cases h

theorem keyKind_spec {t : TypeId} {d : TypeDesc} (h : keyKind P t = some d) : P.underlying t = some d ∧ ((∃ k, d = .int k) ∨ d = .string ∨ d = .bool) := by
  unfold keyKind at h
  split at h <;> first | cases h | skip
  · rename_i hu; exact ⟨hu, .inl ⟨_, rfl⟩⟩
  · rename_i hu; exact ⟨hu, .inr (.inl rfl)⟩
  · rename_i hu; exact ⟨hu, .inr (.inr rfl)⟩

theorem run_checkKey {t : TypeId} {d : TypeDesc} (h : keyKind P t = some d) (b : Bool) (v : Value) (w : World) : (Instr.checkKey b 10000 t v).run P w = .ok () w := by
  obtain ⟨h1, h2⟩ := keyKind_spec h
  have : (10000 : Nat) = 9999 + 1 := rfl
  rw [this]
  unfold Instr.checkKey
  rcases h2 with ⟨k, rfl⟩ | rfl | rfl <;> simp [run_underlying' h1]

theorem run_findKey {t : TypeId} {d : TypeDesc} (h : keyKind P t = some d) {key : Value} {es : List MapEntry} {r : Option (Nat × Value)} (hf : Instr.findNow d key es 0 = some r) (w : World) :
    (Instr.findKey t key es).run P w = .ok r w := by
  simp [Instr.findKey, run_underlying' (keyKind_spec h).1, hf]

theorem lookup_sound (hw : WRel P γ A w) {t : TypeId} {m m' i i' v : Value} {ok : Bool} (hm : VR γ m m') (hi : VR γ i i') (h : lookup P A t m i ok = some v) :
    ∃ v', (Instr.lookup t m' i' ok).run P w = .ok v' w ∧ VR γ v v' := by
  unfold lookup at h
  split at h
  · rename_i kt e hu
    split at h
    · rename_i kd z hk hz
      have hzf := (zeroOf_spec hz).2.1
      have hif : flatB i = true := by
        cases hb : flatB i with
        | true => rfl
        | false => simp [hb] at h
      cases flat_eq hi hif
      simp only [hif, Bool.true_eq_false, if_false] at h
      split at h
      · rename_i es hes
        have : ∃ es' : Array MapEntry, ER γ es es' ∧ ((m' = .map none ∧ es' = #[]) ∨ ∃ b clock, m' = .map (some b) ∧ (getObj b).run P w = .ok (.map es' clock) w) := by
          split at hes
          · cases hes
            exact ⟨#[], ⟨rfl, fun i en h => by simp at h⟩, .inl ⟨hm.inv_mnil, rfl⟩⟩
          · rename_i k
            split at hes
            · rename_i es₀ clock ver hob
              cases hes
              obtain ⟨em, hg, rfl⟩ := hm.inv_map
              obtain ⟨es', h1, h2⟩ := map_read hw hg hob
              exact ⟨es', h2, .inr ⟨_, _, rfl, run_getObj_map h1⟩⟩
            · cases hes
          · cases hes
        obtain ⟨es', her, hcase⟩ := this
        have hfs := fun r hr => findNow_sound (γ := γ) kd i es es'.toList 0 r (by simpa using her.1) (fun j en hj => by
          obtain ⟨en', a, b⟩ := her.2 j en hj
          exact ⟨en', by simpa using a, b⟩) hr
        have hrun : ∀ r r', Instr.findNow kd i es'.toList 0 = some r → r' = r → (Instr.lookup t m' i ok).run P w = .ok (match r with
            | some (_, v) => if ok then .tuple #[v, .bool true] else v
            | none => if ok then .tuple #[z, .bool false] else z) w := fun r _ hr _ => by
          rcases hcase with ⟨rfl, rfl⟩ | ⟨b, clock, rfl, hget⟩
          · have hr' := run_findKey hk hr w
            cases r with
            | none => simp [Instr.lookup, run_underlying' hu, run_checkKey hk, hr', run_zero' hz]
            | some q => obtain ⟨j, v⟩ := q; simp [Instr.lookup, run_underlying' hu, run_checkKey hk, hr']
          · have hr' := run_findKey hk hr w
            cases r with
            | none => simp [Instr.lookup, run_underlying' hu, hget, run_checkKey hk, hr', run_zero' hz]
            | some q => obtain ⟨j, v⟩ := q; simp [Instr.lookup, run_underlying' hu, hget, run_checkKey hk, hr']
        split at h
        · rename_i j v₀ hf
          cases h
          obtain ⟨v', a, b, _⟩ := hfs _ hf
          refine ⟨_, hrun _ _ a rfl, ?_⟩
          cases ok with
          | true => exact .tupleL (.cons b (.cons (.bool _) .nil))
          | false => exact b
        · rename_i hf
          cases h
          refine ⟨_, hrun _ _ (hfs _ hf) rfl, ?_⟩
          cases ok with
          | true => exact .tupleL (.cons (.of_flat γ z hzf) (.cons (.bool _) .nil))
          | false => exact .of_flat γ z hzf
        · cases h
      · cases h
    · cases h
  · cases h

theorem run_setObj_map {b : Nat} {es es' : Array MapEntry} {clock clock' : Nat} (h : w.heap[b]? = some (.map es clock)) :
    (setObj b (.map es' clock')).run P w = .ok () { w with heap := w.heap.setIfInBounds b (.map es' clock') } := by
  simp [setObj, Sem.run, h]

/-- A map turns. -/
theorem map_write (hw : WRel P γ A w) {k : Nat} {e : Emb} {es es₁ : List MapEntry} {es' : Array MapEntry} {clock clock₁ ver : Nat} (hg : γ k = some e) (h : A.get k = .map es clock ver)
    (her : ER γ es₁ es') : Step P γ A w γ (A.set k (.map es₁ clock₁ (ver + 1))) { w with heap := w.heap.setIfInBounds e.b (.map es' clock₁) } := by
  have hk : k < A.n := CW.lt_of_live hw (by rw [h]; simp)
  have hlt := hw.lt hg (by rw [h]; rfl)
  refine Step.set hw hg hk _ ?_ ?_ (by rw [h]; rfl) (by rw [h]; rfl) ?_ (by simp) (fun b hb => ?_) (.setObj (h ▸ hw.obj k e hg hk).choose_spec.1 rfl rfl rfl ⟨rfl, rfl⟩)
  · rw [h]; exact .inr (.inr ⟨by simp, by simp, by simp [Ob.ver]⟩)
  · rw [h]; intro hx
    have := congrArg Ob.ver hx
    simp [Ob.ver] at this
  · exact ⟨es', by simp [hlt], her⟩
  · simp only []
    rw [Array.getElem?_setIfInBounds, if_neg (fun h => hb h.symm)]

theorem ER.push {es : List MapEntry} {es' : Array MapEntry} (h : ER γ es es') {key v v' : Value} {born : Nat} (hv : VR γ v v') :
    ER γ (es ++ [{ key, val := v, born }]) (es'.push { key, val := v', born }) := by
  refine ⟨by simp [h.1], fun i en hi => ?_⟩
  by_cases hlt : i < es.length
  · rw [List.getElem?_append_left hlt] at hi
    obtain ⟨en', a, b⟩ := h.2 i en hi
    exact ⟨en', by rw [Array.getElem?_push_lt (by rw [h.1]; exact hlt), ← Array.getElem?_eq_getElem]; exact a, b⟩
  · rw [List.getElem?_append_right (by omega)] at hi
    have : i = es.length := by
      have := (List.getElem?_eq_some_iff.1 hi).1
      simp at this; omega
    subst this
    simp at hi
    subst hi
    exact ⟨{ key, val := v', born }, by rw [← h.1]; exact Array.getElem?_push_size, rfl, rfl, hv⟩
theorem ER.modify {es : List MapEntry} {es' : Array MapEntry} (h : ER γ es es') (j : Nat) (f f' : MapEntry → MapEntry)
    (hf : ∀ a b, b.key = a.key → b.born = a.born → VR γ a.val b.val → (f' b).key = (f a).key ∧ (f' b).born = (f a).born ∧ VR γ (f a).val (f' b).val) : ER γ (es.modify j f) (es'.modify j f') := by
  refine ⟨by simp [h.1], fun i en hi => ?_⟩
  rw [List.getElem?_modify] at hi
  rw [Array.getElem?_modify]
  cases he : es[i]? with
  | none => rw [he] at hi; simp at hi
  | some a =>
    rw [he] at hi
    obtain ⟨b, h1, h2, h3, h4⟩ := h.2 i a he
    rw [h1]
    by_cases hj : j = i
    · subst hj
      simp at hi
      subst hi
      exact ⟨f' b, by simp, hf a b h2 h3 h4⟩
    · simp [hj] at hi
      subst hi
      exact ⟨b, by simp [hj], h2, h3, h4⟩

theorem sameBits_self : ∀ (k : IntKind) (n : Int), Instr.sameBits 10000 (.int k n) (.int k n) = true := by intro k n; simp [Instr.sameBits]
theorem beq_bytes (a b : ByteArray) : (a == b) = true ↔ a = b := by
  obtain ⟨x⟩ := a
  obtain ⟨y⟩ := b
  refine ⟨fun h => ?_, fun h => ?_⟩
  · have e : x = y := by simpa using (show (x == y) = true from h)
    rw [e]
  · cases h
    show (x == x) = true
    simp
theorem sameNow_key {d : TypeDesc} {a b : Value} (h : Instr.sameNow d a b = some true) : b = a ∧ Instr.sameBits 10000 b a = true := by
  unfold Instr.sameNow at h
  split at h
  · rename_i k a' k' b'
    split at h
    · rename_i hk; simp at h; subst hk; subst h; exact ⟨rfl, by simp [Instr.sameBits]⟩
    · cases h
  · rename_i a b
    have e : a = b := (beq_bytes a b).1 (by simpa using h)
    subst e
    exact ⟨rfl, by simp only [Instr.sameBits]; exact (beq_bytes a a).2 rfl⟩
  · simp at h; subst h; exact ⟨rfl, by simp [Instr.sameBits]⟩
  · cases h

theorem findNow_key (d : TypeDesc) (key : Value) : ∀ (es : List MapEntry) (i j : Nat) (v : Value), Instr.findNow d key es i = some (some (j, v)) →
    i ≤ j ∧ ∃ en, es[j - i]? = some en ∧ en.val = v ∧ en.key = key ∧ Instr.sameBits 10000 en.key key = true
  | [], i, j, v, h => by simp [Instr.findNow] at h
  | en :: es, i, j, v, h => by
    simp only [Instr.findNow] at h
    split at h
    · rename_i hs
      simp at h
      obtain ⟨rfl, rfl⟩ := h
      obtain ⟨h1, h2⟩ := sameNow_key hs
      exact ⟨Nat.le_refl _, en, by simp, rfl, h1, h2⟩
    · obtain ⟨h1, en', h2, h3⟩ := findNow_key d key es (i + 1) j v h
      refine ⟨by omega, en', ?_, h3⟩
      rw [show j - i = (j - (i + 1)) + 1 by omega]
      simpa using h2
    · cases h

theorem mapUpdate_sound (hw : WRel P γ A w) {t : TypeId} {m m' i i' v v' : Value} (hm : VR γ m m') (hi : VR γ i i') (hv : VR γ v v') (h : mapUpdate P A t m i v = some A') :
    ∃ w', (Instr.mapUpdate t m' i' v').run P w = .ok () w' ∧ Step P γ A w γ A' w' := by
  unfold mapUpdate at h
  split at h
  · rename_i kt e k hu
    obtain ⟨em, hg, rfl⟩ := hm.inv_map
    split at h
    · rename_i kd es clock ver hk hob
      split at h
      · rename_i hcond
        cases flat_eq hi hcond.1
        obtain ⟨es', h1, h2⟩ := map_read hw hg hob
        have hfs := fun r hr => findNow_sound (γ := γ) kd i es es'.toList 0 r (by simpa using h2.1) (fun j en hj => by
          obtain ⟨en', a, b⟩ := h2.2 j en hj
          exact ⟨en', by simpa using a, b⟩) hr
        split at h
        · rename_i j v₀ hf
          cases h
          obtain ⟨v₁, a, b, _⟩ := hfs _ hf
          obtain ⟨_, en, c1, c2, c3, c4⟩ := findNow_key kd i es'.toList 0 j v₁ a
          refine ⟨_, ?_, map_write hw hg hob (h2.modify j (fun e => { e with key := i, val := v }) (fun e => { e with key := i, val := v' }) (fun _ _ _ hb _ => ⟨rfl, hb, hv⟩))⟩
          have c1' : es'[j]? = some en := by simpa using c1
          simp [Instr.mapUpdate, run_underlying' hu, run_getObj_map h1, run_checkKey hk, run_findKey hk a, c1', Instr.keyThatStays, c4, run_setObj_map h1]
        · rename_i hf
          cases h
          have a := hfs _ hf
          refine ⟨_, ?_, map_write hw hg hob (h2.push hv)⟩
          simp [Instr.mapUpdate, run_underlying' hu, run_getObj_map h1, run_checkKey hk, run_findKey hk a, run_setObj_map h1]
        · cases h
      · cases h
    · cases h
  · cases h

theorem mapEntry_sound (hw : WRel P γ A w) {t : TypeId} {m m' i i' v : Value} (hm : VR γ m m') (hi : VR γ i i') (h : mapEntry P A t m i = some (v, A')) :
    ∃ w' v', (Instr.mapEntry t m' i').run P w = .ok v' w' ∧ Step P γ A w γ A' w' ∧ VR γ v v' := by
  unfold mapEntry at h
  split at h
  · rename_i kt e k hu
    obtain ⟨em, hg, rfl⟩ := hm.inv_map
    split at h
    · rename_i kd es clock ver z hk hob hz
      have hzf := (zeroOf_spec hz).2.1
      split at h
      · rename_i hcond
        cases flat_eq hi hcond.1
        obtain ⟨es', h1, h2⟩ := map_read hw hg hob
        have hfs := fun r hr => findNow_sound (γ := γ) kd i es es'.toList 0 r (by simpa using h2.1) (fun j en hj => by
          obtain ⟨en', a, b⟩ := h2.2 j en hj
          exact ⟨en', by simpa using a, b⟩) hr
        split at h
        · rename_i j v₀ hf
          split at h
          · rename_i en₀ hen
            cases h
            obtain ⟨v₁, a, b, _⟩ := hfs _ hf
            obtain ⟨_, en, c1, c2, c3, c4⟩ := findNow_key kd i es'.toList 0 j v₁ a
            have c1' : es'[j]? = some en := by simpa using c1
            obtain ⟨en₁, d1, d2, d3, d4⟩ := h2.2 j en₀ hen
            rw [c1'] at d1; cases d1
            refine ⟨_, .tuple #[v₁, goInt en.born], ?_, map_write hw hg hob (h2.modify j (fun e => { e with key := i }) (fun e => { e with key := i }) (fun _ _ _ hb hv => ⟨rfl, hb, hv⟩)),
              .tupleL (.cons b (.cons (by rw [d3]; exact .int ..) .nil))⟩
            simp [Instr.mapEntry, run_underlying' hu, run_getObj_map h1, run_checkKey hk, run_findKey hk a, c1', Instr.keyThatStays, c4, run_setObj_map h1]
          · cases h
        · rename_i hf
          cases h
          have a := hfs _ hf
          refine ⟨_, .tuple #[z, goInt clock], ?_, map_write hw hg hob (h2.push (.of_flat γ z hzf)), .tupleL (.cons (.of_flat γ z hzf) (.cons (.int ..) .nil))⟩
          simp [Instr.mapEntry, run_underlying' hu, run_getObj_map h1, run_checkKey hk, run_findKey hk a, run_zero' hz, run_setObj_map h1]
        · cases h
      · cases h
    · cases h
  · cases h

theorem entryStore_sound (hw : WRel P γ A w) {t : TypeId} {m m' s s' v v' : Value} (hm : VR γ m m') (hs : VR γ s s') (hv : VR γ v v') (h : entryStore A m s v = some A') :
    ∃ w', (Instr.entryStore t m' s' v').run P w = .ok () w' ∧ Step P γ A w γ A' w' := by
  unfold entryStore at h
  split at h
  · rename_i k kd b
    obtain ⟨em, hg, rfl⟩ := hm.inv_map
    cases hs.inv_int
    split at h
    · rename_i es clock ver hob
      split at h
      · rename_i j hj
        cases h
        obtain ⟨es', h1, h2⟩ := map_read hw hg hob
        have hj' : es'.findIdx? (fun e => (e.born : Int) == b) = some j := by
          rw [Array.findIdx?_eq_some_iff_getElem]
          rw [List.findIdx?_eq_some_iff_getElem] at hj
          obtain ⟨hlt, hp, hnot⟩ := hj
          have hlt' : j < es'.size := by rw [h2.1]; exact hlt
          have key : ∀ (i : Nat) (hi : i < es.length) (hi' : i < es'.size), es'[i].born = es[i].born := fun i hi hi' => by
            obtain ⟨en', a, _, c, _⟩ := h2.2 i es[i] (by simp [hi])
            simp [hi'] at a
            rw [a]; exact c
          refine ⟨hlt', by rw [key j hlt hlt']; exact hp, fun i hi => ?_⟩
          rw [key i (by omega) (by omega)]
          exact hnot i hi
        refine ⟨_, ?_, map_write hw hg hob (h2.modify j (fun e => { e with val := v }) (fun e => { e with val := v' }) (fun _ _ hk hb _ => ⟨hk, hb, hv⟩))⟩
        simp [Instr.entryStore, run_getObj_map h1, asInt, asIntOf, hj', run_setObj_map h1]
      · cases h
    · cases h
  · cases h
end Go.AM

/-
  AM: what an operation gives in the canonical heap stands for what the model's operation gives in the real one. Sixth part: the whole.
-/
namespace Go.AM
variable {P : Program} {γ γ' : Gam} {A A' : CW} {w w' : World}

theorem len_sound (hw : WRel P γ A w) {ats : Array TypeId} {args args' : Array Value} {ty : TypeId} {v : Value} (ha : VA γ args args') (h : len P A ats args = some v) :
    ∃ v', (Builtin.len_ ats ty args').run P w = .ok v' w ∧ VR γ v v' := by
  unfold len at h
  split at h
  · rename_i t x h0 h1
    obtain ⟨x', h1', hx⟩ := ha.get h1
    split at h
    · rename_i s hu
      cases h; cases hx.inv_string
      exact ⟨_, by simp [Builtin.len_, h0, h1', run_underlying' hu, goInt], .int ..⟩
    · rename_i e a n c hu
      cases h
      refine ⟨goInt n, ?_, .int ..⟩
      cases a with
      | none => obtain ⟨rfl, rfl, rfl⟩ := hx.inv_snil; simp [Builtin.len_, h0, h1', run_underlying' hu]
      | some q => obtain ⟨k, o, sp⟩ := q; obtain ⟨e, o', cap', _, rfl, _⟩ := hx.inv_slice; simp [Builtin.len_, h0, h1', run_underlying' hu]
    · rename_i n e hu
      cases h
      exact ⟨_, by simp [Builtin.len_, h0, h1', run_underlying' hu, goInt], .int ..⟩
    · rename_i a hu
      split at h
      · rename_i n e hu2
        cases h
        exact ⟨_, by simp [Builtin.len_, h0, h1', run_underlying' hu, run_underlying' hu2, goInt], .int ..⟩
      · cases h
    · rename_i k e hu
      cases h; cases hx.inv_mnil
      exact ⟨_, by simp [Builtin.len_, h0, h1', run_underlying' hu, goInt], .int ..⟩
    · rename_i kt e k hu
      obtain ⟨em, hg, rfl⟩ := hx.inv_map
      split at h
      · rename_i es clock ver hob
        cases h
        obtain ⟨es', a, b⟩ := map_read hw hg hob
        refine ⟨goInt es.length, ?_, .int ..⟩
        simp [Builtin.len_, h0, h1', run_underlying' hu, run_getObj_map a, b.1]
      · cases h
    · cases h
  · cases h

theorem cap_sound (hw : WRel P γ A w) {ats : Array TypeId} {args args' : Array Value} {ty : TypeId} {v : Value} (ha : VA γ args args') (h : capOf P A ats args = some v) :
    ∃ v', (Builtin.cap_ ats ty args').run P w = .ok v' w ∧ VR γ v v' := by
  unfold capOf at h
  split at h
  · rename_i t a n c h0 h1
    obtain ⟨x', h1', hx⟩ := ha.get h1
    split at h
    · rename_i e hu
      split at h
      · cases h
        obtain ⟨rfl, rfl, rfl⟩ := hx.inv_snil
        exact ⟨_, by simp [Builtin.cap_, h0, h1', run_underlying' hu, goInt], .int ..⟩
      · rename_i q
        obtain ⟨k, o, sp⟩ := q
        obtain ⟨em, o', cap', hg, rfl, a1, a2, a3, a4, a5⟩ := hx.inv_slice
        split at h
        · rename_i vs t' ro ver hob
          cases h
          have hor := hw.obj k em hg (CW.lt_of_live hw (by simp only at hob; rw [hob]; simp))
          simp only at hob
          rw [hob] at hor
          have := a4 hor.1
          subst this
          exact ⟨_, by simp [Builtin.cap_, h0, h1', run_underlying' hu, goInt], .int ..⟩
        · cases h
    · cases h
  · cases h

/-- A name for nothing of a row. -/
theorem Step.alias (h : WRel P γ A w) {k : Nat} {em : Emb} (hg : γ k = some em) (hk : k < A.n) (hf : γ A.n = none) (t : TypeId) (e' : Emb) (hb : e'.b = em.b) (hl : e'.loose = false) :
    Step P γ A w (addG γ A.n e') (A.push (.cells [] t false true 0)) w := by
  have hcase : ∀ k' e'', addG γ A.n e' k' = some e'' → (k' = A.n ∧ e'' = e') ∨ (k' ≠ A.n ∧ γ k' = some e'') := fun k' e'' hk' => by
    by_cases hkn : k' = A.n
    · subst hkn; simp at hk'; exact .inl ⟨rfl, hk'.symm⟩
    · rw [addG_ne _ _ hkn] at hk'; exact .inr ⟨hkn, hk'⟩
  refine ⟨.refl _, addG_ext hf, fun k' e'' hk' => ?_, fun k' h1 h2 => ?_, ⟨fun k' e'' hk' hn => ?_, fun k₁ e₁ k₂ e₂ h1 h2 hn hbb => ?_, fun k' e'' hk' => ?_, fun g hg' => ?_, fun k' hk' => ?_⟩,
    by simp, fun k' hk' hn => CW.get_push_ne _ _ (by omega), fun k' hk' => ?_, fun k' hk' hr => CW.get_push_ne _ _ (by omega), Nat.le_refl _, fun k' e'' hk' hn hlt => ?_, fun _ _ _ => rfl⟩
  · rcases hcase k' e'' hk' with ⟨rfl, _⟩ | ⟨_, h1⟩
    · exact .inr ⟨Nat.le_refl _, by simp⟩
    · exact .inl h1
  · simp at h2
    have : k' = A.n := by omega
    subst this; exact hf
  · rcases hcase k' e'' hk' with ⟨rfl, rfl⟩ | ⟨hkn, h1⟩
    · rw [CW.get_push_self]
      exact ⟨hl, fun h => (by cases h), .inl ⟨rfl, rfl⟩⟩
    · rw [CW.get_push_ne _ _ hkn]
      simp at hn
      exact (h.obj k' e'' h1 (by omega)).mono (addG_ext hf)
  · rcases hcase k₁ e₁ h1 with ⟨rfl, rfl⟩ | ⟨hkn1, h1'⟩
    · exact .inl ⟨by simp, by rw [CW.get_push_self]; rfl⟩
    · rcases hcase k₂ e₂ h2 with ⟨rfl, rfl⟩ | ⟨hkn2, h2'⟩
      · exact .inr (.inl ⟨by simp, by rw [CW.get_push_self]; rfl⟩)
      · rw [CW.get_push_ne _ _ hkn1, CW.get_push_ne _ _ hkn2]
        rcases h.sep k₁ e₁ k₂ e₂ h1' h2' hn hbb with ⟨a, b⟩ | ⟨a, b⟩ | ⟨a, b, c⟩
        · exact .inl ⟨by simp; omega, b⟩
        · exact .inr (.inl ⟨by simp; omega, b⟩)
        · exact .inr (.inr ⟨by simp; omega, by simp; omega, c⟩)
  · rcases hcase k' e'' hk' with ⟨rfl, rfl⟩ | ⟨_, h1⟩
    · exact .inr ⟨by simp, by rw [CW.get_push_self]; rfl⟩
    · rw [CW.get_push_ne _ _ (by assumption)]
      exact (h.blk k' e'' h1).imp id fun ⟨a, b⟩ => ⟨by simp; omega, b⟩
  · obtain ⟨e'', h1, h2⟩ := h.glob g hg'
    exact ⟨e'', addG_ext hf _ _ h1, h2⟩
  · simp at hk'
    rw [CW.get_push_ne _ _ (by omega)]; exact h.wf k' (by omega)
  · rw [CW.get_push_ne _ _ (by omega)]; exact .refl _
  · rcases hcase k' e'' hk' with ⟨rfl, rfl⟩ | ⟨_, h1⟩
    · exact ⟨k, em, hg, hk, hb.symm, .inr (by rw [CW.get_push_self]; rfl)⟩
    · rw [h1] at hn; cases hn

theorem slice3_sound (hw : WRel P γ A w) (hf : ∀ k, A.n ≤ k → k < A'.n → γ k = none) {t : TypeId} {x x' v : Value} {lo hi mx lo' hi' mx' : Option Value} (hx : VR γ x x')
    (hlo : ∀ x, lo = some x → ∃ x', lo' = some x' ∧ VR γ x x') (hhi : ∀ x, hi = some x → ∃ x', hi' = some x' ∧ VR γ x x') (hmx : ∀ x, mx = some x → ∃ x', mx' = some x' ∧ VR γ x x')
    (hn1 : lo = none → lo' = none) (h : slice3 P A t x lo hi mx = some (v, A')) :
    ∃ γ' w' v', (Instr.sliceAt t x' lo' hi' mx').run P w = .ok v' w' ∧ Step P γ A w γ' A' w' ∧ VR γ' v v' := by
  unfold slice3 at h
  split at h
  · rename_i e a len cap hu
    split at h
    · rename_i s m hs hm
      split at h
      · rename_i hh h1
        split at h
        · rename_i l h2
          split at h
          · rename_i hcond
            obtain ⟨rfl, hhs, hms⟩ := hcond
            have key : ∀ {cap'}, cap ≤ cap' → (Instr.sliceBounds true len cap' lo' hi' mx').run P w = .ok (m, m, m) w := fun {cap'} hc => by
              rcases bnd_sound hmx hm hc with ⟨rfl, _⟩ | ⟨k1, n1, rfl, rfl, b1, b2, b3, b4⟩
              · cases hms
              · rcases bnd_sound hhi h1 (Nat.le_refl _) with ⟨rfl, _⟩ | ⟨k2, n2, rfl, rfl, c1, c2, c3, c4⟩
                · cases hhs
                · rcases bnd_sound hlo h2 (Nat.le_refl _) with ⟨rfl, rfl⟩ | ⟨k3, n3, rfl, rfl, d1, d2, d3, d4⟩
                  · cases hn1 rfl
                    have : n2.toNat = 0 := by omega
                    have : n1.toNat = 0 := by omega
                    have e1 := sliceBound_ok (P := P) (k := k1) (c := .slice3Acap) b1 b4 w
                    have e2 := sliceBound_ok (P := P) (k := k2) (y := n1.toNat) (c := .slice3B) c1 (by omega) w
                    simp [Instr.sliceBounds, e1, e2]
                    omega
                  · have e1 := sliceBound_ok (P := P) (k := k1) (c := .slice3Acap) b1 b4 w
                    have e2 := sliceBound_ok (P := P) (k := k2) (y := n1.toNat) (c := .slice3B) c1 (by omega) w
                    have e3 := sliceBound_ok (P := P) (k := k3) (y := n2.toNat) (c := .slice3C) d1 (by omega) w
                    simp [Instr.sliceBounds, e1, e2, e3]
                    omega
            split at h
            · cases h
              obtain ⟨rfl, rfl, rfl⟩ := hx.inv_snil
              refine ⟨γ, w, .slice none 0 0, ?_, .refl hw, .snil⟩
              simp [Instr.sliceAt, Instr.slice, run_underlying' hu, key (Nat.le_refl _), run_sizeOf' hs]
            · rename_i q
              obtain ⟨k, o, sp⟩ := q
              obtain ⟨em, o', cap', hg, rfl, a1, a2, a3, a4, a5⟩ := hx.inv_slice
              split at h
              · rename_i hk
                cases h
                have hfn : γ A.n = none := hf A.n (Nat.le_refl _) (by simp)
                refine ⟨_, w, .slice (some ⟨em.b, o', none⟩) 0 0, ?_, Step.alias hw hg hk hfn e ⟨em.b, 0, 0, 0, false⟩ rfl rfl, ?_⟩
                · simp [Instr.sliceAt, Instr.slice, run_underlying' hu, key a2, run_sizeOf' hs]
                · exact VR.slice (e := ⟨em.b, 0, 0, 0, false⟩) (addG_self γ A.n _) (Nat.le_refl _) (Nat.le_refl _) (.inr rfl) (fun _ => rfl) (fun h => by cases h)
              · cases h
          · cases h
        · cases h
      · cases h
    · cases h
  · cases h

theorem flatly_spec {x : Option Value} {v : Value} (h : flatly x = some v) : x = some v ∧ flatB v = true := by
  unfold flatly at h
  split at h
  · split at h
    · rename_i hv; cases h; exact ⟨rfl, hv⟩
    · cases h
  · cases h
theorem intBin_sound {op : BinOp} {k : IntKind} {a b : Int} {v : Value} (hs : isShift op = false) (h : intBin op k a b = some v) (w : World) :
    (match op with
      | .add | .sub | .mul => Op.intArith op k a b
      | .quo | .rem => Op.intDiv op k a b
      | .and | .or | .xor | .andNot => Op.intBits op k a b
      | _ => Op.intCmp op a b).run P w = .ok v w ∧ flatB v = true := by
  cases op <;> simp only [intBin] at h <;> first
    | (cases h; exact ⟨rfl, rfl⟩)
    | (simp [isShift] at hs; done)
    | (split at h
       · cases h
       · rename_i h0; cases h; exact ⟨by simp [Op.intDiv, h0], rfl⟩)

theorem eqGuard_int (op : BinOp) (t : TypeId) (xo yo : Operand) (k k' : IntKind) (a b : Int) (w : World) : (eqGuard op t xo yo (.int k a) (.int k' b)).run P w = .ok () w := by
  unfold eqGuard; cases op <;> simp

theorem nilCmp_sound {t : TypeId} {x x' y y' : Value} {b : Bool} (hx : VR γ x x') (hy : VR γ y y') (h : nilCmp P t x y = some b) (w : World) : (Op.equal t x' y').run P w = .ok b w := by
  have hd : Op.maxDepth = 9999 + 1 := rfl
  unfold nilCmp at h
  split at h
  · rename_i e a n c b' n' c' hu
    split at h
    · rename_i hb
      cases h
      cases b' with
      | some q => cases hb
      | none =>
        obtain ⟨_, _, rfl⟩ := hy.inv_snil
        unfold Op.equal; rw [hd]; unfold Op.equalIn
        cases a with
        | none => obtain ⟨rfl, rfl, rfl⟩ := hx.inv_snil; simp [run_underlying' hu]
        | some q => obtain ⟨k, o, sp⟩ := q; obtain ⟨e, o', cap', _, rfl, _⟩ := hx.inv_slice; simp [run_underlying' hu]
    · rename_i hb
      split at h
      · rename_i ha
        cases h
        cases a with
        | some q => cases ha
        | none =>
          obtain ⟨_, _, rfl⟩ := hx.inv_snil
          unfold Op.equal; rw [hd]; unfold Op.equalIn
          cases b' with
          | none => exact absurd rfl hb
          | some q => obtain ⟨k, o, sp⟩ := q; obtain ⟨e, o', cap', _, rfl, _⟩ := hy.inv_slice; simp [run_underlying' hu]
      · cases h
  · rename_i k e a b' hu
    split at h
    · rename_i hb
      cases h
      cases b' with
      | some q => cases hb
      | none =>
        cases hy.inv_mnil
        unfold Op.equal; rw [hd]; unfold Op.equalIn
        cases a with
        | none => cases hx.inv_mnil; simp [run_underlying' hu]
        | some q => obtain ⟨e, _, rfl⟩ := hx.inv_map; simp [run_underlying' hu]
    · rename_i hb
      split at h
      · rename_i ha
        cases h
        cases a with
        | some q => cases ha
        | none =>
          cases hx.inv_mnil
          unfold Op.equal; rw [hd]; unfold Op.equalIn
          cases b' with
          | none => exact absurd rfl hb
          | some q => obtain ⟨e, _, rfl⟩ := hy.inv_map; simp [run_underlying' hu]
      · cases h
  · cases h

/-- No guard is asked of values that hold no nil interface. -/
theorem eqGuard_slice (op : BinOp) (t : TypeId) (xo yo : Operand) (a b : Option Addr) (n c n' c' : Nat) (w : World) : (eqGuard op t xo yo (.slice a n c) (.slice b n' c')).run P w = .ok () w := by
  unfold eqGuard; cases op <;> simp
theorem eqGuard_map (op : BinOp) (t : TypeId) (xo yo : Operand) (a b : Option Nat) (w : World) : (eqGuard op t xo yo (.map a) (.map b)).run P w = .ok () w := by
  unfold eqGuard; cases op <;> simp

theorem VR.inv_sliceA {a : Option Addr} {n c : Nat} {v : Value} (h : VR γ (.slice a n c) v) : ∃ a' c', v = .slice a' n c' := by
  cases h with
  | snil => exact ⟨_, _, rfl⟩
  | slice => exact ⟨_, _, rfl⟩
theorem VR.inv_mapA {a : Option Nat} {v : Value} (h : VR γ (.map a) v) : ∃ a', v = .map a' := by
  cases h with
  | mnil => exact ⟨_, rfl⟩
  | map => exact ⟨_, rfl⟩

theorem binOp_sound {op : BinOp} {t : TypeId} {xo yo : Operand} {x x' y y' v : Value} (hx : VR γ x x') (hy : VR γ y y') (h : binOp P op t xo yo x y = some v) (w : World) :
    ∃ v', (do eqGuard op t xo yo x' y'; Go.binOp op t x' y' : Sem Value).run P w = .ok v' w ∧ VR γ v v' := by
  unfold binOp at h
  split at h
  · rename_i k a k' b
    cases hx.inv_int; cases hy.inv_int
    split at h
    · rename_i hs
      refine ⟨v, ?_, ?_⟩
      · rw [Sem.run_bind, eqGuard_int, Result.andThen_ok]
        cases op <;> simp only [isShift, Bool.false_eq_true] at hs <;> simp only [intBin] at h <;>
          (split at h
           · cases h
           · rename_i h0; cases h; simp [Go.binOp, Op.shift, h0])
      · cases op <;> simp only [isShift, Bool.false_eq_true] at hs <;> simp only [intBin] at h <;>
          (split at h
           · cases h
           · cases h; exact .int ..)
    · rename_i hs
      have hs' : isShift op = false := by simpa using hs
      split at h
      · rename_i hk
        subst hk
        obtain ⟨h1, h2⟩ := intBin_sound (P := P) hs' h w
        refine ⟨v, ?_, .of_flat γ v h2⟩
        rw [Sem.run_bind, eqGuard_int, Result.andThen_ok, ← h1]
        cases op <;> first | (simp [isShift] at hs'; done) | simp [Go.binOp]
      · cases h
  · split at h
    · rename_i hf
      rw [Bool.and_eq_true] at hf
      cases flat_eq hx hf.1; cases flat_eq hy hf.2
      obtain ⟨hu, hv⟩ := flatly_spec h
      exact ⟨_, pureRun_run _ _ hu w, .of_flat γ _ hv⟩
    · have hn : ∀ b, nilCmp P t x y = some b → ((∃ a n c a' n' c', x' = .slice a n c ∧ y' = .slice a' n' c') ∨ (∃ a a', x' = .map a ∧ y' = .map a')) := fun b hb => by
        unfold nilCmp at hb
        split at hb
        · obtain ⟨a1, c1, rfl⟩ := hx.inv_sliceA
          obtain ⟨a2, c2, rfl⟩ := hy.inv_sliceA
          exact .inl ⟨_, _, _, _, _, _, rfl, rfl⟩
        · obtain ⟨a1, rfl⟩ := hx.inv_mapA
          obtain ⟨a2, rfl⟩ := hy.inv_mapA
          exact .inr ⟨_, _, rfl, rfl⟩
        · cases hb
      split at h
      · obtain ⟨b, hb, rfl⟩ := Option.map_eq_some_iff.1 h
        have h1 := nilCmp_sound hx hy hb w
        refine ⟨.bool b, ?_, .bool _⟩
        rcases hn b hb with ⟨a, n, c, a', n', c', rfl, rfl⟩ | ⟨a, a', rfl, rfl⟩
        · rw [Sem.run_bind, eqGuard_slice, Result.andThen_ok]; simp [Go.binOp, h1]
        · rw [Sem.run_bind, eqGuard_map, Result.andThen_ok]; simp [Go.binOp, h1]
      · obtain ⟨b, hb, rfl⟩ := Option.map_eq_some_iff.1 h
        have h1 := nilCmp_sound hx hy hb w
        refine ⟨.bool (!b), ?_, .bool _⟩
        rcases hn b hb with ⟨a, n, c, a', n', c', rfl, rfl⟩ | ⟨a, a', rfl, rfl⟩
        · rw [Sem.run_bind, eqGuard_slice, Result.andThen_ok]; simp [Go.binOp, h1]
        · rw [Sem.run_bind, eqGuard_map, Result.andThen_ok]; simp [Go.binOp, h1]
      · cases h

theorem unOp_sound {op : UnOp} {x x' v : Value} (hx : VR γ x x') (h : unOp P op x = some v) (w : World) : ∃ v', (Op.unary op x').run P w = .ok v' w ∧ VR γ v v' := by
  unfold unOp at h
  split at h
  · cases h; cases hx.inv_bool; exact ⟨_, rfl, .bool _⟩
  · split at h
    · rename_i hf
      cases flat_eq hx hf
      obtain ⟨hu, hv⟩ := flatly_spec h
      exact ⟨_, pureRun_run _ _ hu w, .of_flat γ _ hv⟩
    · cases h

theorem convert_sound {s d : TypeId} {x x' v : Value} (hx : VR γ x x') (h : convert P s d x = some v) (w : World) : ∃ v', (Go.convert s d x').run P w = .ok v' w ∧ VR γ v v' := by
  unfold convert at h
  split at h
  · rename_i hf
    cases flat_eq hx hf
    obtain ⟨hu, hv⟩ := flatly_spec h
    exact ⟨_, pureRun_run _ _ hu w, .of_flat γ _ hv⟩
  · cases h
end Go.AM

/-
  AM: every operation but a call of a function: what it gives in the canonical heap stands for what the model's gives in the real one.
-/
namespace Go.AM
variable {P : Program} {γ γ' : Gam} {A A' : CW} {w w' : World}

/-- An outcome of the model that stands for a canonical one. -/
def Out (P : Program) (γ : Gam) (A : CW) (w : World) (v : Value) (A' : CW) (R : Result Next) : Prop :=
  ∃ γ' w' r, R = .ok r w' ∧ Step P γ A w γ' A' w' ∧ ((∃ v', r = .value v' ∧ VR γ' v v') ∨ (r = .skip ∧ v = undef))

theorem Out.quiet {v : Value} {s : Sem Value} (hw : WRel P γ A w) (h : ∃ v', s.run P w = .ok v' w ∧ VR γ v v') : Out P γ A w v A ((do pure (.value (← s)) : Sem Next).run P w) := by
  obtain ⟨v', h1, h2⟩ := h
  exact ⟨γ, w, .value v', by simp [h1], .refl hw, .inl ⟨v', rfl, h2⟩⟩
theorem Out.val {v : Value} {s : Sem Value} (h : ∃ γ' w' v', s.run P w = .ok v' w' ∧ Step P γ A w γ' A' w' ∧ VR γ' v v') : Out P γ A w v A' ((do pure (.value (← s)) : Sem Next).run P w) := by
  obtain ⟨γ', w', v', h1, h2, h3⟩ := h
  exact ⟨γ', w', .value v', by simp [h1], h2, .inl ⟨v', rfl, h3⟩⟩
theorem Out.unit {s : Sem Unit} (h : ∃ w', s.run P w = .ok () w' ∧ Step P γ A w γ A' w') : Out P γ A w undef A' ((do s; pure .skip : Sem Next).run P w) := by
  obtain ⟨w', h1, h2⟩ := h
  exact ⟨γ, w', .skip, by simp [h1], h2, .inr ⟨rfl, rfl⟩⟩

theorem VA.map_eval {xs : Array Operand} {τ : T Value} {nt : Nat} {a : Act} (ht : TR γ τ nt a.tmps) (hw : WRel P γ A w) (hx : ∀ x ∈ xs, okOperand P.globals.size x = true) : VA γ (xs.map (ev τ)) (xs.map a.eval) := by
  unfold VA
  simp only [Array.toList_map]
  exact VL.map _ _ _ fun x hx' => ev_rel ht hw (hx x (by simpa using hx'))

theorem VA.flat {a a' : Array Value} (h : VA γ a a') (hf : a.toList.all flatB = true) : a' = a := by
  apply Array.ext'
  refine List.ext_getElem? fun i => ?_
  cases hi : a.toList[i]? with
  | none =>
    have := List.getElem?_eq_none_iff.1 hi
    exact List.getElem?_eq_none (by rw [← h.1]; exact this)
  | some x =>
    obtain ⟨y, h1, h2⟩ := h.2 i x hi
    rw [List.all_eq_true] at hf
    rw [h1, flat_eq h2 (hf x (List.mem_of_getElem? hi))]
theorem siter_read (hw : WRel P γ A w) {k : Nat} {e : Emb} {s : ByteArray} {pos ver : Nat} (hg : γ k = some e) (h : A.get k = .siter s pos ver) : w.heap[e.b]? = some (.stringIter s pos) ∧ e.sh = 0 := by
  have := hw.obj k e hg (CW.lt_of_live hw (by rw [h]; simp))
  rw [h] at this
  exact this

theorem siter_write (hw : WRel P γ A w) {k : Nat} {e : Emb} {s : ByteArray} {pos pos' ver : Nat} (hg : γ k = some e) (h : A.get k = .siter s pos ver) :
    Step P γ A w γ (A.set k (.siter s pos' (ver + 1))) { w with heap := w.heap.setIfInBounds e.b (.stringIter s pos') } := by
  have hk : k < A.n := CW.lt_of_live hw (by rw [h]; simp)
  have hlt := hw.lt hg (by rw [h]; rfl)
  refine Step.set hw hg hk _ ?_ ?_ (by rw [h]; rfl) (by rw [h]; rfl) ?_ (by simp) (fun b hb => ?_) (.setObj (siter_read hw hg h).1 rfl rfl rfl ⟨rfl, rfl⟩)
  · rw [h]; exact .inr (.inr ⟨by simp, by simp, by simp [Ob.ver]⟩)
  · rw [h]; intro hx
    have := congrArg Ob.ver hx
    simp [Ob.ver] at this
  · exact ⟨by simp [hlt], (siter_read hw hg h).2⟩
  · simp only []
    rw [Array.getElem?_setIfInBounds, if_neg (fun h => hb h.symm)]

theorem prim_sound {o : Oper} {τ : T Value} {nt : Nat} {a : Act} {v : Value} (h : prim P o τ A = some (v, A')) (hw : WRel P γ A w) (hf : ∀ k, A.n ≤ k → k < A'.n → γ k = none)
    (ht : TR γ τ nt a.tmps) (hok : okOp P.globals.size o = true) : Out P γ A w v A' ((execOp a.eval o).run P w) := by
  have hopd : ∀ x ∈ o.op.operands, okOperand P.globals.size x = true := by
    unfold okOp at hok
    rw [Array.all_eq_true'] at hok
    exact hok
  have ev' : ∀ x ∈ o.op.operands, VR γ (ev τ x) (a.eval x) := fun x hx => ev_rel ht hw (hopd x hx)
  obtain ⟨dst, op, type, pos, after, guard⟩ := o
  simp only at hopd ev'
  cases op with
  | move x =>
    simp only [prim] at h; cases h
    exact ⟨γ, w, _, rfl, .refl hw, .inl ⟨_, rfl, ev' x (by simp [Op.operands])⟩⟩
  | assign x =>
    simp only [prim] at h; cases h
    exact ⟨γ, w, _, rfl, .refl hw, .inl ⟨_, rfl, ev' x (by simp [Op.operands])⟩⟩
  | pick c x y =>
    simp only [prim] at h
    have hc := ev' c (by simp [Op.operands])
    split at h
    · rename_i hb; rw [hb] at hc; cases h
      refine ⟨γ, w, .value (a.eval x), ?_, .refl hw, .inl ⟨_, rfl, ev' x (by simp [Op.operands])⟩⟩
      simp [execOp, hc.inv_bool, asBool]
    · rename_i hb; rw [hb] at hc; cases h
      refine ⟨γ, w, .value (a.eval y), ?_, .refl hw, .inl ⟨_, rfl, ev' y (by simp [Op.operands])⟩⟩
      simp [execOp, hc.inv_bool, asBool]
    · cases h
  | alloc t =>
    simp only [prim] at h
    obtain ⟨z, hz, he⟩ := Option.map_eq_some_iff.1 h
    cases he
    exact Out.val (alloc_sound hw (hf _ (Nat.le_refl _) (by simp)) hz)
  | box t x =>
    simp only [prim] at h
    split at h
    · cases h
      exact Out.val (box_sound hw (hf _ (Nat.le_refl _) (by simp)) (ev' x (by simp [Op.operands])))
    · cases h
  | build t parts =>
    simp only [prim] at h
    obtain ⟨u, hu, he⟩ := Option.map_eq_some_iff.1 h
    cases he
    refine Out.quiet hw (build_sound ?_ hu w)
    simp only [Array.toList_map]
    exact PR.map parts.toList (ev τ) a.eval fun x hx => ev' x.2 (by simp [Op.operands]; exact ⟨x.1, by simpa using hx⟩)
  | buildSlice t l parts =>
    simp only [prim] at h
    have hn : γ A.n = none := by
      refine hf _ (Nat.le_refl _) ?_
      unfold buildSlice at h
      repeat' (split at h)
      all_goals first | cases h | skip
      simp
    refine Out.val (buildSlice_sound hw hn ?_ h)
    simp only [Array.toList_map]
    exact PR.map parts.toList (ev τ) a.eval fun x hx => ev' x.2 (by simp [Op.operands]; exact ⟨x.1, by simpa using hx⟩)
  | load t x =>
    simp only [prim] at h
    obtain ⟨u, hu, he⟩ := Option.map_eq_some_iff.1 h
    cases he
    exact Out.quiet hw (loadAt_sound hw (ev' x (by simp [Op.operands])) hu)
  | store t x y =>
    simp only [prim] at h
    obtain ⟨u, hu, he⟩ := Option.map_eq_some_iff.1 h
    cases he
    exact Out.unit (storeAt_sound hw (ev' x (by simp [Op.operands])) (ev' y (by simp [Op.operands])) hu)
  | nilCheck x =>
    simp only [prim] at h
    have hx := ev' x (by simp [Op.operands])
    split at h
    · rename_i q hq
      rw [hq] at hx; cases h
      obtain ⟨k, o, sp⟩ := q
      obtain ⟨e, hg, hs, hv⟩ := hx.inv_ptr
      refine ⟨γ, w, .value (.pointer (some ⟨e.b, e.sh + o, none⟩)), ?_, .refl hw, .inl ⟨_, rfl, .ptr hg hs⟩⟩
      simp [execOp, hv]
    · rename_i f a' c' hq
      rw [hq] at hx; cases h
      obtain ⟨a2, c2, hv, h1, h2⟩ := hx.inv_func
      refine ⟨γ, w, .value (.func (.func f) a2 c2), ?_, .refl hw, .inl ⟨_, rfl, .funcL h1 h2⟩⟩
      simp [execOp, hv]
    · cases h
  | binOp op t x y yt =>
    simp only [prim] at h
    obtain ⟨u, hu, he⟩ := Option.map_eq_some_iff.1 h
    cases he
    exact Out.quiet hw (binOp_sound (ev' x (by simp [Op.operands])) (ev' y (by simp [Op.operands])) hu w)
  | unOp op t x =>
    simp only [prim] at h
    obtain ⟨u, hu, he⟩ := Option.map_eq_some_iff.1 h
    cases he
    exact Out.quiet hw (unOp_sound (ev' x (by simp [Op.operands])) hu w)
  | convert s d x =>
    simp only [prim] at h
    obtain ⟨u, hu, he⟩ := Option.map_eq_some_iff.1 h
    cases he
    exact Out.quiet hw (convert_sound (ev' x (by simp [Op.operands])) hu w)
  | makeFunc fn first cap =>
    cases fn with
    | func f =>
      simp only [prim] at h; cases h
      refine ⟨γ, w, .value (.func (.func f) (first.map a.eval) (cap.map a.eval)), by simp [execOp, Instr.makeFunc], .refl hw, .inl ⟨_, rfl, .funcL ?_ ?_⟩⟩
      · exact VA.map_eval ht hw fun x hx => hopd x (by simp [Op.operands, hx])
      · exact VA.map_eval ht hw fun x hx => hopd x (by simp [Op.operands, hx])
    | _ => simp only [prim] at h; cases h
  | makeMap t r =>
    cases r with
    | some r => simp only [prim] at h; cases h
    | none =>
      simp only [prim] at h; cases h
      have hn := hf A.n (Nat.le_refl _) (by simp)
      have hst := Step.push hw (.map [] 0 0) (.map #[] 0) ⟨w.heap.size, 0, 0, 0, false⟩ rfl hn ⟨#[], rfl, rfl, fun i en h => by simp at h⟩ (w' := { w with heap := w.heap.push (.map #[] 0) }) rfl
      refine ⟨_, _, .value (.map (some w.heap.size)), ?_, hst, .inl ⟨_, rfl, VR.map (e := ⟨w.heap.size, 0, 0, 0, false⟩) (addG_self γ A.n _)⟩⟩
      simp [execOp, Instr.makeMap]
  | makeSlice t l c =>
    simp only [prim] at h
    have hn : γ A.n = none := by
      refine hf _ (Nat.le_refl _) ?_
      unfold makeSlice at h
      repeat' (split at h)
      all_goals first | cases h | skip
      simp
    exact Out.val (makeSlice_sound hw hn (ev' l (by simp [Op.operands])) (ev' c (by simp [Op.operands])) h)
  | slice t x lo hi mx =>
    have hlo : ∀ v, lo.map (ev τ) = some v → ∃ v', lo.map a.eval = some v' ∧ VR γ v v' := opt_rel fun y hy => ev' y (by subst hy; simp [Op.operands])
    have hhi : ∀ v, hi.map (ev τ) = some v → ∃ v', hi.map a.eval = some v' ∧ VR γ v v' := opt_rel fun y hy => ev' y (by subst hy; simp [Op.operands])
    cases mx with
    | none =>
      simp only [prim] at h
      obtain ⟨u, hu, he⟩ := Option.map_eq_some_iff.1 h
      cases he
      exact Out.quiet hw (sliceOf_sound (ev' x (by simp [Op.operands])) hlo hhi (by cases lo <;> simp) (by cases hi <;> simp) hu w)
    | some m =>
      simp only [prim] at h
      exact Out.val (slice3_sound hw hf (ev' x (by simp [Op.operands])) hlo hhi (fun v hv => by cases hv; exact ⟨_, rfl, ev' m (by simp [Op.operands])⟩) (by cases lo <;> simp) h)
  | fieldAddr s x f =>
    simp only [prim] at h
    obtain ⟨u, hu, he⟩ := Option.map_eq_some_iff.1 h
    cases he
    exact Out.quiet hw (fieldAddr_sound (ev' x (by simp [Op.operands])) hu w)
  | field t x f =>
    simp only [prim] at h
    obtain ⟨u, hu, he⟩ := Option.map_eq_some_iff.1 h
    cases he
    exact Out.quiet hw (field_sound (ev' x (by simp [Op.operands])) hu w)
  | indexAddr t x i =>
    simp only [prim] at h
    obtain ⟨u, hu, he⟩ := Option.map_eq_some_iff.1 h
    cases he
    exact Out.quiet hw (indexAddr_sound (ev' x (by simp [Op.operands])) (ev' i (by simp [Op.operands])) hu w)
  | index t x i =>
    simp only [prim] at h
    obtain ⟨u, hu, he⟩ := Option.map_eq_some_iff.1 h
    cases he
    exact Out.quiet hw (index_sound (ev' x (by simp [Op.operands])) (ev' i (by simp [Op.operands])) hu w)
  | lookup t x i ok =>
    simp only [prim] at h
    obtain ⟨u, hu, he⟩ := Option.map_eq_some_iff.1 h
    cases he
    exact Out.quiet hw (lookup_sound hw (ev' x (by simp [Op.operands])) (ev' i (by simp [Op.operands])) hu)
  | mapUpdate t m i x =>
    simp only [prim] at h
    obtain ⟨u, hu, he⟩ := Option.map_eq_some_iff.1 h
    cases he
    exact Out.unit (mapUpdate_sound hw (ev' m (by simp [Op.operands])) (ev' i (by simp [Op.operands])) (ev' x (by simp [Op.operands])) hu)
  | mapEntry t m i =>
    simp only [prim] at h
    obtain ⟨w', v', h1, h2, h3⟩ := mapEntry_sound hw (ev' m (by simp [Op.operands])) (ev' i (by simp [Op.operands])) h
    exact Out.val ⟨γ, w', v', h1, h2, h3⟩
  | entryStore t m s x =>
    simp only [prim] at h
    obtain ⟨u, hu, he⟩ := Option.map_eq_some_iff.1 h
    cases he
    exact Out.unit (entryStore_sound hw (ev' m (by simp [Op.operands])) (ev' s (by simp [Op.operands])) (ev' x (by simp [Op.operands])) hu)
  | range t x =>
    simp only [prim] at h
    have hx := ev' x (by simp [Op.operands])
    split at h
    · rename_i s hu hs
      rw [hs] at hx; cases h
      have hn := hf A.n (Nat.le_refl _) (by simp)
      have hst := Step.push hw (.siter s 0 0) (.stringIter s 0) ⟨w.heap.size, 0, 0, 0, false⟩ rfl hn ⟨rfl, rfl⟩ (w' := { w with heap := w.heap.push (.stringIter s 0) }) rfl
      refine ⟨_, _, .value (.pointer (some ⟨w.heap.size, 0, none⟩)), ?_, hst, .inl ⟨_, rfl, new_ptr γ A.n rfl rfl⟩⟩
      simp [execOp, Instr.range, run_underlying' hu, hx.inv_string]
    · cases h
  | next x isS =>
    cases isS with
    | false => simp only [prim] at h; cases h
    | true =>
      simp only [prim] at h
      have hx := ev' x (by simp [Op.operands])
      split at h
      · rename_i k sp hq
        rw [hq] at hx
        obtain ⟨e, hg, hs, hv⟩ := hx.inv_ptr
        split at h
        · rename_i s pos ver hob
          obtain ⟨hh, hsh⟩ := siter_read hw hg hob
          rw [hsh] at hv
          split at h
          · rename_i hp
            cases h
            refine ⟨γ, _, .value _, ?_, siter_write hw hg hob, .inl ⟨_, rfl, .of_flat γ (.tuple #[.bool true, goInt pos, .int .i32 (Utf8.decode s pos).1]) rfl⟩⟩
            simp [execOp, Instr.next, hv, getObj, setObj, Sem.run, hh, hp]
          · rename_i hp
            cases h
            refine ⟨γ, w, .value (.tuple #[.bool false]), ?_, .refl hw, .inl ⟨_, rfl, .of_flat γ _ rfl⟩⟩
            simp [execOp, Instr.next, hv, getObj, Sem.run, hh, hp]
        · cases h
      · cases h
  | extract x i =>
    simp only [prim] at h
    obtain ⟨u, hu, he⟩ := Option.map_eq_some_iff.1 h
    cases he
    have hx := ev' x (by simp [Op.operands])
    split at hu
    · rename_i vs hq
      rw [hq] at hx
      obtain ⟨vs', hv, h1⟩ := hx.inv_tuple
      obtain ⟨u', a1, a2⟩ := h1.get hu
      exact Out.quiet hw ⟨u', by simp [hv, Instr.extract, a1], a2⟩
    · cases hu
  | call c =>
    obtain ⟨callee, args, ats⟩ := c
    cases callee with
    | value f => simp only [prim] at h; cases h
    | invoke r m => simp only [prim] at h; cases h
    | builtin b =>
      have hargs : VA γ (args.map (ev τ)) (args.map a.eval) := VA.map_eval ht hw fun x hx => hopd x (by simp [Op.operands, Call.operands, hx])
      cases b with
      | append =>
        simp only [prim] at h
        have := Out.val (append_sound (ty := type) hw hf hargs h)
        simpa [execOp, resolve, invoke, builtin] using this
      | copy =>
        simp only [prim] at h
        obtain ⟨w', v', h1, h2, h3⟩ := copy_sound (ty := type) hw hargs h
        have := Out.val (s := Builtin.copy_ ats type (args.map a.eval)) ⟨γ, w', v', h1, h2, h3⟩
        simpa [execOp, resolve, invoke, builtin] using this
      | len =>
        simp only [prim] at h
        obtain ⟨u, hu, he⟩ := Option.map_eq_some_iff.1 h
        cases he
        have := Out.quiet hw (len_sound (ty := type) hw hargs hu)
        simpa [execOp, resolve, invoke, builtin] using this
      | cap =>
        simp only [prim] at h
        obtain ⟨u, hu, he⟩ := Option.map_eq_some_iff.1 h
        cases he
        have := Out.quiet hw (cap_sound (ty := type) hw hargs hu)
        simpa [execOp, resolve, invoke, builtin] using this
      | clear =>
        simp only [prim] at h
        obtain ⟨u, hu, he⟩ := Option.map_eq_some_iff.1 h
        cases he
        obtain ⟨w', h1, h2⟩ := clear_sound (ty := type) hw hargs hu
        have := Out.val (s := Builtin.clear_ ats type (args.map a.eval)) ⟨γ, w', .tuple #[], h1, h2, .of_flat γ (.tuple #[]) rfl⟩
        simpa [execOp, resolve, invoke, builtin] using this
      | max =>
        simp only [prim] at h
        split at h
        · rename_i hfl
          obtain ⟨u, hu, he⟩ := Option.map_eq_some_iff.1 h
          cases he
          obtain ⟨h1, h2⟩ := flatly_spec hu
          have := Out.quiet (γ := γ) hw ⟨v, pureRun_run _ _ h1 w, .of_flat γ v h2⟩
          rw [← VA.flat hargs hfl] at this
          simpa [execOp, resolve, invoke, builtin] using this
        · cases h
      | min =>
        simp only [prim] at h
        split at h
        · rename_i hfl
          obtain ⟨u, hu, he⟩ := Option.map_eq_some_iff.1 h
          cases he
          obtain ⟨h1, h2⟩ := flatly_spec hu
          have := Out.quiet (γ := γ) hw ⟨v, pureRun_run _ _ h1 w, .of_flat γ v h2⟩
          rw [← VA.flat hargs hfl] at this
          simpa [execOp, resolve, invoke, builtin] using this
        · cases h
      | _ => simp only [prim] at h; cases h
  | _ => simp only [prim] at h; cases h
end Go.AM
