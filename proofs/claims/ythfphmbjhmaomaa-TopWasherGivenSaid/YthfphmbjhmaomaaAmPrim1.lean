/-
  AM: what an operation gives in the canonical heap stands for what the model's operation gives in the real one. First part: reads, writes, places, parts.
-/
import Derived.Test.YthfphmbjhmaomaaAmCan
namespace Go.AM
variable {P : Program} {γ γ' : Gam} {A A' : CW} {w w' : World}

theorem run_underlying' {t : TypeId} {d : TypeDesc} (h : P.underlying t = some d) (w : World) : (underlying t).run P w = .ok d w := by simp [underlying, h]
theorem run_typeInfo' {t : TypeId} {i : TypeInfo} (h : P.info? t = some i) (w : World) : (typeInfo t).run P w = .ok i w := by
  simp only [typeInfo, Sem.run_bind, run_program, Result.andThen_ok, h, Sem.run_pure]
theorem run_sizeOf' {t : TypeId} {s : Nat} (h : szOf P t = some s) (w : World) : (Go.sizeOf t).run P w = .ok s w := by
  unfold szOf at h
  cases hi : P.info? t with
  | none => simp [hi] at h
  | some i => simp [hi] at h; simp [Go.sizeOf, run_typeInfo' hi, h]
theorem run_isAgg' {t : TypeId} {b : Bool} (h : aggB P t = some b) (w : World) : (isAgg t).run P w = .ok b w := by
  unfold aggB at h
  unfold isAgg
  cases hu : P.underlying t with
  | none => simp [hu] at h
  | some d => cases d <;> simp [hu] at h <;> simp [run_underlying' hu, h]
theorem zeroOf_spec {t : TypeId} {z : Value} (h : zeroOf P t = some z) : (∃ i, P.info? t = some i ∧ i.zero = some z) ∧ flatB z = true ∧ z.cells.toList.all oneB = true := by
  unfold zeroOf at h
  cases hi : P.info? t with
  | none => simp [hi] at h
  | some i =>
    simp only [hi] at h
    cases hz : i.zero with
    | none => simp [hz] at h
    | some y =>
      simp only [hz] at h
      split at h
      · rename_i hc
        simp only [Bool.and_eq_true] at hc
        cases h
        exact ⟨⟨i, rfl, hz⟩, hc⟩
      · cases h
theorem run_zero' {t : TypeId} {z : Value} (h : zeroOf P t = some z) (w : World) : (zeroValue t).run P w = .ok z w := by
  obtain ⟨⟨i, hi, hz⟩, _⟩ := zeroOf_spec h
  simp [zeroValue, run_typeInfo' hi, hz]
theorem run_bytes' {t : TypeId} {n : Nat} (h : bytesOf P t = some n) : ∃ i, P.info? t = some i ∧ i.bytes = n := by
  unfold bytesOf at h
  cases hi : P.info? t with
  | none => simp [hi] at h
  | some i => simp [hi] at h; exact ⟨i, rfl, h⟩

theorem ev_rel {τ : T Value} {nt : Nat} {a : Act} (ht : TR γ τ nt a.tmps) (hw : WRel P γ A w) {x : Operand} (hx : okOperand P.globals.size x = true) : VR γ (ev τ x) (a.eval x) := by
  cases x with
  | tmp t => exact ht.2 t
  | const v => exact .of_flat γ v hx
  | global g =>
    simp [okOperand] at hx
    obtain ⟨e, h1, h2, h3, h4⟩ := hw.glob g hx
    have := VR.ptr (o := 0) (sp := none) h1 (fun hl => by rw [h4] at hl; cases hl)
    rw [h2, h3] at this
    exact this
  | func f => exact .func rfl rfl (fun i hi => by simp at hi) (fun i hi => by simp at hi)

theorem VR.inv_ptr {k o : Nat} {s : Option Nat} {v : Value} (h : VR γ (.pointer (some ⟨k, o, s⟩)) v) : ∃ e, γ k = some e ∧ (e.loose = true → s ≠ none) ∧ v = .pointer (some ⟨e.b, e.sh + o, none⟩) := by
  cases h with | ptr h hs => exact ⟨_, h, hs, rfl⟩
theorem VR.inv_slice {k o len cap : Nat} {s : Option Nat} {v : Value} (h : VR γ (.slice (some ⟨k, o, s⟩) len cap) v) :
    ∃ e o' cap', γ k = some e ∧ v = .slice (some ⟨e.b, o', none⟩) len cap' ∧ len ≤ cap ∧ cap ≤ cap' ∧ (o' = e.sh + o ∨ cap' = 0) ∧ (e.loose = false → cap' = cap) ∧ (e.loose = true → o' + cap' * e.es ≤ e.lim ∧ s = some e.es) := by
  cases h with | slice h h1 h2 h3 h4 h5 => exact ⟨_, _, _, h, rfl, h1, h2, h3, h4, h5⟩
theorem VR.inv_snil {len cap : Nat} {v : Value} (h : VR γ (.slice none len cap) v) : len = 0 ∧ cap = 0 ∧ v = .slice none 0 0 := by
  cases h; exact ⟨rfl, rfl, rfl⟩
theorem VR.inv_int {k : IntKind} {n : Int} {v : Value} (h : VR γ (.int k n) v) : v = .int k n := by cases h; rfl
theorem VR.inv_string {s : ByteArray} {v : Value} (h : VR γ (.string s) v) : v = .string s := by cases h; rfl
theorem VR.inv_bool {b : Bool} {v : Value} (h : VR γ (.bool b) v) : v = .bool b := by cases h; rfl

theorem loadAt_sound (hw : WRel P γ A w) {t : TypeId} {a a' v : Value} (ha : VR γ a a') (h : loadAt P A t a = some v) :
    ∃ v', (Instr.loadAt t a').run P w = .ok v' w ∧ VR γ v v' := by
  unfold loadAt at h
  split at h
  · rename_i k off s
    obtain ⟨e, hg, hsp, rfl⟩ := ha.inv_ptr
    split at h
    · rename_i hagg
      split at h
      · rename_i sz hs
        split at h
        · rename_i cs hc
          cases h
          obtain ⟨l', h1, h2, h3⟩ := cells_read hw hg hc
          refine ⟨.agg l'.toArray, ?_, .aggL (by simpa using h1)⟩
          have hl := run_loadCells_list (P := P) w ⟨e.b, e.sh + off, none⟩ l' (fun j v hv => by rw [addr_add]; exact h3 j v hv)
          rw [← h1.1, h2] at hl
          simp [Instr.loadAt, Instr.sureAddr, loadVar, run_isAgg' hagg, run_sizeOf' hs, hl]
        · cases h
      · cases h
    · rename_i hagg
      obtain ⟨v', h1, h2⟩ := cell_read hw hg h
      refine ⟨v', ?_, h1⟩
      simp [Instr.loadAt, Instr.sureAddr, loadVar, run_isAgg' hagg, h2]
    · cases h
  · cases h

theorem storeAt_sound (hw : WRel P γ A w) {t : TypeId} {a a' v v' : Value} (ha : VR γ a a') (hv : VR γ v v') (h : storeAt P A t a v = some A') :
    ∃ w', (Instr.storeAt t a' v').run P w = .ok () w' ∧ Step P γ A w γ A' w' := by
  unfold storeAt at h
  split at h
  · rename_i k off s
    obtain ⟨e, hg, hsp, rfl⟩ := ha.inv_ptr
    split at h
    · rename_i hs
      obtain ⟨w', h1, h2⟩ := cells_write hw hg h hv.cells
      refine ⟨w', ?_, h2⟩
      simp [Instr.storeAt, Instr.sureAddr, storeVar, run_sizeOf' hs.symm, hv.cells_size, h1]
    · cases h
  · cases h

theorem fieldAddr_sound {s : TypeId} {a a' v : Value} {f : Nat} (ha : VR γ a a') (h : fieldAddr P s a f = some v) (w : World) :
    ∃ v', (Instr.fieldAt s a' f).run P w = .ok v' w ∧ VR γ v v' := by
  unfold fieldAddr at h
  split at h
  · rename_i fields k off sp hu
    obtain ⟨e, hg, hsp, rfl⟩ := ha.inv_ptr
    split at h
    · rename_i fd hf
      split at h
      · rename_i n hs
        cases h
        refine ⟨.pointer (some ⟨e.b, e.sh + (off + fd.offset), none⟩), ?_, .ptr hg hsp⟩
        simp [Instr.fieldAt, run_underlying' hu, hf, Instr.sureAddr, fieldPlace, run_sizeOf' hs, addr_add, Nat.add_assoc]
      · cases h
    · cases h
  · cases h

theorem part_sound {t : TypeId} {cs cs' : Array Value} {off : Nat} {v : Value} (hc : VA γ cs cs') (h : part P t cs off = some v) (w : World) :
    ∃ v', (Go.part t cs' off).run P w = .ok v' w ∧ VR γ v v' := by
  unfold part at h
  split at h
  · rename_i hagg
    split at h
    · rename_i s hs
      cases h
      refine ⟨.agg (cs'.extract off (off + s)), by simp [Go.part, run_isAgg' hagg, run_sizeOf' hs], .aggL ?_⟩
      unfold VA
      have := (hc.drop off).take s
      simpa [Array.toList_extract] using this
    · cases h
  · rename_i hagg
    have : cs.toList[off]? = some v := by simpa using h
    obtain ⟨v', h1, h2⟩ := hc.get this
    simp at h1
    exact ⟨v', by simp [Go.part, run_isAgg' hagg, h1], h2⟩
  · cases h

theorem field_sound {t : TypeId} {x x' v : Value} {f : Nat} (hx : VR γ x x') (h : field P t x f = some v) (w : World) :
    ∃ v', (Instr.field t x' f).run P w = .ok v' w ∧ VR γ v v' := by
  unfold field at h
  split at h
  · rename_i fields cs hu
    obtain ⟨cs', rfl, hc⟩ := hx.inv_agg
    split at h
    · rename_i fd hf
      obtain ⟨v', h1, h2⟩ := part_sound hc h w
      exact ⟨v', by simp [Instr.field, run_underlying' hu, hf, asAgg, h1], h2⟩
    · cases h
  · cases h

theorem indexAddr_sound {t : TypeId} {x x' i i' v : Value} (hx : VR γ x x') (hi : VR γ i i') (h : indexAddr P t x i = some v) (w : World) :
    ∃ v', (Instr.indexAt t x' i').run P w = .ok v' w ∧ VR γ v v' := by
  unfold indexAddr at h
  split at h
  · rename_i len e k off sp kd n hu
    obtain ⟨em, hg, hsp, rfl⟩ := hx.inv_ptr
    cases hi.inv_int
    split at h
    · rename_i s hs
      split at h
      · rename_i hb
        cases h
        refine ⟨.pointer (some ⟨em.b, em.sh + (off + n.toNat * (s + 1)), none⟩), ?_, .ptr hg hsp⟩
        simp [Instr.indexAt, asIntOf, run_underlying' hu, Instr.sureAddr, hb, run_sizeOf' hs, addr_add, Nat.add_assoc]
      · cases h
    · cases h
  · rename_i e k off sp len cap kd n hu
    obtain ⟨em, o', cap', hg, rfl, h1, h2, h3, _, h5⟩ := hx.inv_slice
    cases hi.inv_int
    split at h
    · rename_i s hs
      split at h
      · rename_i hb
        cases h
        have ho : o' = em.sh + off := by
          rcases h3 with h3 | h3
          · exact h3
          · omega
        subst ho
        refine ⟨.pointer (some ⟨em.b, em.sh + (off + n.toNat * (s + 1)), none⟩), ?_, .ptr hg (fun hx => by rw [(h5 hx).2]; simp)⟩
        simp [Instr.indexAt, asIntOf, run_underlying' hu, hb, run_sizeOf' hs, addr_add, Nat.add_assoc]
      · cases h
    · cases h
  · cases h

theorem index_sound {t : TypeId} {x x' i i' v : Value} (hx : VR γ x x') (hi : VR γ i i') (h : index P t x i = some v) (w : World) :
    ∃ v', (Instr.index t x' i').run P w = .ok v' w ∧ VR γ v v' := by
  unfold index at h
  split at h
  · rename_i len e cs kd n hu
    obtain ⟨cs', rfl, hc⟩ := hx.inv_agg
    cases hi.inv_int
    split at h
    · rename_i s hs
      split at h
      · rename_i hb
        obtain ⟨v', h1, h2⟩ := part_sound hc h w
        exact ⟨v', by simp [Instr.index, asIntOf, run_underlying' hu, hb, run_sizeOf' hs, h1], h2⟩
      · cases h
    · cases h
  · rename_i s kd n hu
    cases hx.inv_string
    cases hi.inv_int
    split at h
    · rename_i hn
      cases hb : s[n.toNat]? with
      | none => simp [hb] at h
      | some b =>
        simp [hb] at h
        subst h
        exact ⟨_, by simp [Instr.index, asIntOf, run_underlying' hu, hn, hb], .int ..⟩
    · cases h
  · cases h

theorem bnd_sound {v v' : Option Value} {d top top' m : Nat} (hv : ∀ x, v = some x → ∃ x', v' = some x' ∧ VR γ x x') (h : bnd v d top = some m) (ht : top ≤ top') :
    (v = none ∧ m = d) ∨ ∃ k n, v = some (.int k n) ∧ v' = some (.int k n) ∧ 0 ≤ n ∧ n ≤ top ∧ m = n.toNat ∧ n ≤ (top' : Int) := by
  unfold bnd at h
  split at h
  · cases h; exact .inl ⟨rfl, rfl⟩
  · rename_i k n
    split at h
    · rename_i hb
      cases h
      obtain ⟨x', h1, h2⟩ := hv _ rfl
      cases h2.inv_int
      exact .inr ⟨k, n, rfl, h1, hb.1, hb.2, rfl, by omega⟩
    · cases h
  · cases h

theorem sliceBound_ok {k : IntKind} {n : Int} {y : Nat} {c : BoundsCode} (h0 : 0 ≤ n) (h1 : n ≤ y) (w : World) : (Instr.sliceBound (.int k n) y c).run P w = .ok n.toNat w := by
  simp [Instr.sliceBound, asIntOf, h0, h1]

theorem bounds_sound {lo lo' hi hi' : Option Value} {len cap cap' h l : Nat} {b : Bool} (hlo : ∀ x, lo = some x → ∃ x', lo' = some x' ∧ VR γ x x') (hhi : ∀ x, hi = some x → ∃ x', hi' = some x' ∧ VR γ x x')
    (hn1 : lo = none → lo' = none) (hn2 : hi = none → hi' = none)
    (h1 : bnd hi len cap = some h) (h2 : bnd lo 0 h = some l) (hc : cap ≤ cap') (w : World) : (Instr.sliceBounds b len cap' lo' hi' none).run P w = .ok (l, h, cap') w ∧ l ≤ h ∧ (h ≤ cap ∨ hi = none ∧ h = len) := by
  rcases bnd_sound hhi h1 hc with ⟨rfl, rfl⟩ | ⟨k, n, rfl, rfl, ha, hb, rfl, hb'⟩
  · rcases bnd_sound hlo h2 (Nat.le_refl _) with ⟨rfl, rfl⟩ | ⟨k, n, rfl, rfl, ha, hb, rfl, hb'⟩
    · cases hn1 rfl; cases hn2 rfl
      exact ⟨by simp [Instr.sliceBounds], Nat.zero_le _, .inr ⟨rfl, rfl⟩⟩
    · cases hn2 rfl
      exact ⟨by simp [Instr.sliceBounds, sliceBound_ok ha hb'], by omega, .inr ⟨rfl, rfl⟩⟩
  · rcases bnd_sound hlo h2 (Nat.le_refl _) with ⟨rfl, rfl⟩ | ⟨k', n', rfl, rfl, ha', hb2, rfl, hb2'⟩
    · cases hn1 rfl
      exact ⟨by simp [Instr.sliceBounds, sliceBound_ok ha hb'], Nat.zero_le _, .inl (by omega)⟩
    · exact ⟨by simp [Instr.sliceBounds, sliceBound_ok ha hb', sliceBound_ok ha' hb2'], by omega, .inl (by omega)⟩

theorem opt_rel {ρ ρ' : Operand → Value} {x : Option Operand} (h : ∀ y, x = some y → VR γ (ρ y) (ρ' y)) : ∀ v, x.map ρ = some v → ∃ v', x.map ρ' = some v' ∧ VR γ v v' := by
  intro v hv
  cases x with
  | none => cases hv
  | some y => simp at hv; subst hv; exact ⟨_, rfl, h y rfl⟩

theorem sliceOf_sound {t : TypeId} {x x' v : Value} {lo hi lo' hi' : Option Value} (hx : VR γ x x') (hlo : ∀ x, lo = some x → ∃ x', lo' = some x' ∧ VR γ x x') (hhi : ∀ x, hi = some x → ∃ x', hi' = some x' ∧ VR γ x x')
    (hn1 : lo = none → lo' = none) (hn2 : hi = none → hi' = none) (h : sliceOf P t x lo hi = some v) (w : World) : ∃ v', (Instr.sliceAt t x' lo' hi' none).run P w = .ok v' w ∧ VR γ v v' := by
  unfold sliceOf at h
  split at h
  · rename_i s hu
    cases hx.inv_string
    split at h
    · rename_i hh h1
      split at h
      · rename_i l h2
        cases h
        obtain ⟨hr, _⟩ := bounds_sound (P := P) (b := false) hlo hhi hn1 hn2 h1 h2 (Nat.le_refl _) w
        exact ⟨_, by simp [Instr.sliceAt, Instr.slice, run_underlying' hu, hr], .string _⟩
      · cases h
    · cases h
  · rename_i e a len cap hu
    split at h
    · rename_i s hs
      split at h
      · rename_i hh h1
        split at h
        · rename_i l h2
          split at h
          · rename_i hspot
            cases h
            cases a with
            | none =>
              obtain ⟨rfl, rfl, rfl⟩ := hx.inv_snil
              obtain ⟨hr, hle, hle2⟩ := bounds_sound (P := P) (b := true) hlo hhi hn1 hn2 h1 h2 (Nat.le_refl _) w
              have : hh = 0 := by rcases hle2 with h | ⟨_, h⟩ <;> omega
              subst this
              have : l = 0 := by omega
              subst this
              exact ⟨.slice none 0 0, by simp [Instr.sliceAt, Instr.slice, run_underlying' hu, hr, run_sizeOf' hs], .snil⟩
            | some q =>
              obtain ⟨k, o, sp⟩ := q
              obtain ⟨em, o', cap', hg, rfl, a1, a2, a3, a4, a5⟩ := hx.inv_slice
              obtain ⟨hr, hle, hle2⟩ := bounds_sound (P := P) (b := true) hlo hhi hn1 hn2 h1 h2 a2 w
              have hcap : hh ≤ cap := by rcases hle2 with h | ⟨_, h⟩ <;> omega
              refine ⟨.slice (some (if cap' = l then ⟨em.b, o', none⟩ else ⟨em.b, o' + l * s, none⟩)) (hh - l) (cap' - l), ?_, ?_⟩
              · simp [Instr.sliceAt, Instr.slice, run_underlying' hu, hr, run_sizeOf' hs, addr_add]
                split <;> rfl
              · simp only [Option.map_some]
                by_cases hcl : cap' = l
                · rw [if_pos hcl]
                  refine .slice hg (by omega) (by omega) (.inr (by omega)) (fun hx => by have := a4 hx; omega) (fun hx => ?_)
                  have := a5 hx
                  have e0 : cap' - l = 0 := by omega
                  rw [e0]; exact ⟨by omega, this.2⟩
                · rw [if_neg hcl]
                  refine .slice hg (by omega) (by omega) ?_ (fun hx => by have := a4 hx; omega) (fun hx => ?_)
                  · rcases a3 with a3 | a3
                    · exact .inl (by omega)
                    · exact .inr (by omega)
                  · obtain ⟨b1, rfl⟩ := a5 hx
                    simp [spotOk] at hspot
                    subst hspot
                    refine ⟨?_, rfl⟩
                    have : l * em.es + (cap' - l) * em.es = cap' * em.es := by rw [← Nat.add_mul]; congr 1; omega
                    omega
          · cases h
        · cases h
      · cases h
    · cases h
  · rename_i n e k off hu
    obtain ⟨em, hg, hsp, rfl⟩ := hx.inv_ptr
    have hnl : em.loose = false := by
      cases hl : em.loose with
      | false => rfl
      | true => exact absurd rfl (hsp hl)
    split at h
    · rename_i s hs
      split at h
      · rename_i hh h1
        split at h
        · rename_i l h2
          cases h
          obtain ⟨hr, hle, hle2⟩ := bounds_sound (P := P) (b := false) hlo hhi hn1 hn2 h1 h2 (Nat.le_refl _) w
          have hcap : hh ≤ n := by rcases hle2 with h | ⟨_, h⟩ <;> omega
          refine ⟨.slice (some (if n = l then ⟨em.b, em.sh + off, none⟩ else ⟨em.b, em.sh + off + l * s, none⟩)) (hh - l) (n - l), ?_, ?_⟩
          · simp [Instr.sliceAt, run_underlying' hu, Instr.sureAddr, hr, run_sizeOf' hs, addr_add]
          · by_cases hcl : n = l
            · rw [if_pos hcl]
              exact .slice hg (by omega) (Nat.le_refl _) (.inr (by omega)) (fun _ => rfl) (fun hx => by rw [hnl] at hx; cases hx)
            · rw [if_neg hcl]
              exact .slice hg (by omega) (Nat.le_refl _) (.inl (by omega)) (fun _ => rfl) (fun hx => by rw [hnl] at hx; cases hx)
        · cases h
      · cases h
    · cases h
  · cases h
end Go.AM

/-
  AM: what an operation gives in the canonical heap stands for what the model's operation gives in the real one. Second part: values that are made, rows that grow.
-/
namespace Go.AM
variable {P : Program} {γ γ' : Gam} {A A' : CW} {w w' : World}

theorem foldl_set (off : Nat) : ∀ (l : List Value) (n : Nat) (a : Array Value), off + n + l.length ≤ a.size →
    ((l.zipIdx n).foldl (fun (a : Array Value) x => a.setIfInBounds (off + x.2) x.1) a).size = a.size ∧
    ∀ i, ((l.zipIdx n).foldl (fun (a : Array Value) x => a.setIfInBounds (off + x.2) x.1) a)[i]? = if off + n ≤ i ∧ i < off + n + l.length then l[i - (off + n)]? else a[i]?
  | [], n, a, _ => ⟨rfl, fun i => by rw [if_neg (by simp)]; rfl⟩
  | v :: r, n, a, h => by
    simp at h
    obtain ⟨h1, h2⟩ := foldl_set off r (n + 1) (a.setIfInBounds (off + n) v) (by simp; omega)
    simp only [List.zipIdx_cons, List.foldl_cons]
    refine ⟨by rw [h1]; simp, fun i => ?_⟩
    rw [h2 i]
    by_cases hi : off + (n + 1) ≤ i ∧ i < off + (n + 1) + r.length
    · rw [if_pos hi, if_pos (by simp; omega), show i - (off + n) = (i - (off + (n + 1))) + 1 by omega]; simp
    · rw [if_neg hi]
      by_cases hio : i = off + n
      · subst hio
        rw [if_pos (by simp)]
        have : off + n < a.size := by omega
        simp [this]
      · rw [if_neg (by simp; omega), Array.getElem?_setIfInBounds, if_neg (by omega)]

theorem fold_splice {cells cs : Array Value} {off : Nat} (h : off + cs.size ≤ cells.size) :
    (cs.zipIdx.foldl (fun (a : Array Value) (x : Value × Nat) => a.setIfInBounds (off + x.2) x.1) cells).toList = splice cells.toList off cs.toList := by
  rw [← Array.foldl_toList, Array.toList_zipIdx]
  obtain ⟨h1, h2⟩ := foldl_set off cs.toList 0 cells (by simpa using h)
  refine List.ext_getElem? fun i => ?_
  rw [splice_get (by simpa using h)]
  have := h2 i
  simp only [Array.getElem?_toList] at this ⊢
  rw [this]; simp

def PR (γ : Gam) : List (Nat × Value) → List (Nat × Value) → Prop
  | [], [] => True
  | (i, v) :: r, (j, v') :: r' => i = j ∧ VR γ v v' ∧ PR γ r r'
  | _, _ => False
theorem PR.map {α : Type} (l : List (Nat × α)) (f g : α → Value) (h : ∀ x ∈ l, VR γ (f x.2) (g x.2)) : PR γ (l.map fun x => (x.1, f x.2)) (l.map fun x => (x.1, g x.2)) := by
  induction l with
  | nil => trivial
  | cons x l ih => exact ⟨rfl, h x (by simp), ih fun y hy => h y (by simp [hy])⟩

theorem VL.splice {vs vs' cs cs' : List Value} {off : Nat} (h : VL γ vs vs') (h' : VL γ cs cs') : VL γ (splice vs off cs) (splice vs' off cs') := by
  unfold AM.splice
  rw [h'.1]
  exact ((h.take off).append h').append (h.drop _)

theorem fill_sound (place : Nat → Option (Nat × Nat)) : ∀ (parts parts' : List (Nat × Value)) (cells : List Value) (cells' : Array Value) (r : List Value), PR γ parts parts' → VL γ cells cells'.toList →
    fillAt place cells parts = some r → ∃ r', Instr.fill place cells' parts' = some r' ∧ VL γ r r'.toList
  | [], [], cells, cells', r, _, hc, h => by simp [fillAt] at h; subst h; exact ⟨cells', rfl, hc⟩
  | (i, v) :: rest, (j, v') :: rest', cells, cells', r, hp, hc, h => by
    obtain ⟨rfl, hv, hr⟩ := hp
    simp only [fillAt] at h
    simp only [Instr.fill]
    cases hpl : place i with
    | none => simp [hpl] at h
    | some q =>
      obtain ⟨off, size⟩ := q
      simp only [hpl] at h ⊢
      split at h
      · rename_i hcond
        obtain ⟨h1, h2⟩ := hcond
        have hlen := hc.1
        have hvs := hv.cells_size
        simp at h1 h2 hlen
        rw [if_neg (by simp; omega)]
        refine fill_sound place rest rest' _ _ r hr ?_ h
        rw [fold_splice (by omega)]
        exact hc.splice hv.cells
      · cases h
  | [], _ :: _, _, _, _, hp, _, _ => hp.elim
  | _ :: _, [], _, _, _, hp, _, _ => hp.elim

theorem run_list_mapM {α β : Type} (f : α → Sem β) (g : α → β) (w : World) : ∀ (l : List α), (∀ x ∈ l, (f x).run P w = .ok (g x) w) → (l.mapM f).run P w = .ok (l.map g) w
  | [], _ => rfl
  | x :: r, h => by
    simp only [List.mapM_cons, Sem.run_bind, h x (by simp), Result.andThen_ok, run_list_mapM f g w r fun y hy => h y (by simp [hy]), Sem.run_pure, List.map_cons]
theorem run_array_mapM {α β : Type} (f : α → Sem β) (g : α → β) (w : World) (a : Array α) (h : ∀ x ∈ a.toList, (f x).run P w = .ok (g x) w) : (a.mapM f).run P w = .ok (a.map g) w := by
  have e : a.mapM f = List.toArray <$> a.toList.mapM f := Array.mapM_eq_mapM_toList ..
  have e2 : (List.map g a.toList).toArray = a.map g := by apply Array.ext'; simp
  rw [e, Sem.run_map, run_list_mapM f g w a.toList h, Result.andThen_ok, e2]

theorem build_sound {t : TypeId} {parts : List (Nat × Value)} {parts' : Array (Nat × Value)} {v : Value} (hp : PR γ parts parts'.toList) (h : build P t parts = some v) (w : World) :
    ∃ v', (Instr.build t parts').run P w = .ok v' w ∧ VR γ v v' := by
  unfold build at h
  split at h
  · cases h
  · rename_i z hz
    have hzf := (zeroOf_spec hz).2.1
    have hzc : VL γ z.cells.toList z.cells.toList := (VR.of_flat γ z hzf).cells
    split at h
    · rename_i fields hu
      split at h
      · rename_i hall
        obtain ⟨l, hf, rfl⟩ := Option.map_eq_some_iff.1 h
        · have hm : ∀ w, (fields.mapM (fun (f : Field) => Prod.mk f.offset <$> Go.sizeOf f.type)).run P w = .ok (fields.map fun (f : Field) => (f.offset, (szOf P f.type).getD 0)) w := fun w => by
            refine run_array_mapM _ _ w fields fun f hf => ?_
            rw [Array.all_eq_true'] at hall
            have := hall f (by simpa using hf)
            obtain ⟨s, hs⟩ := Option.isSome_iff_exists.1 this
            simp [run_sizeOf' hs, hs]
          have hpl : placeOf P fields = fun (i : Nat) => Option.map (fun (f : Field) => (f.offset, (szOf P f.type).getD 0)) fields[i]? := by
            funext i
            unfold placeOf
            cases hfi : fields[i]? with
            | none => rfl
            | some f =>
              rw [Array.all_eq_true'] at hall
              have := hall f (Array.mem_of_getElem? hfi)
              obtain ⟨s, hs⟩ := Option.isSome_iff_exists.1 this
              simp [hs]
          rw [hpl] at hf
          obtain ⟨r', h1, h2⟩ := fill_sound _ parts parts'.toList _ z.cells l hp hzc hf
          refine ⟨.agg r', ?_, .aggL (by simpa using h2)⟩
          simp [Instr.build, run_zero' hz, run_underlying' hu, hm, h1]
      · cases h
    · rename_i len e hu
      split at h
      · rename_i s hs
        obtain ⟨l, hf, rfl⟩ := Option.map_eq_some_iff.1 h
        · obtain ⟨r', h1, h2⟩ := fill_sound _ parts parts'.toList _ z.cells l hp hzc hf
          refine ⟨.agg r', ?_, .aggL (by simpa using h2)⟩
          simp [Instr.build, run_zero' hz, run_underlying' hu, run_sizeOf' hs, h1]
      · cases h
    · cases h
end Go.AM

/-
  AM: what an operation gives in the canonical heap stands for what the model's operation gives in the real one. Third part: new rows.
-/
namespace Go.AM
variable {P : Program} {γ γ' : Gam} {A A' : CW} {w w' : World}

theorem rep_length (l : List Value) : ∀ n, (rep l n).length = n * l.length
  | 0 => by simp [rep]
  | n + 1 => by simp [rep, rep_length l n, Nat.add_mul]; omega
theorem rep_get (l : List Value) : ∀ (n i : Nat), (rep l n)[i]? = if i < n * l.length then l[i % l.length]? else none
  | 0, i => by simp [rep]
  | n + 1, i => by
    simp only [rep]
    have e : (n + 1) * l.length = n * l.length + l.length := Nat.succ_mul _ _
    by_cases hi : i < l.length
    · rw [List.getElem?_append_left hi, if_pos (by omega), Nat.mod_eq_of_lt hi]
    · rw [List.getElem?_append_right (by omega), rep_get l n]
      have : (i - l.length) % l.length = i % l.length := (Nat.mod_eq_sub_mod (by omega)).symm
      rw [this]
      by_cases h2 : i - l.length < n * l.length
      · rw [if_pos h2, if_pos (by omega)]
      · rw [if_neg h2, if_neg (by omega)]
theorem range_rep (z : Array Value) (n : Nat) : ((Array.range (n * z.size)).map fun i => z[i % z.size]!) = (rep z.toList n).toArray := by
  apply Array.ext'
  refine List.ext_getElem? fun i => ?_
  rw [rep_get]
  simp only [Array.toList_map, Array.toList_range, List.getElem?_map, Array.length_toList]
  by_cases hi : i < n * z.size
  · rw [if_pos hi, List.getElem?_range hi]
    have hz : z.size ≠ 0 := fun h => by rw [h] at hi; simp at hi
    have := Nat.mod_lt i (Nat.pos_of_ne_zero hz)
    simp [this]
  · rw [if_neg hi, List.getElem?_eq_none (by simpa using hi)]; rfl
theorem rep_mem {l : List Value} {n : Nat} {v : Value} (h : v ∈ rep l n) : v ∈ l := by
  induction n with
  | zero => simp [rep] at h
  | succ n ih => simp [rep] at h; rcases h with h | h; exact h; exact ih h
theorem VL.rep {l l' : List Value} (h : VL γ l l') (n : Nat) : VL γ (rep l n) (rep l' n) := by
  induction n with
  | zero => exact .nil
  | succ n ih => exact h.append ih
theorem VL.oneB {l l' : List Value} (h : VL γ l l') (ho : l.all oneB = true) : ∀ v ∈ l', v.oneCell' = true := by
  intro v hv
  obtain ⟨i, hi⟩ := List.mem_iff_getElem?.1 hv
  have hi' : i < l.length := by have := (List.getElem?_eq_some_iff.1 hi).1; have := h.1; omega
  obtain ⟨u, hu1, hu2⟩ := h.2 i l[i] (by simp [hi'])
  rw [hi] at hu1
  cases hu1
  have h3 := hu2.oneB
  have h6 : AM.oneB l[i] = true := by rw [List.all_eq_true] at ho; exact ho _ (by simp)
  rw [h6] at h3
  cases v <;> simp_all [AM.oneB, Value.oneCell']

/-- A new row. -/
theorem new_cells (hw : WRel P γ A w) (hf : γ A.n = none) {l l' : List Value} (hl : VL γ l l') (t t' : TypeId) (hh : w'.heap = w.heap.push (.cells l'.toArray t' (0, 0))) (hq : Quiet w w' := by exact ⟨rfl, rfl⟩) :
    Step P γ A w (addG γ A.n ⟨w.heap.size, 0, l.length, 0, false⟩) (A.push (.cells l t false false 0)) w' := by
  refine Step.push hw _ _ _ rfl hf ?_ hh hq
  refine ⟨rfl, fun h => by simp at h, .inr ⟨_, _, _, rfl, ?_, ?_, ?_, fun _ i _ _ => ?_⟩⟩
  · have := hl.1; simp; omega
  · simp
  · have e : (l'.toArray.toList.drop 0).take l.length = l' := by simp [hl.1]
    simp only
    rw [e]
    exact hl.mono (addG_ext hf)
  · simp

theorem new_ptr (γ : Gam) (n : Nat) {e : Emb} (hl : e.loose = false) (hs : e.sh = 0) : VR (addG γ n e) (.pointer (some ⟨n, 0, none⟩)) (.pointer (some ⟨e.b, 0, none⟩)) := by
  have := VR.ptr (γ := addG γ n e) (k := n) (o := 0) (sp := none) (e := e) (by simp) (fun h => by rw [hl] at h; cases h)
  rw [hs] at this; exact this
theorem new_slice (γ : Gam) (n : Nat) {e : Emb} {len cap : Nat} (hle : len ≤ cap) (hl : e.loose = false) (hs : e.sh = 0) : VR (addG γ n e) (.slice (some ⟨n, 0, none⟩) len cap) (.slice (some ⟨e.b, 0, none⟩) len cap) :=
  .slice (by simp) hle (Nat.le_refl _) (.inl (by rw [hs])) (fun _ => rfl) (fun h => by rw [hl] at h; cases h)

theorem alloc_sound (hw : WRel P γ A w) (hf : γ A.n = none) {t : TypeId} {z : Value} (hz : zeroOf P t = some z) :
    ∃ γ' w' v', (Instr.alloc t true (.tuple #[])).run P w = .ok v' w' ∧ Step P γ A w γ' (newCells A z.cells.toList t false).2 w' ∧ VR γ' (newCells A z.cells.toList t false).1 v' := by
  have hzf := (zeroOf_spec hz).2.1
  have hc : VL γ z.cells.toList z.cells.toList := (VR.of_flat γ z hzf).cells
  refine ⟨_, _, .pointer (some ⟨w.heap.size, 0, none⟩), ?_, new_cells hw hf hc t t (w' := { w with heap := w.heap.push (.cells z.cells t) }) (by simp), new_ptr γ A.n rfl rfl⟩
  simp [Instr.alloc, run_zero' hz, newVar, newRow]

theorem box_sound (hw : WRel P γ A w) (hf : γ A.n = none) {t : TypeId} {x x' : Value} (hx : VR γ x x') :
    ∃ γ' w' v', (Instr.box t x').run P w = .ok v' w' ∧ Step P γ A w γ' (newCells A x.cells.toList t false).2 w' ∧ VR γ' (newCells A x.cells.toList t false).1 v' := by
  refine ⟨_, _, .pointer (some ⟨w.heap.size, 0, none⟩), ?_, new_cells hw hf hx.cells t t (w' := { w with heap := w.heap.push (.cells x'.cells t) }) (by simp), new_ptr γ A.n rfl rfl⟩
  simp [Instr.box, newVar, newRow]

theorem buildSlice_sound (hw : WRel P γ A w) (hf : γ A.n = none) {t : TypeId} {len : Nat} {parts : List (Nat × Value)} {parts' : Array (Nat × Value)} {v : Value}
    (hp : PR γ parts parts'.toList) (h : buildSlice P A t len parts = some (v, A')) :
    ∃ γ' w' v', (Instr.buildSlice t len parts').run P w = .ok v' w' ∧ Step P γ A w γ' A' w' ∧ VR γ' v v' := by
  unfold buildSlice at h
  split at h
  · rename_i e hu
    split at h
    · rename_i s z hs hz
      split at h
      · rename_i hcond
        obtain ⟨hzs, hs0, hlim⟩ := hcond
        split at h
        · rename_i l hfl
          split at h
          · cases h
            have hzf := (zeroOf_spec hz).2.1
            have hc : VL γ z.cells.toList z.cells.toList := (VR.of_flat γ z hzf).cells
            have hr := hc.rep len
            have hfill : ∃ r', Instr.fill (fun i => some (i * s, s)) ((Array.range (len * s)).map fun i => (if len * s = 0 then #[] else z.cells)[i % (if len * s = 0 then #[] else z.cells).size]!) parts'.toList = some r' ∧ VL γ l r'.toList := by
              refine fill_sound _ parts parts'.toList (rep z.cells.toList len) _ l hp ?_ hfl
              by_cases h0 : len * s = 0
              · have : len = 0 := by
                  rcases Nat.mul_eq_zero.1 h0 with h | h
                  · exact h
                  · exact absurd h hs0
                subst this
                simpa [rep] using VL.nil
              · simp only [if_neg h0]
                rw [← hzs, range_rep]
                simpa using hr
            obtain ⟨r', h1, h2⟩ := hfill
            refine ⟨_, { w with heap := w.heap.push (.cells r' e) }, .slice (some ⟨w.heap.size, 0, none⟩) len len, ?_, new_cells hw hf h2 e e (by simp), new_slice γ A.n (Nat.le_refl _) rfl rfl⟩
            by_cases h0 : len * s = 0
            · have e0 : Array.range 0 = #[] := by simp
              simp only [h0, if_true, e0, Array.map_empty] at h1
              simp [Instr.buildSlice, run_underlying' hu, run_sizeOf' hs, h0, newRow, h1, e0]
            · simp only [if_neg h0] at h1
              have : ¬ (len * s > 16777216) := by omega
              simp [Instr.buildSlice, run_underlying' hu, run_sizeOf' hs, run_zero' hz, h0, this, newRow, h1]
          · cases h
        · cases h
      · cases h
    · cases h
  · cases h

theorem makeSlice_sound (hw : WRel P γ A w) (hf : γ A.n = none) {t : TypeId} {l c l' c' v : Value} (hl : VR γ l l') (hc : VR γ c c') (h : makeSlice P A t l c = some (v, A')) :
    ∃ γ' w' v', (Instr.makeSlice t l' c').run P w = .ok v' w' ∧ Step P γ A w γ' A' w' ∧ VR γ' v v' := by
  unfold makeSlice at h
  split at h
  · rename_i e l c hu
    cases hl.inv_int; cases hc.inv_int
    split at h
    · rename_i s by_ z hs hb hz
      split at h
      · rename_i hcond
        obtain ⟨hzs, hs0, hl0, hlc, hlim⟩ := hcond
        cases h
        obtain ⟨i, hi, hib⟩ := run_bytes' hb
        have hzf := (zeroOf_spec hz).2.1
        have hcz : VL γ z.cells.toList z.cells.toList := (VR.of_flat γ z hzf).cells
        have hb0 : (0 : Int) ≤ c * (by_ : Int) := Int.mul_nonneg (by omega) (by omega)
        have hcb : c * (by_ : Int) ≤ 2 ^ 40 := by
          rw [Int.mul_add] at hlim; omega
        have hc40 : c ≤ 2 ^ 40 := by
          rw [Int.mul_add] at hlim; omega
        have hwl : IntKind.i64.wrap l = l := by simp [IntKind.wrap, IntKind.bits, IntKind.signed]; omega
        have hwc : IntKind.i64.wrap c = c := by simp [IntKind.wrap, IntKind.bits, IntKind.signed]; omega
        refine ⟨_, { w with heap := w.heap.push (.cells (rep z.cells.toList c.toNat).toArray e) }, .slice (some ⟨w.heap.size, 0, none⟩) l.toNat c.toNat, ?_, new_cells hw hf (hcz.rep _) e e (by simp), new_slice γ A.n (by omega) rfl rfl⟩
        have hbig : ¬ ((by_ : Int) * c > 281474976710656) := by rw [Int.mul_comm]; omega
        have hn0 : ¬ c < 0 := by omega
        have hn1 : ¬ l < 0 := by omega
        have hn2 : ¬ c < l := by omega
        by_cases h0 : c.toNat * s = 0
        · have : c.toNat = 0 := by
            rcases Nat.mul_eq_zero.1 h0 with h | h
            · exact h
            · exact absurd h hs0
          have e0 : Array.range 0 = #[] := by simp
          simp [Instr.makeSlice, run_underlying' hu, run_sizeOf' hs, run_typeInfo' hi, hib, asInt, asIntOf, hwl, hwc, this, newRow, hn0, hn1, hn2, hbig, rep, e0]
        · have := range_rep z.cells c.toNat
          rw [hzs] at this
          simp [Instr.makeSlice, run_underlying' hu, run_sizeOf' hs, run_typeInfo' hi, run_zero' hz, hib, asInt, asIntOf, hwl, hwc, h0, newRow, hn0, hn1, hn2, hbig, this, hzs]
      · cases h
    · cases h
  · cases h
end Go.AM

/-
  AM: what an operation gives in the canonical heap stands for what the model's operation gives in the real one. Fourth part: append, copy, clear, len, cap.
-/
namespace Go.AM
variable {P : Program} {γ γ' : Gam} {A A' : CW} {w w' : World}

theorem lenOf_sound {x x' : Value} {n : Nat} (hx : VR γ x x') (h : lenOf x = some n) (w : World) : (Builtin.lenOf x').run P w = .ok n w := by
  unfold lenOf at h
  split at h
  · rename_i a n' c
    cases h
    cases a with
    | none => obtain ⟨rfl, rfl, rfl⟩ := hx.inv_snil; rfl
    | some q => obtain ⟨k, o, sp⟩ := q; obtain ⟨e, o', cap', _, rfl, _⟩ := hx.inv_slice; rfl
  · cases h; cases hx.inv_string; rfl
  · cases h

theorem elems_sound (hw : WRel P γ A w) {x x' : Value} {s n m : Nat} {l : List Value} (hx : VR γ x x') (hm : lenOf x = some m) (hn : n ≤ m) (h : elems A s n x = some l) :
    ∃ l', (∀ w₁, w₁.heap = w.heap → (Builtin.firstCells s n x').run P w₁ = .ok l'.toArray w₁) ∧ VL γ l l' := by
  unfold elems at h
  split at h
  · rename_i k off sp len cap
    simp [lenOf] at hm
    obtain ⟨e, o', cap', hg, rfl, h1, h2, h3, _⟩ := hx.inv_slice
    obtain ⟨l', a1, a2, a3⟩ := cells_read hw hg h
    refine ⟨l', fun w₁ hh => ?_, a1⟩
    simp only [Builtin.firstCells]
    have hl := run_loadCells_list (P := P) w₁ ⟨e.b, o', none⟩ l' (fun j v hv => by
      have hcell : ∀ q, w₁.cell? q = w.cell? q := fun q => by simp [World.cell?, hh]
      rw [addr_add, hcell]
      rcases h3 with h3 | h3
      · rw [h3]; exact a3 j v hv
      · have : n = 0 := by omega
        subst this
        have := a1.1
        simp at a2
        rw [a2] at this
        have := (List.getElem?_eq_some_iff.1 hv).1
        simp at *; omega)
    rw [← a1.1, a2] at hl
    exact hl
  · cases h
    obtain ⟨_, _, rfl⟩ := hx.inv_snil
    exact ⟨[], fun _ _ => rfl, .nil⟩
  · rename_i str
    cases h
    cases hx.inv_string
    have e : ((str.extract 0 n).data.map fun b => Value.int .u8 b.toNat) = ((str.data.toList.take n).map fun b => Value.int .u8 b.toNat).toArray := by
      apply Array.ext'
      simp [ByteArray.data_extract]
    refine ⟨_, fun w₁ _ => ?_, VL.map _ _ _ fun _ _ => .int ..⟩
    simp only [Builtin.firstCells, e]
    rfl
  · cases h

theorem newOf_sound (hw : WRel P γ A w) {x x' : Value} {s n : Nat} {z : Array Value} {zeros : Bool} {l : List Value} (hz : VL γ z.toList z.toList) (hzs : z.size = s) (hx : VR γ x x') (h : newOf A s z.toList zeros x = some (n, l)) :
    ∃ l', VL γ l l' ∧ l.length = n * s ∧
      (zeros = false → (Builtin.lenOf x').run P w = .ok n w ∧ ∀ w₁, w₁.heap = w.heap → (Builtin.firstCells s n x').run P w₁ = .ok l'.toArray w₁) ∧
      (zeros = true → x' = .int .i64 n ∧ n ≤ 65536 ∧ l' = rep z.toList n) := by
  unfold newOf at h
  cases zeros with
  | true =>
    simp only [if_true] at h
    split at h
    · rename_i i
      split at h
      · rename_i hb
        simp at h
        obtain ⟨rfl, rfl⟩ := h
        cases hx.inv_int
        refine ⟨_, hz.rep _, by rw [rep_length]; simp [hzs], fun h => (by cases h), fun _ => ⟨?_, by omega, rfl⟩⟩
        congr 1; omega
      · cases h
    · cases h
  | false =>
    simp only [Bool.false_eq_true, if_false] at h
    split at h
    · rename_i m hm
      split at h
      · rename_i l₀ hl
        split at h
        · rename_i hlen
          simp at h
          obtain ⟨rfl, rfl⟩ := h
          obtain ⟨l', h1, h2⟩ := elems_sound hw hx hm (Nat.le_refl _) hl
          exact ⟨l', h2, hlen, fun _ => ⟨lenOf_sound hx hm w, h1⟩, fun h => by cases h⟩
        · cases h
      · cases h
    · cases h

theorem growBy_le (newLen : Nat) : ∀ (r c : Nat), c ≤ newLen + (newLen + 768) / 4 → Builtin.growBy newLen r c ≤ newLen + (newLen + 768) / 4
  | 0, c, h => h
  | r + 1, c, h => by
    simp only [Builtin.growBy]
    split
    · exact h
    · exact growBy_le newLen r _ (by omega)
theorem nextslicecap_le {need cap : Nat} (h : cap < need) : Builtin.nextslicecap need cap ≤ 2 * need + 192 := by
  unfold Builtin.nextslicecap
  split
  · omega
  · split
    · omega
    · have := growBy_le need 4 cap (by omega)
      omega

def apn (e : TypeId) (x : Value) (size n : Nat) (zeros : Bool) : Sem (Array Value) :=
  if !zeros then Builtin.firstCells size n x
  else if n * size = 0 then pure #[]
  else do pure (Builtin.zeroCells (← zeroValue e).cells n)
def appTail (e : TypeId) (base : Option Addr) (sLen sCap : Nat) (x : Value) (size : Nat) (zeros : Bool) (n : Nat) : Sem Value := do
  let appended : Sem (Array Value) := apn e x size n zeros
  let need := sLen + n
  if need ≤ sCap then
    let new ← appended
    if let some a := base then storeCells (a.add (sLen * size)) new.toList
    pure (.slice base need sCap)
  else
    if (need : Int) > IntKind.i64.max ∧ (zeros ∨ (← typeInfo e).bytes = 0) then runtimePanic (.error "growslice: len out of range")
    if Builtin.nextslicecap need sCap * (← typeInfo e).bytes > 2 ^ 48 then (if zeros then runtimePanic (.error "growslice: len out of range") else do
      if !(← Builtin.mayShare size sLen n base x) then mark .noRoom
      unsupported (.resourceLimit "append: a slice or a string whose bytes no memory bears"))
    let newCap ← choose (.appendCap need sCap e)
    askRoom (newCap * (← typeInfo e).bytes)
    let old ← Builtin.firstCells size sLen (.slice base sLen sCap)
    let new ← appended
    let rest := Builtin.zeroCells (← zeroValue e).cells (newCap - need)
    pure (.slice (some (← newRow e (old ++ new ++ rest))) need newCap)
def appN (e : TypeId) (x : Value) (zeros : Bool) : Sem Nat :=
  if zeros then do
    let l := IntKind.i64.wrap (← asInt x)
    if l < 0 then runtimePanic (.error "makeslice: len out of range")
    if l * (← typeInfo e).bytes > 2 ^ 48 then
      let made ← choose (.extern "append.ofMake.carriedOut" 2)
      runtimePanic (.error (if made == 1 then "makeslice: len out of range" else "growslice: len out of range"))
    pure l.toNat
  else Builtin.lenOf x
/-- The model's append behind its first looks. -/
def appCore (e : TypeId) (base : Option Addr) (sLen sCap : Nat) (x : Value) (size : Nat) (zeros : Bool) : Sem Value := do
  let n ← if zeros then do
      let l := IntKind.i64.wrap (← asInt x)
      if l < 0 then runtimePanic (.error "makeslice: len out of range")
      if l * (← typeInfo e).bytes > 2 ^ 48 then
        let made ← choose (.extern "append.ofMake.carriedOut" 2)
        runtimePanic (.error (if made == 1 then "makeslice: len out of range" else "growslice: len out of range"))
      pure l.toNat
    else Builtin.lenOf x
  appTail e base sLen sCap x size zeros n

theorem append_core {ats : Array TypeId} {args : Array Value} {sT xT ty e : TypeId} {xd : TypeDesc} {base : Option Addr} {sLen sCap s : Nat} {x : Value} (h0 : ats[0]? = some sT) (h1 : ats[1]? = some xT)
    (h2 : args[0]? = some (.slice base sLen sCap)) (h3 : args[1]? = some x) (hu : P.underlying sT = some (.slice e))
    (hux : P.underlying xT = some xd) (hs : szOf P e = some s) (w : World) :
    (Builtin.append_ ats ty args).run P w = (appCore e base sLen sCap x s (isInt (some xd))).run P w := by
  unfold Builtin.append_
  simp only [h0, h1, h2, h3]
  rw [Sem.run_bind, run_underlying' hu, Result.andThen_ok]
  dsimp only
  rw [Sem.run_bind, run_sizeOf' hs, Result.andThen_ok]
  rw [Sem.run_bind, run_underlying' hux, Result.andThen_ok]
  cases xd <;> rfl

theorem core_tail {e : TypeId} {base : Option Addr} {sLen sCap s n by_ : Nat} {x : Value} {zeros : Bool} (hb : bytesOf P e = some by_)
    (h0 : zeros = false → (Builtin.lenOf x).run P w = .ok n w) (h1 : zeros = true → x = .int .i64 n ∧ n ≤ 65536) (hby : by_ ≤ 2 ^ 30) :
    (appCore e base sLen sCap x s zeros).run P w = (appTail e base sLen sCap x s zeros n).run P w := by
  obtain ⟨i, hi, hib⟩ := run_bytes' hb
  cases zeros with
  | false =>
    unfold appCore
    simp only [Bool.false_eq_true, if_false]
    rw [Sem.run_bind, h0 rfl, Result.andThen_ok]
  | true =>
    obtain ⟨rfl, hn⟩ := h1 rfl
    unfold appCore
    simp only [if_true]
    have hw : IntKind.i64.wrap (n : Int) = n := by simp [IntKind.wrap, IntKind.bits, IntKind.signed]; omega
    have hbig : ¬ ((n : Int) * (by_ : Int) > 2 ^ 48) := by
      have : n * by_ ≤ 65536 * 2 ^ 30 := Nat.mul_le_mul hn hby
      have h2 : ((n * by_ : Nat) : Int) ≤ ((65536 * 2 ^ 30 : Nat) : Int) := by exact_mod_cast this
      rw [Int.natCast_mul] at h2
      omega
    have e1 : (asInt (.int .i64 (n : Int))).run P w = .ok (n : Int) w := rfl
    simp only [Sem.run_bind, e1, Result.andThen_ok, hw]
    rw [if_neg (by omega)]
    simp only [Sem.run_bind, run_typeInfo' hi, Result.andThen_ok, hib]
    rw [if_neg hbig]
    simp

theorem apn_run {e : TypeId} {s n : Nat} {x z : Value} {zeros : Bool} {l' : List Value} (hz : zeroOf P e = some z) (hs0 : s ≠ 0)
    (h0 : zeros = false → (Builtin.firstCells s n x).run P w = .ok l'.toArray w) (h1 : zeros = true → l' = rep z.cells.toList n) :
    (apn e x s n zeros).run P w = .ok l'.toArray w := by
  unfold apn
  cases zeros with
  | false => simpa using h0 rfl
  | true =>
    cases h1 rfl
    by_cases h : n * s = 0
    · have : n = 0 := by
        rcases Nat.mul_eq_zero.1 h with h | h
        · exact h
        · exact absurd h hs0
      subst this
      simp [rep]
    · have := range_rep z.cells n
      simp [h, run_zero' hz, Builtin.zeroCells, this]

theorem tail_in {e : TypeId} {base : Option Addr} {sLen sCap s n : Nat} {x : Value} {zeros : Bool} {l' : List Value} (hc : sLen + n ≤ sCap)
    (ha : (apn e x s n zeros).run P w = .ok l'.toArray w) (hst : ∀ a, base = some a → (storeCells (a.add (sLen * s)) l' 0).run P w = .ok () w') (hno : base = none → w' = w) :
    (appTail e base sLen sCap x s zeros n).run P w = .ok (.slice base (sLen + n) sCap) w' := by
  unfold appTail
  simp only [if_pos hc, Sem.run_bind, ha, Result.andThen_ok]
  cases base with
  | none => cases hno rfl; rfl
  | some a => simp [hst a rfl]

theorem tail_grow {e : TypeId} {base : Option Addr} {sLen sCap s n by_ : Nat} {x z : Value} {zeros : Bool} {old' l' : List Value} (hc : ¬ sLen + n ≤ sCap)
    (hb : bytesOf P e = some by_) (hz : zeroOf P e = some z) (hsz : (sLen + n) * (by_ + 1) ≤ 2 ^ 40)
    (hr : ∀ w₁, w₁.heap = w.heap → (Builtin.firstCells s sLen (.slice base sLen sCap)).run P w₁ = .ok old'.toArray w₁ ∧ (apn e x s n zeros).run P w₁ = .ok l'.toArray w₁) :
    ∃ newCap, sLen + n ≤ newCap ∧ ∃ w', w'.heap = w.heap.push (.cells (old' ++ l' ++ rep z.cells.toList (newCap - (sLen + n))).toArray e (0, 0)) ∧ Quiet w w' ∧
      (appTail e base sLen sCap x s zeros n).run P w = .ok (.slice (some ⟨w.heap.size, 0, none⟩) (sLen + n) newCap) w' := by
  obtain ⟨i, hi, hib⟩ := run_bytes' hb
  have hneed : sLen + n ≤ 2 ^ 40 := Nat.le_trans (Nat.le_mul_of_pos_right _ (by omega)) hsz
  have hmax : ¬ ((sLen + n : Nat) : Int) > IntKind.i64.max := by simp [IntKind.max, IntKind.signed, IntKind.bits]; omega
  have hnx : ¬ Builtin.nextslicecap (sLen + n) sCap * by_ > 2 ^ 48 := by
    have h1 := nextslicecap_le (need := sLen + n) (cap := sCap) (by omega)
    have h2 : by_ + 1 ≤ 2 ^ 40 := Nat.le_trans (Nat.le_mul_of_pos_left _ (by omega)) hsz
    have h3 : Builtin.nextslicecap (sLen + n) sCap * by_ ≤ (2 * (sLen + n) + 192) * by_ := Nat.mul_le_mul_right _ h1
    have h4 : (2 * (sLen + n) + 192) * by_ = 2 * ((sLen + n) * by_) + 192 * by_ := by rw [Nat.add_mul, Nat.mul_assoc]
    have h5 : (sLen + n) * by_ ≤ 2 ^ 40 := Nat.le_trans (Nat.mul_le_mul_left _ (by omega)) hsz
    omega
  let newCap := (Question.appendCap (sLen + n) sCap e).cut (w.tape w.drawn (Question.appendCap (sLen + n) sCap e))
  have hnc : sLen + n ≤ newCap := by simp only [newCap, Question.cut]; omega
  let w₁ : World := { w with drawn := w.drawn + 1 }
  obtain ⟨h1, h2⟩ := hr w₁ rfl
  refine ⟨newCap, hnc, { w₁ with heap := w₁.heap.push (.cells (old' ++ l' ++ rep z.cells.toList (newCap - (sLen + n))).toArray e) }, rfl, ⟨rfl, rfl⟩, ?_⟩
  have hrep := range_rep z.cells (newCap - (sLen + n))
  unfold appTail
  simp only [if_neg hc, Sem.run_bind, run_typeInfo' hi, Result.andThen_ok, hib]
  rw [if_neg (fun h => hmax h.1)]
  simp only [Sem.run_bind, run_typeInfo' hi, Result.andThen_ok, hib]
  rw [if_neg hnx]
  simp only [Sem.run_bind, Sem.run_pure, run_choose, Question.forced, Bool.false_eq_true, if_false, Result.andThen_ok, run_typeInfo' hi, run_askRoom]
  change (((Builtin.firstCells s sLen (.slice base sLen sCap)).run P w₁).andThen _) = _
  rw [h1, Result.andThen_ok, h2, Result.andThen_ok, run_zero' hz w₁, Result.andThen_ok]
  simp only [Sem.run_bind, Result.andThen_ok, newRow, run_newObj, Sem.run_pure, Builtin.zeroCells]
  change Result.ok _ { w₁ with heap := w₁.heap.push (.cells (old'.toArray ++ l'.toArray ++ (Array.range ((newCap - (sLen + n)) * z.cells.size)).map fun i => z.cells[i % z.cells.size]!) e) } = _
  rw [hrep]
  simp [newCap, w₁]

theorem VA.get {γ : Gam} {a a' : Array Value} (h : VA γ a a') {i : Nat} {v : Value} (hv : a[i]? = some v) : ∃ v', a'[i]? = some v' ∧ VR γ v v' := by
  obtain ⟨v', h1, h2⟩ := h.2 i v (by simpa using hv)
  exact ⟨v', by simpa using h1, h2⟩

theorem kill_n (A : CW) (b : Option Addr) : (kill A b).n = A.n := by
  cases b with
  | none => rfl
  | some a => simp only [kill]; split <;> rfl

theorem append_sound (hw : WRel P γ A w) (hf : ∀ k, A.n ≤ k → k < A'.n → γ k = none) {ats : Array TypeId} {args args' : Array Value} {ty : TypeId} {v : Value} (ha : VA γ args args') (h : append P A ats args = some (v, A')) :
    ∃ γ' w' v', (Builtin.append_ ats ty args').run P w = .ok v' w' ∧ Step P γ A w γ' A' w' ∧ VR γ' v v' := by
  unfold append at h
  split at h
  · rename_i sT base sLen sCap xT x h0 h2 h1 h3
    split at h
    · rename_i e hu
      split at h
      · rename_i s by_ z xd hs hb hz hux
        split at h
        · cases h
        · rename_i n new hnew
          split at h
          · rename_i hcond
            obtain ⟨hs0, hzs, hsz, hby, hspot, hbase⟩ := hcond
            obtain ⟨v0', h2', hv0⟩ := ha.get h2
            obtain ⟨x', h3', hx⟩ := ha.get h3
            have hzf := (zeroOf_spec hz).2.1
            have hcz : VL γ z.cells.toList z.cells.toList := (VR.of_flat γ z hzf).cells
            obtain ⟨new', hnl, hnlen, hn0, hn1⟩ := newOf_sound hw hcz hzs hx hnew
            have hnew' : ∀ w₁, w₁.heap = w.heap → (apn e x' s n (isInt (some xd))).run P w₁ = .ok new'.toArray w₁ := fun w₁ hh =>
              apn_run hz hs0 (fun hz0 => (hn0 hz0).2 w₁ hh) (fun hz0 => (hn1 hz0).2.2)
            have htail : ∀ {base' sCap'}, v0' = .slice base' sLen sCap' → (Builtin.append_ ats ty args').run P w = (appTail e base' sLen sCap' x' s (isInt (some xd)) n).run P w := fun {base' sCap'} hv => by
              rw [append_core h0 h1 (by rw [h2', hv]) h3' hu hux hs, core_tail hb (fun h => (hn0 h).1) (fun h => ⟨(hn1 h).1, (hn1 h).2.1⟩) hby]
            split at h
            · rename_i hle
              cases base with
              | none =>
                cases h
                obtain ⟨rfl, rfl, rfl⟩ := hv0.inv_snil
                have hn : n = 0 := by omega
                subst hn
                refine ⟨γ, w, .slice none 0 0, ?_, .refl hw, .snil⟩
                rw [htail rfl, tail_in (by omega) (hnew' w rfl) (fun a ha => by cases ha) (fun _ => rfl)]
              | some q =>
                obtain ⟨k, off, sp⟩ := q
                obtain ⟨em, o', cap', hg, rfl, a1, a2, a3, a4, a5⟩ := hv0.inv_slice
                simp only at h
                split at h
                · rename_i A₁ hput
                  cases h
                  obtain ⟨w', b1, b2⟩ := cells_write (P := P) hw hg hput hnl
                  refine ⟨γ, w', .slice (some ⟨em.b, o', none⟩) (sLen + n) cap', ?_, b2, .slice hg hle a2 a3 a4 a5⟩
                  rw [htail rfl, tail_in (by omega) (hnew' w rfl) (fun a ha => ?_) (fun ha => by cases ha)]
                  cases ha
                  rw [addr_add]
                  rcases a3 with a3 | a3
                  · rw [a3, Nat.add_assoc]; exact b1
                  · have e0 : n = 0 := by omega
                    subst e0
                    simp at hnlen
                    subst hnlen
                    cases hnl.inv_nil
                    exact b1
                · cases h
            · rename_i hgt
              split at h
              · cases h
              · rename_i old hold
                split at h
                · rename_i hone
                  cases h
                  have hfn : γ A.n = none := hf A.n (Nat.le_refl _) (by simp [kill_n])
                  obtain ⟨old', hold1, hold2⟩ := elems_sound hw hv0 (m := sLen) rfl (Nat.le_refl _) hold
                  have holdlen : old.length = sLen * s := by
                    cases base with
                    | none => obtain ⟨rfl, _, _⟩ := hv0.inv_snil; simp [elems] at hold; subst hold; simp
                    | some q =>
                      simp only [elems] at hold
                      obtain ⟨em, o', cap', hg, _⟩ := hv0.inv_slice
                      exact (cells_read hw hg hold).choose_spec.2.1
                  have hall := hold2.append hnl
                  -- in a new block
                  have hgrow : ∀ {base' cap'}, v0' = .slice base' sLen cap' → ¬ sLen + n ≤ cap' → ∀ {A₁ : CW}, A₁.n = A.n → Step P γ A w γ A₁ w →
                      ∃ γ' w' v', (Builtin.append_ ats ty args').run P w = .ok v' w' ∧ Step P γ A w γ' (A₁.push (.cells (old ++ new) e true false 0)) w' ∧
                        VR γ' (.slice (some ⟨A.n, 0, some s⟩) (sLen + n) (sLen + n)) v' := fun {base' cap'} hv hc {A₁} hAn hst => by
                    subst hv
                    obtain ⟨newCap, c1, w', c2, cq, c3⟩ := tail_grow (P := P) (w := w) (e := e) (base := base') (sLen := sLen) (sCap := cap') (s := s) (n := n) (x := x') (zeros := isInt (some xd)) (old' := old') (l' := new')
                      hc hb hz hsz (fun w₁ hh => ⟨hold1 w₁ hh, hnew' w₁ hh⟩)
                    have hlen' : (old' ++ new').length = (sLen + n) * s := by
                      have := hall.1
                      simp at this ⊢
                      rw [Nat.add_mul]; omega
                    have hpush := Step.push (P := P) (γ := γ) (A := A₁) (w := w) (w' := w') hst.rel (.cells (old ++ new) e true false 0) _
                      ⟨w.heap.size, 0, newCap * s, s, true⟩ rfl (by rw [hAn]; exact hfn) ?_ c2 cq
                    · rw [hAn] at hpush
                      refine ⟨_, w', .slice (some ⟨w.heap.size, 0, none⟩) (sLen + n) newCap, by rw [htail rfl, c3], hst.trans hpush, ?_⟩
                      exact .slice (addG_self γ A.n _) (Nat.le_refl _) c1 (.inl rfl) (fun h => by cases h) (fun _ => ⟨by simp, rfl⟩)
                    · refine ⟨rfl, fun _ => hs, .inr ⟨_, _, _, rfl, ?_, ?_, ?_, fun _ i _ _ => by simp⟩⟩
                      · simp only [List.size_toArray, List.length_append, rep_length, Array.length_toList]
                        rw [hzs]
                        simp at hlen'
                        rw [hlen', ← Nat.add_mul]
                        exact Nat.mul_le_mul_right _ (by omega)
                      · have : (old ++ new).length = (sLen + n) * s := by simp; rw [Nat.add_mul]; omega
                        simp only [this, Nat.zero_add]
                        exact Nat.mul_le_mul_right _ c1
                      · have e1 : (((old' ++ new' ++ rep z.cells.toList (newCap - (sLen + n))).toArray.toList.drop 0).take (old ++ new).length) = old' ++ new' := by
                          have : (old ++ new).length = (old' ++ new').length := hall.1
                          rw [this, List.drop_zero]
                          exact List.take_left
                        simp only
                        rw [e1]
                        rw [hAn]
                        exact hall.mono (addG_ext hfn)
                  cases base with
                  | none =>
                    obtain ⟨rfl, rfl, rfl⟩ := hv0.inv_snil
                    exact hgrow rfl (by omega) (by simp [kill]) (Step.refl hw)
                  | some q =>
                    obtain ⟨k, off, sp⟩ := q
                    obtain ⟨em, o', cap', hg, rfl, a1, a2, a3, a4, a5⟩ := hv0.inv_slice
                    simp only [baseOk] at hbase
                    cases hob : A.get k with
                    | cells vs t lo ro ver =>
                      rw [hob] at hbase
                      have hk : k < A.n := CW.lt_of_live hw (by rw [hob]; simp)
                      have hor := hw.obj k em hg hk
                      rw [hob] at hor
                      obtain ⟨p1, p2, p3⟩ := hor
                      cases lo with
                      | false =>
                        have hcap := a4 p1
                        have hkill : kill A (some ⟨k, off, sp⟩) = A := by simp [kill, looseAt, hob]
                        rw [hkill]
                        exact hgrow rfl (by omega) rfl (Step.refl hw)
                      | true =>
                        have hro : ro = false := by simpa using hbase
                        subst hro
                        have hkill : kill A (some ⟨k, off, sp⟩) = A.set k .dead := by simp [kill, looseAt, hob]
                        rw [hkill]
                        obtain ⟨b1, rfl⟩ := a5 p1
                        simp [spotOk] at hspot
                        by_cases hc : sLen + n ≤ cap'
                        · -- the model's row had room: it goes on under a new name
                          rcases p3 with ⟨_, p3⟩ | ⟨cs, t', fr, p3, p4, p5, p6, p7⟩
                          · cases p3
                          · have ho : o' = em.sh + off := by
                              rcases a3 with a3 | a3
                              · exact a3
                              · omega
                            have hnl' : new'.length = n * s := by rw [← hnl.1]; exact hnlen
                            have hmul : (sLen + n) * s ≤ cap' * em.es := by rw [hspot]; exact Nat.mul_le_mul_right _ hc
                            have hmul2 : (sLen + n) * s = sLen * s + n * s := Nat.add_mul ..
                            obtain ⟨⟨c', d1, d2, d3⟩, d4, d5⟩ := setCells_heap em.b new' (o' + sLen * s) w cs t' fr p3 (by omega)
                            have hstore : (storeCells ((⟨em.b, o', none⟩ : Addr).add (sLen * s)) new' 0).run P w = .ok () (w.setCells em.b (o' + sLen * s) new') := by
                              rw [addr_add]
                              have := run_storeCells_cells (P := P) em.b (o' + sLen * s) new' 0 w ?_ ?_ ?_
                              · simpa using this
                              · intro j hj
                                rw [cell?_of p3]
                                simp; omega
                              · intro j hj
                                exact frozen?_of p3 (p7 rfl _ (by omega) (by omega))
                              · refine hnl.oneB ?_
                                rw [List.all_append, Bool.and_eq_true] at hone
                                exact hone.2
                            have hro : isRo (A.get k) = false := by rw [hob]; rfl
                            have hlive : harmless (A.get k) = false := by rw [hob]; exact harmless_cells
                            refine ⟨_, w.setCells em.b (o' + sLen * s) new', .slice (some ⟨em.b, o', none⟩) (sLen + n) cap', ?_,
                              Step.regrow (e' := ⟨em.b, o', em.lim, s, true⟩) hw hg hk hro hlive (.cells (old ++ new) e true false 0) rfl hfn ?_ d4 d5 (.setCells _ _ _ _), ?_⟩
                            · rw [htail rfl, tail_in hc (hnew' w rfl) (fun a ha => by cases ha; exact hstore) (fun ha => by cases ha)]
                            · refine ⟨rfl, fun _ => hs, .inr ⟨c', t', fr, d1, by simp; omega, ?_, ?_, fun _ i hi1 hi2 => ?_⟩⟩
                              · simp only [List.length_append]; omega
                              · refine ⟨?_, fun i v hi => ?_⟩
                                · simp; omega
                                · have hilt : i < (old ++ new).length := (List.getElem?_eq_some_iff.1 hi).1
                                  rw [List.getElem?_take, if_pos hilt, List.getElem?_drop]
                                  simp only [Array.getElem?_toList, d3]
                                  simp only [List.length_append] at hilt
                                  by_cases hio : i < old.length
                                  · rw [if_neg (by omega)]
                                    rw [List.getElem?_append_left hio] at hi
                                    -- what was there
                                    simp only [elems, cellsAt, hob] at hold
                                    split at hold
                                    · rename_i hin
                                      simp at hold
                                      subst hold
                                      rw [List.getElem?_take] at hi
                                      split at hi
                                      · rw [List.getElem?_drop] at hi
                                        obtain ⟨u, u1, u2⟩ := p6.2 _ v hi
                                        have hlt := (List.getElem?_eq_some_iff.1 hi).1
                                        rw [List.getElem?_take, if_pos hlt, List.getElem?_drop] at u1
                                        refine ⟨u, ?_, u2.mono (addG_ext hfn)⟩
                                        rw [← u1, Array.getElem?_toList]
                                        congr 1; omega
                                      · cases hi
                                    · cases hold
                                  · rw [if_pos (by omega)]
                                    rw [List.getElem?_append_right (by omega)] at hi
                                    obtain ⟨u, u1, u2⟩ := hnl.2 _ v hi
                                    refine ⟨u, ?_, u2.mono (addG_ext hfn)⟩
                                    rw [← u1]; congr 1; omega
                              · exact p7 rfl i (by simp at hi1; omega) hi2
                            · exact VR.slice (e := ⟨em.b, o', em.lim, s, true⟩) (addG_self γ A.n _) (Nat.le_refl _) hc (.inl rfl) (fun h => by cases h) (fun _ => ⟨by simp only; rw [← hspot]; exact b1, rfl⟩)
                        · exact hgrow rfl hc (by simp) (Step.kill hw hk (by rw [hob]; rfl) (by rw [hg]; simp))
                    | dead => rw [hob] at hbase; cases hbase
                    | map => rw [hob] at hbase; cases hbase
                    | siter => rw [hob] at hbase; cases hbase
                    | loop => rw [hob] at hbase; cases hbase
                    | dfr => rw [hob] at hbase; cases hbase
                · cases h
          · cases h
      · cases h
    · cases h
  · cases h
end Go.AM
