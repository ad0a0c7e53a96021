/-
  The W seat: 'bipoletop.TopWasherGiven': the row.
-/
import Derived.Test.YthfphmbjhmaomaaRows
import Derived.Test.YthfphmbjhmaomaaW16
import Derived.Test.YthfphmbjhmaomaaAmTac
import Derived.WalkKit
import Derived.ProofKit
namespace Go.Proofs.Ythfphmbjhmaomaa.given
open Go.ChangeShapes Go.WideShapes Go.ChangeAt Go.RowKit Go.AM Go.AM.W
set_option linter.unusedVariables false
set_option maxRecDepth 100000
theorem own : ownKnob Try.prog.godebug = none := by kernel_rfl
theorem laidOut : laidOutB Try.prog = true := by kernel_rfl
variable {H : Type} {enc : TypeId × Value → H} {w : World} {base : Nat} {spare : Nat → Bool} {held : Bool}

theorem un59 : ∃ fs, Try.prog.underlying 59 = some (.struct fs) ∧ fs.toList.map (fun f => Try.prog.underlying f.type) = [IntKind.i64, .i64].map (fun k => some (.int k)) ∧ tightF Try.prog fs.toList 0 = some (Try.prog.cellsOf 59) := ⟨Try.prog.fieldsOf 59, by kernel_rfl, by kernel_rfl, by kernel_rfl⟩
theorem un51 : ∃ fs, Try.prog.underlying 51 = some (.struct fs) ∧ fs.toList.map (fun f => Try.prog.underlying f.type) = [IntKind.i64, .i64, .i64].map (fun k => some (.int k)) ∧ tightF Try.prog fs.toList 0 = some (Try.prog.cellsOf 51) := ⟨Try.prog.fieldsOf 51, by kernel_rfl, by kernel_rfl, by kernel_rfl⟩
theorem un53 : Try.prog.underlying 53 = some (.array 2 52) := by kernel_rfl
theorem lay59 (n : Nat) {fuel : Nat} {cs : List Value} {x : DataW H × List MemPlace} (h : DataW.trod enc Try.prog w base spare held fuel 59 cs = some x) : ∃ y : Int × Int, ∀ A : CW, lay Try.prog false (n + 2) 59 x.1 A = some (cII.enc y, A) := by
  obtain ⟨fs, h1, h2, h3⟩ := un59
  obtain ⟨ns, h4, h5⟩ := lay_ints (nested := false) h1 h2 h3 h
  match ns, h4 with
  | [a, b], _ => exact ⟨(a, b), fun A => h5 n A⟩
theorem lay51 (n : Nat) {fuel : Nat} {cs : List Value} {x : DataW H × List MemPlace} (h : DataW.trod enc Try.prog w base spare held fuel 51 cs = some x) : ∃ a b c : Int, ∀ A : CW, lay Try.prog false (n + 2) 51 x.1 A = some ([.int .i64 a, .int .i64 b, .int .i64 c], A) := by
  obtain ⟨fs, h1, h2, h3⟩ := un51
  obtain ⟨ns, h4, h5⟩ := lay_ints (nested := false) h1 h2 h3 h
  match ns, h4 with
  | [a, b, c], _ => exact ⟨a, b, c, fun A => h5 n A⟩
theorem lay52 {fuel : Nat} {cs : List Value} {x : DataW H × List MemPlace} (h : DataW.trod enc Try.prog w base spare held fuel 52 cs = some x) :
    ∃ l : List (Int × Int), ∀ A : CW, ∃ a cap A', lay Try.prog false 5 52 x.1 A = some ([.slice a l.length cap], A') ∧ IsSl Try.prog A' cII a cap l ∧ Grow A A' :=
  lay_sl (n := 4) (c := cII) W.un52 Try.sz59 (by kernel_rfl) (fun fuel cs x' h' => lay59 2 h') h
theorem lay28 {fuel : Nat} {cs : List Value} {x : DataW H × List MemPlace} (h : DataW.trod enc Try.prog w base spare held fuel 28 cs = some x) :
    ∃ l : List Int, ∀ A : CW, ∃ a cap A', lay Try.prog false 6 28 x.1 A = some ([.slice a l.length cap], A') ∧ IsSl Try.prog A' (cI .i64) a cap l ∧ Grow A A' :=
  lay_sl (n := 5) (c := cI .i64) W.un28 Try.sz3 (by kernel_rfl) (fun fuel cs x' h' => by
    obtain ⟨n, hn⟩ := lay_int (nested := false) W.un3 h'
    exact ⟨n, fun A => hn 4 A⟩) h
theorem lay_arr {P : Program} {nested : Bool} {n m : Nat} {t e : TypeId} (ht : P.underlying t = some (.array m e)) (ds : List (DataW H)) (A : CW) : lay P nested (n + 1) t (.agg ds) A = if m * P.cellsOf e = P.cellsOf t ∧ ds.length = m then layL (lay P nested n) (ds.map fun d => (e, d)) A else none := by simp only [lay, ht]
theorem lay53 {fuel : Nat} {cs : List Value} {x : DataW H × List MemPlace} (h : DataW.trod enc Try.prog w base spare held fuel 53 cs = some x) :
    ∃ l0 l1 : List (Int × Int), ∀ A : CW, ∃ a0 c0 a1 c1 A', lay Try.prog false 6 53 x.1 A = some ([.slice a0 l0.length c0, .slice a1 l1.length c1], A') ∧ IsSl Try.prog A' cII a0 c0 l0 ∧ IsSl Try.prog A' cII a1 c1 l1 ∧ Grow A A' := by
  obtain ⟨xs, m, rfl, rfl, h1, h2, h3⟩ := DataW.trod_array un53 h
  match xs, h2 with
  | [x0, x1], _ =>
    have e0 := h3 0 (by omega)
    have e1 := h3 1 (by omega)
    obtain ⟨l0, q0⟩ := lay52 e0
    obtain ⟨l1, q1⟩ := lay52 e1
    refine ⟨l0, l1, fun A => ?_⟩
    obtain ⟨a0, c0, A0, r0, s0, g0⟩ := q0 A
    obtain ⟨a1, c1, A1, r1, s1, g1⟩ := q1 A0
    refine ⟨a0, c0, a1, c1, A1, ?_, s0.grow g1, s1, g0.trans g1⟩
    rw [lay_arr un53, if_pos ⟨by kernel_rfl, rfl⟩]
    simp only [List.map_cons, List.map_nil, layL, r0, r1]
    rfl

theorem contract (H : Type) (enc : TypeId × Value → H) (W : World) (base : Nat) (args : Array Value) (ds gs : List (DataW H)) (before : List MemPlace)
    (hval : ∀ (j : Nat) t v, Try.f4.params[j]? = some t → args[j]? = some v → Value.okWide Try.prog W .any base t v)
    (hW : DataW.Whole enc Try.prog Try.f4.params.toList Rows.topWasherGivenSpec.vars false W args.toList ds gs before) :
    Calls Try.prog 4 args W fun e W' => ∃ v, e = .returned v ∧ Rows.topWasherGivenSpec.post enc Try.prog Try.f4 false true false false W args v W' := by
  have hW' := hW
  obtain ⟨p, q, hA0, hV, _, _, _⟩ := hW'
  obtain ⟨hgs, _⟩ := trodVars_none hV
  have hA : DataW.TrodAll enc Try.prog W 0 (fun _ => true) true [51, 53, 28] args.toList ds p := hA0
  obtain ⟨v0, vs0, d0, ds0, p0, q0, hargs0, rfl, _, ⟨f0, h0⟩, r0⟩ := trodAll_cons hA
  obtain ⟨v1, vs1, d1, ds1, p1, q1, _, rfl, _, ⟨f1, h1⟩, r1⟩ := trodAll_cons r0
  obtain ⟨v2, vs2, d2, ds2, p2, q2, _, rfl, _, ⟨f2, h2⟩, r2⟩ := trodAll_cons r1
  obtain ⟨_, rfl, _⟩ := trodAll_nil r2
  obtain ⟨x, y, z, L0⟩ := lay51 4 h0
  obtain ⟨l0, l1, L1⟩ := lay53 h1
  obtain ⟨wl, L2⟩ := lay28 h2
  let A0 : CW := startA Try.prog []
  obtain ⟨a0, c0, a1, c1, A1, r1, s0, s1, g1⟩ := L1 A0
  obtain ⟨aw, cw, A2, r2, s2, g2⟩ := L2 A1
  obtain ⟨v, A', hd, rfl⟩ := Go.AM.W.given (A := A2) x y z (s0.grow g2) (s1.grow g2) s2
  refine law_calls (ov := o19) (nested := false) (n := 6) (laid := []) k19 Try.mixed Try.okProg (fn := Try.f4) (by kernel_rfl) laidOut ?_ (tb := 4) rfl (by kernel_rfl) (fun h => by cases h) (fun _ _ _ h => by cases h) rfl (fun j t v h1 h2 => ⟨base, hval j t v h1 h2⟩) hW ?_
    (us := [.agg #[.int .i64 x, .int .i64 y, .int .i64 z], .agg #[.slice a0 l0.length c0, .slice a1 l1.length c1], .slice aw wl.length cw]) (A1 := A2) (A2 := A') ?_ hd
  · intro t ht
    have : t = 51 ∨ t = 53 ∨ t = 28 := by
      have h : t ∈ [51, 53, 28] := ht
      simpa using h
    rcases this with rfl | rfl | rfl <;> exact ⟨by kernel_rfl, of_decide_eq_true (by kernel_rfl)⟩
  · rw [hgs]; rfl
  · show layA Try.prog false 6 [(51, d0), (53, d1), (28, d2)] A0 = _
    have e0 := L0 A0
    simp only [layA, e0, r1, r2]
    simp [AM.valOf]

theorem lifted (os : Os) (started : os.Started) (H : Type) (enc : TypeId × Value → H) :
    ReturnsInHanded {} Try.checked os 4 .any (Rows.topWasherGivenSpec.pre6 enc Try.prog Try.f4 Rows.topWasherGivenRow.domain false) (Rows.topWasherGivenSpec.post enc Try.prog Try.f4 false true false false) := by
  refine returnsInHanded_of_change (C := Try.checked) own started (by kernel_rfl) Try.func4
    (ChangeSpec.witness6 (enc := enc) (C := Try.checked) false ⟨#[], #[.agg #[.int .i64 0, .int .i64 0, .int .i64 0], .agg #[.slice none 0 0, .slice none 0 0], .slice none 0 0], []⟩ 8 (by kernel_rfl) (by kernel_rfl) (by kernel_rfl) (by kernel_rfl)) ?_
  intro W base args ds gs before hval hW _ _
  exact contract H enc W base args ds gs before hval hW
theorem over : Rows.topWasherGivenRow.holds Try.pinned (OpenSpec.ofChange Rows.topWasherGivenSpec) :=
  OpenClaim.holds_of_wide 4 Try.f4 rfl rfl rfl rfl rfl rfl rfl ⟨rfl, rfl, rfl, rfl, rfl⟩ rfl rfl rfl rfl rfl (by kernel_rfl) Try.func4 (by kernel_rfl)
    (of_decide_eq_true (by kernel_rfl)) (by unfold Func.isWrapper; first | (rw [if_pos (by decide +kernel)]; kernel_rfl) | (rw [if_neg (by decide +kernel)]; exact ⟨rfl, rfl⟩))
    (fun os started H enc _ => lifted os started H enc)
theorem proved : Rows.TopWasherGivenSaid := over
#print axioms proved
end Go.Proofs.Ythfphmbjhmaomaa.given

