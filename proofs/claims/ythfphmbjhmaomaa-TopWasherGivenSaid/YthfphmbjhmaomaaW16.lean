/-
  The W seat: all contracts together.
-/
import Derived.Test.YthfphmbjhmaomaaW15
namespace Go.AM.W
open Go.Proofs Go.AM
set_option maxRecDepth 100000
theorem un_add {ov : Ov} (hu : Un ov) {f : FuncId} {c : Array Value → CW → Option (Value × CW)} (hf : ([21, 25, 28, 47, 55, 56, 58, 71, 102, 53, 105, 54, 62, 63, 67, 60, 66, 18, 52] : List Nat).contains f = false) : Un (ov.add f c) := fun g hg => by
  unfold Ov.add
  rw [if_neg]
  · exact hu g hg
  · rintro rfl
    simp only [List.contains_eq_mem, decide_eq_false_iff_not] at hf
    exact hf hg
theorem uno0 : Un o0 := fun _ _ => rfl
noncomputable def o17 : Ov := o0.add 17 c17
theorem uno17 : Un o17 := un_add uno0 rfl
noncomputable def o65 : Ov := o17.add 65 (con Try.prog F65)
theorem uno65 : Un o65 := un_add uno17 rfl
theorem k65 : OvSound Try.prog o65 := s65 k17 uno17 rfl
noncomputable def o107 : Ov := o65.add 107 (con Try.prog F107)
theorem uno107 : Un o107 := un_add uno65 rfl
theorem k107 : OvSound Try.prog o107 := s107 k65 uno65 rfl
noncomputable def o64 : Ov := o107.add 64 (con Try.prog F64)
theorem uno64 : Un o64 := un_add uno107 rfl
theorem k64 : OvSound Try.prog o64 := s64 k107 uno107 rfl
noncomputable def o106 : Ov := o64.add 106 (con Try.prog F106)
theorem uno106 : Un o106 := un_add uno64 rfl
theorem k106 : OvSound Try.prog o106 := s106 k64 uno64 rfl
noncomputable def o61 : Ov := o106.add 61 (con Try.prog F61)
theorem uno61 : Un o61 := un_add uno106 rfl
theorem k61 : OvSound Try.prog o61 := s61 k106 uno106 rfl rfl
noncomputable def o69 : Ov := o61.add 69 (con Try.prog F69)
theorem uno69 : Un o69 := un_add uno61 rfl
theorem k69 : OvSound Try.prog o69 := s69 k61 uno61 rfl rfl
noncomputable def o70 : Ov := o69.add 70 (con Try.prog F70)
theorem uno70 : Un o70 := un_add uno69 rfl
theorem k70 : OvSound Try.prog o70 := s70 k69 uno69 rfl
noncomputable def o68 : Ov := o70.add 68 (con Try.prog F68)
theorem uno68 : Un o68 := un_add uno70 rfl
theorem k68 : OvSound Try.prog o68 := s68 k70 uno70 rfl rfl
noncomputable def o23 : Ov := o68.add 23 (con Try.prog F23)
theorem uno23 : Un o23 := un_add uno68 rfl
theorem k23 : OvSound Try.prog o23 := s23 k68 uno68 rfl rfl rfl
noncomputable def o24 : Ov := o23.add 24 (con Try.prog F24)
theorem uno24 : Un o24 := un_add uno23 rfl
theorem k24 : OvSound Try.prog o24 := s24 k23 uno23 rfl rfl rfl
noncomputable def o48 : Ov := o24.add 48 (con Try.prog F48)
theorem uno48 : Un o48 := un_add uno24 rfl
theorem k48 : OvSound Try.prog o48 := s48 k24 uno24 rfl
noncomputable def o59 : Ov := o48.add 59 (con Try.prog F59)
theorem uno59 : Un o59 := un_add uno48 rfl
theorem k59 : OvSound Try.prog o59 := s59 k48 uno48 rfl
noncomputable def o50 : Ov := o59.add 50 (con Try.prog F50)
theorem uno50 : Un o50 := un_add uno59 rfl
theorem k50 : OvSound Try.prog o50 := s50 k59 uno59 rfl
noncomputable def o57 : Ov := o50.add 57 (con Try.prog F57)
theorem uno57 : Un o57 := un_add uno50 rfl
theorem k57 : OvSound Try.prog o57 := s57 k50 uno50 rfl rfl rfl
noncomputable def o22 : Ov := o57.add 22 (con Try.prog F22)
theorem uno22 : Un o22 := un_add uno57 rfl
theorem k22 : OvSound Try.prog o22 := s22 k57 uno57 rfl rfl rfl
noncomputable def o20 : Ov := o22.add 20 (con Try.prog F20)
theorem uno20 : Un o20 := un_add uno22 rfl
theorem k20 : OvSound Try.prog o20 := s20 k22 uno22 rfl rfl rfl rfl rfl
noncomputable def o14 : Ov := o20.add 14 (con Try.prog F14)
theorem uno14 : Un o14 := un_add uno20 rfl
theorem k14 : OvSound Try.prog o14 := s14 k20 uno20 rfl
noncomputable def o16 : Ov := o14.add 16 (con Try.prog F16)
theorem uno16 : Un o16 := un_add uno14 rfl
theorem k16 : OvSound Try.prog o16 := s16 k14 uno14 rfl rfl
noncomputable def o15 : Ov := o16.add 15 (con Try.prog F15)
theorem uno15 : Un o15 := un_add uno16 rfl
theorem k15 : OvSound Try.prog o15 := s15 k16 uno16 rfl
noncomputable def o51 : Ov := o15.add 51 (sortOv Try.prog cII 52 (srtL ltT))
theorem uno51 : Un o51 := un_add uno15 rfl
theorem k51 : OvSound Try.prog o51 := s51 k15
noncomputable def o19 : Ov := o51.add 19 (con Try.prog F19)
theorem uno19 : Un o19 := un_add uno51 rfl
theorem k19 : OvSound Try.prog o19 := s19 k51 uno51 rfl rfl rfl rfl rfl
theorem given {A : CW} (x y z : Int) {a0 a1 aw : Option Addr} {c0 c1 cw : Nat} {l0 l1 : List (Int × Int)} {w : List Int} (i0 : IsSl Try.prog A cII a0 c0 l0) (i1 : IsSl Try.prog A cII a1 c1 l1) (iw : IsSl Try.prog A (cI .i64) aw cw w) :
    ∃ v A', den Try.prog o19 (.func 4) #[.agg #[.int .i64 x, .int .i64 y, .int .i64 z], .agg #[.slice a0 l0.length c0, .slice a1 l1.length c1], .slice aw w.length cw] A = some (v, A') ∧ v = .bool true :=
  law4 uno19 rfl rfl rfl rfl rfl rfl rfl rfl rfl rfl x y z i0 i1 iw
end Go.AM.W

