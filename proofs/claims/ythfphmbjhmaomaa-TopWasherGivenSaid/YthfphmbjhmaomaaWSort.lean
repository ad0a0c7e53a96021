/-
  The W seat: the library's contracts of its sorts.
-/
import Derived.Test.YthfphmbjhmaomaaW9
import Derived.Test.YthfphmbjhmaomaaAmTac
import Derived.Shelf.SlicesG.Cmp
import Derived.Shelf.Lay
import Derived.Ground.SlsfProg
import Derived.Ground.SlgcProg
namespace Go.Proofs
open Go.Shelf
shelf_lay_g SlLaysF0.n6 Slsf 6 at Try 51 as Try.sortOrd
shelf_lay_g SlLaysF0.n6 Slsf 6 at Try 77 as Try.sortWay
shelf_lay_g SlLaysC2.n5 Slgc 5 at Try 84 as Try.cmpL
end Go.Proofs
namespace Go.AM.W
open Go.Proofs Go.AM Go.Shelf Go.RowKit Go.Lib Go.Sort
variable {ov : Ov}
def cfT (x y : Int × Int) : Int := Lib.compareInt x.1 y.1
def ltT (x y : Int × Int) : Bool := decide (x.1 < y.1)
theorem ltT_eq : ltOf cfT = ltT := by
  funext x y
  unfold ltOf cfT Lib.compareInt ltT
  by_cases h1 : x.1 < y.1
  · simp [h1]
  · by_cases h2 : y.1 < x.1 <;> simp [h1, h2]
theorem swoT : SWO ltT where
  irrefl x := by simp [ltT]
  trans x y z h1 h2 := by simp [ltT] at *; omega
  ntrans x y z h1 h2 := by simp [ltT] at *; omega
set_option maxHeartbeats 1000000 in
theorem closure52 (x y : Int × Int) (W : World) : Calls Try.prog 52 #[.agg #[.int .i64 x.1, .int .i64 x.2], .agg #[.int .i64 y.1, .int .i64 y.2]] W fun e w' => e = .returned (.int .i64 (cfT x y)) ∧ ∃ q os', w' = grow (W.drewN q) os' := by
  have hcon := fun W' => AnyG.cmp_Compare_int Try.cmpL x.1 y.1 W'
  change ∀ W', Calls Try.prog 84 _ _ _ at hcon
  unfold cfT
  generalize Lib.compareInt x.1 y.1 = r at hcon ⊢
  go_enter Try.func52, Try.ntmps52
  go_wp2_with (go_at_call 84; refine (hcon _).mono ?_; rintro e w' ⟨rfl, rfl⟩)
  go_ret
  exact ⟨rfl, 0, _, by rw [alloc_eq_grow, alloc_eq_grow, grow_grow]; rfl⟩
theorem s51 (ho : OvSound Try.prog ov) : OvSound Try.prog (ov.add 51 (sortOv Try.prog cII 52 (srtL ltT))) := by
  refine ho.addSort (f := 51) (g := 52) (by kernel_rfl) cII (lt := ltT) (fun w => AnyF.slices_SortFunc_none Try.sortOrd none 0 _ w) (fun blk off cap d w hH hb hs => ?_) (fun l l' h d' => srtL_uniq swoT l l' h d')
  have eg : ∀ args w, (callFunc 52 args).run Try.prog w = .ok (.enter 52 args) w := enters_of Try.func52 (by kernel_rfl) rfl
  have := AnyQ.slices_SortFunc Try.sortOrd 2 Try.isAgg60 Try.sizeOf60 cII.enc (fun _ => rfl) (fun x v hv => by simp at hv; rcases hv with rfl | rfl <;> rfl) cfT (by rw [ltT_eq]; exact swoT) 52 #[] blk off cap d w eg (fun _ _ _ _ x y => closure52 x y _) hH hb hs
  rw [ltT_eq] at this
  exact this
end Go.AM.W

