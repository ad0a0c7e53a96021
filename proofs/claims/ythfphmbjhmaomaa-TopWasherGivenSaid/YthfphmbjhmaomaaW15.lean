/-
  The W seat: the law.
-/
import Derived.Test.YthfphmbjhmaomaaW13
import Derived.Test.YthfphmbjhmaomaaW14
import Derived.Test.YthfphmbjhmaomaaAmTac
namespace Go.AM.W
open Go.Proofs Go.AM
variable {ov : Ov} {A A' : CW}
set_option maxRecDepth 100000
set_option maxHeartbeats 4000000

theorem un52 : Try.prog.underlying 52 = some (.slice 59) := by kernel_rfl
theorem ne69 (xo yo : Operand) (a b c d : Int) : binOp Try.prog .neq 69 xo yo (.agg #[.int .i64 a, .int .i64 b]) (.agg #[.int .i64 c, .int .i64 d]) = some (.bool (!decide ([a, b] = [c, d]))) :=
  (binOp_ints (P := Try.prog) (t := 69) (by kernel_rfl) (by kernel_rfl) (by kernel_rfl) (by kernel_rfl) xo yo [a, b] [c, d] (by kernel_rfl) (by kernel_rfl)).1
theorem keeps_of {n : Nat} {B C : CW} (h : ∀ j, j < n → C.get j = B.get j) : Keeps n B C := h
theorem law4 (hu : Un ov) (hn : ov 4 = none) (h17 : ov 17 = some c17) (h14 : ov 14 = some (con Try.prog F14)) (h15 : ov 15 = some (con Try.prog F15)) (h16 : ov 16 = some (con Try.prog F16)) (h19 : ov 19 = some (con Try.prog F19)) (h20 : ov 20 = some (con Try.prog F20)) (h22 : ov 22 = some (con Try.prog F22)) (h23 : ov 23 = some (con Try.prog F23)) (h24 : ov 24 = some (con Try.prog F24))
    (x y z : Int) {a0 a1 aw : Option Addr} {c0 c1 cw : Nat} {l0 l1 : List (Int × Int)} {w : List Int} (i0 : IsSl Try.prog A cII a0 c0 l0) (i1 : IsSl Try.prog A cII a1 c1 l1) (iw : IsSl Try.prog A (cI .i64) aw cw w) :
    ∃ v A', den Try.prog ov (.func 4) #[.agg #[.int .i64 x, .int .i64 y, .int .i64 z], .agg #[.slice a0 l0.length c0, .slice a1 l1.length c1], .slice aw w.length cw] A = some (v, A') ∧ v = .bool true := by
  refine den_out hn Try.func4 rfl (callOk_sound rfl) ?_
  have hA : Grow A ((A.push (.cells [.int .i64 x, .int .i64 y, .int .i64 z] 51 false false 0)).push (.cells [.slice a0 l0.length c0, .slice a1 l1.length c1] 53 false false 0)) := (by have hgg := Grow.refl A; have hgn := hgg.n; repeat (first | exact hgg | exact Grow.refl _ | apply Grow.push | refine Grow.set ?_ (by first | omega | (simp; omega)) _))
  by_cases q1 : checkLosses x y z = 0
  case neg => simp [Try.f4, u14 h14, Res.lay, q1, u17 h17]; rfl
  by_cases q2 : l0.length ≤ 6
  case neg =>
    have : (6 : Int) < l0.length := by omega
    simp [Try.f4, u14 h14, Res.lay, q1, this, u17 h17]; rfl
  have q2' : ¬ (6 : Int) < l0.length := by omega
  by_cases q3 : l1.length ≤ 6
  case neg =>
    have : (6 : Int) < l1.length := by omega
    simp [Try.f4, u14 h14, Res.lay, q1, q2', this, u17 h17]; rfl
  have q3' : ¬ (6 : Int) < l1.length := by omega
  by_cases q4 : checkOrds l0 = 0
  case neg => simp [Try.f4, u14 h14, u15 h15 (i0.grow hA) (by omega), Res.lay, q1, q2', q3', q4, u17 h17]; rfl
  by_cases q5 : checkOrds l1 = 0
  case neg => simp [Try.f4, u14 h14, u15 h15 (i0.grow hA) (by omega), u15 h15 (i1.grow hA) (by omega), Res.lay, q1, q2', q3', q4, q5, u17 h17]; rfl
  by_cases q6 : w.length ≤ 10
  case neg =>
    have : (10 : Int) < w.length := by omega
    simp [Try.f4, u14 h14, u15 h15 (i0.grow hA) (by omega), u15 h15 (i1.grow hA) (by omega), Res.lay, q1, q2', q3', q4, q5, this, u17 h17]; rfl
  have q6' : ¬ (10 : Int) < w.length := by omega
  by_cases q7 : checkPows x y z w = 0
  case neg => simp [Try.f4, u14 h14, u15 h15 (i0.grow hA) (by omega), u15 h15 (i1.grow hA) (by omega), u16 h16 x y z (iw.grow hA) (by omega), Res.lay, q1, q2', q3', q4, q5, q6', q7, u17 h17]; rfl
  simp [Try.f4, u14 h14, u15 h15 (i0.grow hA) (by omega), u15 h15 (i1.grow hA) (by omega), u16 h16 x y z (iw.grow hA) (by omega), Res.lay, q1, q2', q3', q4, q5, q6', q7]
  rw [region_draw_eq [(0, false, false), (1, false, false), (2, false, false), (4, false, false), (5, false, true), (8, false, false), (3, true, false), (6, false, false), (7, false, false)]]
  rotate_left
  · kernel_rfl
  · kernel_rfl
  simp
  generalize hap : append _ _ _ _ = ap
  obtain ⟨b1, d1, B1, rfl, s1, n1, k1, o1⟩ := app_copy (c := cII) (l := l0) (k := A.n + 1 + 1) (e := 59) (ver := 0) hap (by simp) (by simp) (i0.grow (by have hgg := Grow.refl A; have hgn := hgg.n; repeat (first | exact hgg | exact Grow.refl _ | apply Grow.push | refine Grow.set ?_ (by first | omega | (simp; omega)) _))) un52 un52 Try.sz59 Try.by59 Try.ze59 rfl cII_one (by omega) (by omega)
  have n1' := n1
  simp at n1
  have hg1 : Grow A B1 := ⟨by omega, fun k hk => by rw [k1 k (by omega) (by simp; omega)]; simp [show k ≠ A.n by omega, show k ≠ A.n + 1 by omega, show k ≠ A.n + 1 + 1 by omega]⟩
  have hkp : Keeps (A.n + 1 + 1) (((A.push (.cells [.int .i64 x, .int .i64 y, .int .i64 z] 51 false false 0)).push (.cells [.slice a0 l0.length c0, .slice a1 l1.length c1] 53 false false 0)).push (.cells [] 59 false false 0)) B1 := fun j hj => k1 j (by omega) (by simp; omega)
  have g3 := k1 A.n (by omega) (by simp)
  have g4 := k1 (A.n + 1) (by omega) (by simp)
  simp at g3 g4
  simp [hkp]
  generalize hap : append _ _ _ _ = ap
  obtain ⟨b2, d2, B2, rfl, s2, n2, k2⟩ := app_more (c := cII) (l0 := l0) (l := l1) (k := A.n + 1 + 1) hap rfl (by simp) n1' o1 (i1.grow hg1) un52 un52 Try.sz59 Try.by59 Try.ze59 rfl cII_one (by omega) (by omega)
  have hg2 : Grow A B2 := ⟨by omega, fun k hk => by rw [k2 k (by omega), hg1.old k hk]⟩
  have hn2 : A.n + 1 + 1 + 1 ≤ B2.n := by omega
  rw [← k2 A.n (by omega)] at g3
  rw [← k2 (A.n + 1) (by omega)] at g4
  obtain ⟨ab, hab⟩ : ∃ ab, ab = l0 ++ l1 := ⟨_, rfl⟩
  have hll : l0.length + l1.length = ab.length := by rw [hab]; simp
  rw [hll]
  rw [← hab] at s2
  clear hkp k1 o1
  simp
  generalize hL : xden Try.prog ov none (Code.loop _) _ = L
  have hl : ∃ x' s', L = some (x', s') ∧ ∃ τ B, s' = ⟨τ, 256, B, []⟩ ∧ ((x' = .ret ∧ τ.get 6 = some (.bool true)) ∨ (x' = .exit 0 ∧ (∀ q ∈ ab, 0 ≤ q.2 ∧ 1 ≤ q.1 ∧ q.1 ≤ 60) ∧ Grow B2 B ∧ τ.get 2 = some (.slice aw w.length cw) ∧ τ.get 3 = some (.pointer (some ⟨A.n, 0, none⟩)) ∧ τ.get 4 = some (.pointer (some ⟨A.n + 1, 0, none⟩)) ∧ τ.get 7 = some (.func (.func 18) #[] #[]))) := by
    rw [← hL]
    clear hL
    refine loop_rule (fun m s => ∃ i : Nat, i ≤ ab.length ∧ m = ab.length - i ∧ (∀ q ∈ ab.take i, 0 ≤ q.2 ∧ 1 ≤ q.1 ∧ q.1 ≤ 60) ∧ ∃ τ B, s = ⟨τ, 256, B, []⟩ ∧ Grow B2 B ∧ τ.get 2 = some (.slice aw w.length cw) ∧ τ.get 3 = some (.pointer (some ⟨A.n, 0, none⟩)) ∧ τ.get 4 = some (.pointer (some ⟨A.n + 1, 0, none⟩)) ∧ τ.get 7 = some (.func (.func 18) #[] #[]) ∧
      τ.get 77 = some (.slice b2 ab.length d2) ∧ τ.get 78 = some (.int .i64 ab.length) ∧ τ.get 79 = some (.int .i64 i)) ?_ ab.length _ ⟨0, by omega, by omega, by simp, _, _, rfl, Grow.refl _, by simp, by simp, by simp, by simp, by simp, by simp, by simp⟩
    rintro m s ⟨i, hi, rfl, hgood, τ, B, rfl, hg, t2, t3, t4, t7, t77, t78, t79⟩
    by_cases hlt : i < ab.length
    · skip
      obtain ⟨k, o, sp, rfl, hr⟩ := (s2.grow hg).at hlt
      have hc := hr.cells i hlt
      have hd : ab.drop i = ab[i] :: ab.drop (i + 1) := by simp
      have hw : IntKind.i64.wrap ((i : Int) + 1) = ((i + 1 : Nat) : Int) := by rw [wrap64_of (by omega)]; omega
      have hc0 := hr.cell i hlt 0 (by decide)
      simp at hc hc0
      have hkb : k < _ := hr.lt
      by_cases r1 : ab[i].2 < 0
      · simp [t77, t78, t79, hlt, hc, r1, u17 h17]
        exact ⟨_, _, rfl, .inl ⟨rfl, by simp⟩⟩
      · by_cases r2 : 60 < ab[i].1
        · simp [t77, t78, t79, hlt, hc, r1, r2, u17 h17]
          exact ⟨_, _, rfl, .inl ⟨rfl, by simp⟩⟩
        · by_cases r3 : ab[i].1 < 1
          · simp [t77, t78, t79, hlt, hc, r1, r2, r3, u17 h17]
            exact ⟨_, _, rfl, .inl ⟨rfl, by simp⟩⟩
          · simp [t77, t78, t79, hlt, hc, r1, r2, r3, hw]
            refine ⟨_, by omega, i + 1, by omega, rfl, fun q hq => ?_, _, _, rfl, (by have hgg := hg; have hgn := hgg.n; repeat (first | exact hgg | exact Grow.refl _ | apply Grow.push | refine Grow.set ?_ (by first | omega | (simp; omega)) _)), by simp [t2], by simp [t3], by simp [t4], by simp [t7], by simp [t77], by simp [t78], by simp⟩
            rw [List.take_succ_eq_append_getElem hlt] at hq
            rcases List.mem_append.1 hq with hq | hq
            · exact hgood q hq
            · simp only [List.mem_singleton] at hq
              subst hq
              omega
    · have hil : i = ab.length := by omega
      subst hil
      rw [List.take_length] at hgood
      simp [t77, t78, t79, hlt]
      exact ⟨_, _, rfl, .inr ⟨rfl, hgood, hg, by simp [t2], by simp [t3], by simp [t4], by simp [t7]⟩⟩
  obtain ⟨x', s', rfl, τ, B3, rfl, ⟨rfl, t6⟩ | ⟨rfl, hgood, hg3, t2, t3, t4, t7⟩⟩ := hl
  · simp [t6]
    rfl
  rw [hab] at hgood
  have good : Good l0 l1 := ⟨q2, q3, q4, q5, hgood⟩
  have hgA3 := hg2.trans hg3
  rw [← hg3.old A.n (by omega)] at g3
  rw [← hg3.old (A.n + 1) (by omega)] at g4
  have hn3 : A.n + 1 + 1 + 1 ≤ B3.n := by have := hg3.n; omega
  clear s1 s2 k2 n2 n1 n1' hg1 hg2 hg3 hll hab
  simp
  rw [region_draw_eq [(0, false, false), (1, false, false), (2, false, false), (4, false, false), (5, false, false), (6, false, true), (3, true, false), (7, false, false), (8, false, false), (9, false, false), (10, false, false), (11, false, false), (12, false, false), (13, false, false)]]
  rotate_left
  · kernel_rfl
  · kernel_rfl
  obtain ⟨v4, B4, m4, a4, c4', rfl, s4, hg4⟩ := m18 (A := B3) hu (i0.grow hgA3) (by omega)
  obtain ⟨v5, B5, m5, a5, c5', rfl, s5, hg5⟩ := m18 (A := B4) hu (i1.grow (hgA3.trans hg4)) (by omega)
  have m6 := u19 (A := B5) h19 (s4.grow hg5) s5 ⟨by omega, by omega⟩
  have kp4 : Keeps B3.n B3 B4 := fun k hk => hg4.old k hk
  have hn4 : A.n + 1 < B3.n := by omega
  by_cases he : mergedE l0 l1 = 0
  case neg =>
    have he := good.err.resolve_left he
    have hmr : mergedR l0 l1 = .v (.tuple #[.slice none 0 0, .int .i64 4]) := by unfold mergedR; rw [he]; rfl
    rw [hmr] at m6
    simp [t2, t3, t4, t7, cellAt_eq, cellsAt_eq, g3, g4, m4, m5, m6, Res.lay, kp4, hn4, u17 h17]
    rfl
  have hmr : mergedR l0 l1 = accR ((mergedL l0 l1).flatMap cII.enc) 60 2 (mergedL l0 l1).length (some ([], [.int .i64 0])) := by unfold mergedR; rw [if_pos he]
  obtain ⟨a6, c6, B6, hlay, s6, hg6, _⟩ := accR_lay (P := Try.prog) (A := B5) (c := cII) Try.sz60 cII_one (some ([], [.int .i64 0])) hmr
  rw [hlay] at m6
  have hgA6 := ((hgA3.trans hg4).trans hg5).trans hg6
  have hg36 := (hg4.trans hg5).trans hg6
  have g36 := (hg36.old A.n (by omega)).trans g3
  have g46 := (hg36.old (A.n + 1) (by omega)).trans g4
  have hn6 : A.n + 1 + 1 + 1 ≤ B6.n := by have := hg36.n; omega
  have hml := good.len
  generalize hm : mergedL l0 l1 = ml at m6 s6 hml
  simp [t2, t3, t4, t7, cellAt_eq, cellsAt_eq, g3, g4, m4, m5, m6, Res.wr, kp4, hn4]
  generalize hap : append _ _ _ _ = ap
  obtain ⟨b7, d7, B7, rfl, s7, n7, k7, _⟩ := app_copy (c := cII) (l := ml) (k := B6.n) (e := 60) (ver := 0) hap (by simp) (by simp) (s6.grow (Grow.push1 _ _)) un57 un57 Try.sz60 Try.by60 Try.ze60 rfl cII_one (by omega) (by omega)
  simp at n7
  have hg7 : Grow B6 B7 := ⟨by omega, fun k hk => by rw [k7 k (by omega) (by simp; omega)]; simp [show k ≠ B6.n by omega]⟩
  have m20 := u20 (A := B7) h20 1000 0 1000 0 62 s7 (by omega)
  have hre : rampE 1000 0 1000 0 ml 62 = 0 := by rw [← hm]; exact good.ramp he
  have hrr : rampR 1000 0 1000 0 ml 62 = accR ((rampO l0 l1).flatMap (cI .i64).enc) 3 1 (rampO l0 l1).length (some ([], [.int .i64 0])) := by
    unfold rampR
    rw [if_pos hre, rampO_len, rampO, hm]
    rfl
  obtain ⟨a8, c8, B8, hlay8, s8, hg8, _⟩ := accR_lay (P := Try.prog) (A := B7) (c := cI .i64) Try.sz3 (fun _ => rfl) (some ([], [.int .i64 0])) hrr
  rw [hlay8] at m20
  have hro := rampO_len (a := l0) (b := l1)
  simp only [Res.wr, hro] at m20
  have hg68 := hg7.trans hg8
  have g38 := (hg68.old A.n (by omega)).trans g36
  have g48 := (hg68.old (A.n + 1) (by omega)).trans g46
  have hgA8 := hgA6.trans hg68
  have s68 := s6.grow hg68
  have hn8 : A.n + 1 + 1 + 1 ≤ B8.n := by have := hg68.n; omega
  simp [m20]
  generalize hL : xden Try.prog ov none (Code.loop _) _ = L
  have hl : ∃ x' s', L = some (x', s') ∧ ∃ τ B, s' = ⟨τ, 256, B, []⟩ ∧ x' = .exit 2 ∧ Grow B8 B ∧ τ.get 2 = some (.slice aw w.length cw) ∧ τ.get 3 = some (.pointer (some ⟨A.n, 0, none⟩)) ∧ τ.get 12 = some (.slice a8 62 c8) := by
    rw [← hL]
    clear hL
    refine loop_rule (fun m s => ∃ i : Nat, i ≤ ml.length ∧ m = ml.length - i ∧ ∃ τ B, s = ⟨τ, 256, B, []⟩ ∧ Grow B8 B ∧ τ.get 2 = some (.slice aw w.length cw) ∧ τ.get 3 = some (.pointer (some ⟨A.n, 0, none⟩)) ∧ τ.get 4 = some (.pointer (some ⟨A.n + 1, 0, none⟩)) ∧ τ.get 12 = some (.slice a8 62 c8) ∧
      τ.get 132 = some (.slice a6 ml.length c6) ∧ τ.get 133 = some (.int .i64 ml.length) ∧ τ.get 134 = some (.int .i64 i)) ?_ ml.length _ ⟨0, by omega, by omega, _, _, rfl, Grow.refl _, by simp [t2], by simp [t3], by simp [t4], by simp, by simp, by simp, by simp⟩
    rintro m s ⟨i, hi, rfl, τ, B, rfl, hg, t2, t3, t4, t12, t132, t133, t134⟩
    by_cases hlt : i < ml.length
    · skip
      obtain ⟨k, o, sp, rfl, hr⟩ := (s68.grow hg).at hlt
      have hc := hr.cells i hlt
      have hd : ml.drop i = ml[i] :: ml.drop (i + 1) := by simp
      have hw : IntKind.i64.wrap ((i : Int) + 1) = ((i + 1 : Nat) : Int) := by rw [wrap64_of (by omega)]; omega
      have hc0 := hr.cell i hlt 0 (by decide)
      simp at hc hc0
      have hkb : k < _ := hr.lt
      have hy : ml[i] ∈ mergedL l0 l1 := by rw [hm]; exact List.getElem_mem hlt
      have hy1 := good.mem he hy
      obtain ⟨hyi, hy2⟩ := good.hit he hy
      obtain ⟨k8, o8, sp8, rfl, hr8⟩ := (s8.grow hg).at hyi
      have hc8 := hr8.cell _ hyi 0 (by decide)
      simp at hc8
      have hk8 : k8 < B.n := hr8.lt
      have hnB : A.n + 1 < B.n := by have := hg.n; omega
      have g4B := (hg.old (A.n + 1) (by omega)).trans g48
      have ne1 : A.n + 1 ≠ B.n := by omega
      have ne2 : k8 ≠ B.n := by omega
      have r1 : ¬ ml[i].1 < 0 := by omega
      have r2 : ¬ (61 : Int) < ml[i].1 := by omega
      have hgB := hgA8.trans hg
      rw [hy2, cellAt_eq] at hc8
      have hsum : ml[i].2 = asked l0 ml[i].1 + asked l1 ml[i].1 := congrArg Prod.snd hy1.1
      have wsum : IntKind.i64.wrap (asked l0 ml[i].1 + asked l1 ml[i].1) = asked l0 ml[i].1 + asked l1 ml[i].1 := wrap64_of (by omega)
      have j1 : 0 ≤ ml[i].1 := by omega
      have j2 : ml[i].1 < 62 := by omega
      have hgX : Grow A ((B.push (.cells [.int .i64 0, .int .i64 0] 60 false false 0)).set B.n (.cells [.int .i64 ml[i].1, .int .i64 ml[i].2] 60 false false 1)) := (by have hgg := hgB; have hgn := hgg.n; repeat (first | exact hgg | exact Grow.refl _ | apply Grow.push | refine Grow.set ?_ (by first | omega | (simp; omega)) _))
      simp [t132, t133, t134, hlt, hc]
      rw [region_draw_eq [(0, false, false), (1, false, false), (2, false, false), (3, false, false), (4, false, false), (5, false, false), (6, false, false), (7, false, false), (8, false, false), (9, false, false), (10, false, false), (11, false, true), (12, false, false), (13, false, true), (14, false, false), (15, false, false), (16, false, false), (17, false, false), (19, false, false), (20, false, true), (21, false, false), (22, false, true), (18, true, false), (23, true, false), (24, false, false), (25, false, false), (26, false, false)]]
      rotate_left
      · kernel_rfl
      · kernel_rfl
      have hk8' : k8 < B.n + 1 := by omega
      have hnB' : A.n < B.n := by omega
      simp [t4, t12, hc8, hk8, hk8', hnB, hnB', cellAt_eq, g4B, ne1, ne2, r1, r2, j1, j2, asked21 hu (i0.grow hgX) (show l0.length < 1000 by omega), asked21 hu (i1.grow hgX) (show l1.length < 1000 by omega), wsum, t134, hw]
      exact ⟨_, by omega, i + 1, by omega, rfl, _, _, rfl, (by have hgg := hg; have hgn := hgg.n; repeat (first | exact hgg | exact Grow.refl _ | apply Grow.push | refine Grow.set ?_ (by first | omega | (simp; omega)) _)), by simp [t2], by simp [t3], by simp [t4], by simp [t12], by simp [t132], by simp [t133], by simp⟩
    · simp [t132, t133, t134, hlt]
      exact ⟨_, _, rfl, rfl, hg, by simp [t2], by simp [t3], by simp [t12]⟩
  obtain ⟨x', s', rfl, τ, B9, rfl, rfl, hg9, t2, t3, t12⟩ := hl
  have g39 := (hg9.old A.n (by omega)).trans g38
  have s9 := s8.grow hg9
  have hn9 : A.n < B9.n := by have := hg9.n; omega
  generalize hr : rampO l0 l1 = r at s9 hro
  have hrb : ∀ p ∈ r, 0 ≤ p ∧ p ≤ 1000 := fun p hp => good.bd he (by rw [hr]; exact hp)
  simp
  rw [region_draw_eq [(0, false, true), (1, false, false), (2, false, false), (8, false, false), (3, true, false), (4, false, false), (5, false, false), (6, false, false), (7, false, false), (9, false, false), (10, false, false)]]
  rotate_left
  · kernel_rfl
  · kernel_rfl
  simp [t3, t12, cellsAt_eq, g39, hn9]
  generalize hap : append _ _ _ _ = ap
  rw [← hro] at hap
  obtain ⟨b10, d10, B10, rfl, s10, n10, k10, _⟩ := app_copy (c := cI .i64) (l := r) (k := B9.n) (e := 3) (ver := 0) hap (by simp) (by simp) (s9.grow (by have hgg := Grow.refl B9; have hgn := hgg.n; repeat (first | exact hgg | exact Grow.refl _ | apply Grow.push | refine Grow.set ?_ (by first | omega | (simp; omega)) _))) un28 un28 Try.sz3 Try.by3 Try.ze3 rfl (fun _ => rfl) (by omega) (by omega)
  simp at n10
  have hg10 : Grow B9 B10 := ⟨by omega, fun k hk => by rw [k10 k (by omega) (by simp; omega)]; simp [show k ≠ B9.n by omega, show k ≠ B9.n + 1 by omega]⟩
  have g16 := k10 (B9.n + 1) (by omega) (by simp)
  simp at g16
  have kp10 : Keeps B9.n ((B9.push (.cells [] 3 false false 0)).push (.cells [.int .i64 0, .int .i64 0] 69 false false 0)) B10 := fun j hj => k10 j (by omega) (by simp; omega)
  have hbe : balE x y z r = 0 := balE_zero.2 ⟨q1, by omega, errs_of hrb⟩
  have hbr : balR x y z r = .tuple #[.agg #[.int .i64 (sum2 (delLo x y z) 0 r), .int .i64 (sum2 (delHi x y z) 0 r)], .int .i64 0] := by unfold balR; rw [if_pos hbe]
  simp [t12, kp10, u22 h22 x y z s10 (by omega), Res.lay, hbr, g16]
  generalize hL : xden Try.prog ov none (Code.loop _) _ = L
  have s11 : IsSl Try.prog (B10.set (B9.n + 1) (.cells [.int .i64 (sum2 (delLo x y z) 0 r), .int .i64 (sum2 (delHi x y z) 0 r)] 69 false false 1)) (cI .i64) a8 c8 r := s9.grow ⟨by simp; omega, fun k hk => by rw [CW.get_set_ne _ _ (by omega), hg10.old k hk]⟩
  generalize hB11 : B10.set (B9.n + 1) (.cells [.int .i64 (sum2 (delLo x y z) 0 r), .int .i64 (sum2 (delHi x y z) 0 r)] 69 false false 1) = B11 at hL s11
  have hn11 : B11.n = B10.n := by rw [← hB11]; simp
  have g16b : B11.get (B9.n + 1) = .cells [.int .i64 (sum2 (delLo x y z) 0 r), .int .i64 (sum2 (delHi x y z) 0 r)] 69 false false 1 := by rw [← hB11, CW.get_set_self]
  have g311 : B11.get A.n = .cells [.int .i64 x, .int .i64 y, .int .i64 z] 51 false false 0 := by rw [← hB11, CW.get_set_ne _ _ (by omega), hg10.old _ hn9, g39]
  have hgA11 : Grow A B11 := by
    refine (hgA8.trans hg9).trans ⟨by omega, fun k hk => ?_⟩
    rw [← hB11, CW.get_set_ne _ _ (by omega), hg10.old k hk]
  have hl : ∃ x' s', L = some (x', s') ∧ ∃ τ B, s' = ⟨τ, 256, B, []⟩ ∧ x' = .exit 4 ∧ Grow B11 B ∧ τ.get 2 = some (.slice aw w.length cw) ∧ τ.get 3 = some (.pointer (some ⟨A.n, 0, none⟩)) ∧ τ.get 16 = some (.pointer (some ⟨B9.n + 1, 0, none⟩)) ∧ τ.get 18 = some (.int .i64 (sum2 (delLo x y z) 0 r)) ∧ τ.get 19 = some (.int .i64 (sum2 (delHi x y z) 0 r)) := by
    rw [← hL]
    clear hL
    refine loop_rule (fun m s => ∃ (i : Nat) (lo hi : Int), i ≤ r.length ∧ m = r.length - i ∧ sum2 (delLo x y z) lo (r.drop i) = sum2 (delLo x y z) 0 r ∧ sum2 (delHi x y z) hi (r.drop i) = sum2 (delHi x y z) 0 r ∧ 0 ≤ lo ∧ lo ≤ 1000 * i ∧ 0 ≤ hi ∧ hi ≤ 1000 * i ∧ ∃ τ B, s = ⟨τ, 256, B, []⟩ ∧ Grow B11 B ∧ τ.get 2 = some (.slice aw w.length cw) ∧ τ.get 3 = some (.pointer (some ⟨A.n, 0, none⟩)) ∧ τ.get 16 = some (.pointer (some ⟨B9.n + 1, 0, none⟩)) ∧
      τ.get 176 = some (.slice a8 62 c8) ∧ τ.get 177 = some (.int .i64 62) ∧ τ.get 178 = some (.int .i64 i) ∧ τ.get 18 = some (.int .i64 lo) ∧ τ.get 19 = some (.int .i64 hi)) ?_ r.length _ ⟨0, 0, 0, by omega, by omega, rfl, rfl, by omega, by omega, by omega, by omega, _, _, rfl, Grow.refl _, by simp [t2], by simp [t3], by simp, by simp, by simp, by simp, by simp, by simp⟩
    rintro m s ⟨i, lo, hi, hi1, rfl, hf1, hf2, hlo, hlo2, hhi, hhi2, τ, B, rfl, hg, t2, t3, t16, t176, t177, t178, t18, t19⟩
    by_cases hlt : i < r.length
    · skip
      obtain ⟨k, o, sp, rfl, hr⟩ := (s11.grow hg).at hlt
      have hc := hr.cells i hlt
      have hd : r.drop i = r[i] :: r.drop (i + 1) := by simp
      have hw : IntKind.i64.wrap ((i : Int) + 1) = ((i + 1 : Nat) : Int) := by rw [wrap64_of (by omega)]; omega
      have hc0 := hr.cell i hlt 0 (by decide)
      simp at hc hc0
      have hkb : k < _ := hr.lt
      have hlt' : (i : Int) < 62 := by omega
      rw [sum2_step _ _ _ _ hlt] at hf1 hf2
      have hP := hrb r[i] (List.getElem_mem hlt)
      have hXYZ := checkLosses_zero.1 q1
      have hcl : checkLoss x y z r[i] = 0 := checkLoss_zero.2 ⟨hXYZ.1, hXYZ.2.1, hXYZ.2.2, hP⟩
      have hlb := loss_bd hXYZ.1 hXYZ.2.1 hXYZ.2.2 hP
      have hd1 : delLo x y z r[i] = max 0 (r[i] - lossHi x y z r[i]) := rfl
      have hd2 : delHi x y z r[i] = max 0 (r[i] - lossLo x y z r[i]) := rfl
      have g3B := (hg.old A.n (by omega)).trans g311
      have ne1 : A.n ≠ B.n := by have := hg.n; omega
      have w1 : IntKind.i64.wrap (r[i] - lossHi x y z r[i]) = r[i] - lossHi x y z r[i] := wrap64_of (by omega)
      have w2 : IntKind.i64.wrap (r[i] - lossLo x y z r[i]) = r[i] - lossLo x y z r[i] := wrap64_of (by omega)
      have w3 : IntKind.i64.wrap (lo + max 0 (r[i] - lossHi x y z r[i])) = lo + max 0 (r[i] - lossHi x y z r[i]) := wrap64_of (by omega)
      have w4 : IntKind.i64.wrap (hi + max 0 (r[i] - lossLo x y z r[i])) = hi + max 0 (r[i] - lossLo x y z r[i]) := wrap64_of (by omega)
      simp [t3, t18, t19, t176, t177, t178, hlt', hc0, cellsAt_eq, g3B, u23 h23 x y z r[i], Res.lay, lossR, hcl]
      rw [region_draw_eq [(0, false, false), (1, false, false), (2, false, false), (3, false, false), (4, false, false), (5, false, false), (6, false, false), (7, false, false), (8, false, false), (9, false, false), (10, false, false), (11, false, false), (12, false, false), (13, false, false), (14, false, false), (15, false, false)]]
      rotate_left
      · kernel_rfl
      · kernel_rfl
      simp [t18, t19, w1, w2, w3, w4, t178, hw]
      exact ⟨_, by omega, i + 1, _, _, by omega, rfl, hf1, hf2, by omega, by omega, by omega, by omega, _, _, rfl, (by have hgg := hg; have hgn := hgg.n; repeat (first | exact hgg | exact Grow.refl _ | apply Grow.push | refine Grow.set ?_ (by first | omega | (simp; omega)) _)), by simp [t2], by simp [t3], by simp [t16], by simp [t176], by simp [t177], by simp, by simp [hd1], by simp [hd2]⟩
    · have hil : i = r.length := by omega
      subst hil
      have hnl : ¬ (r.length : Int) < 62 := by omega
      rw [List.drop_length, sum2] at hf1 hf2
      simp [t177, t178, hnl]
      exact ⟨_, _, rfl, rfl, hg, by simp [t2], by simp [t3], by simp [t16], by simp [t18, hf1], by simp [t19, hf2]⟩
  obtain ⟨x', s', rfl, τ, B12, rfl, rfl, hg12, t2, t3, t16, t18, t19⟩ := hl
  have g16c := (hg12.old (B9.n + 1) (by omega)).trans g16b
  have g312 := (hg12.old A.n (by omega)).trans g311
  have hgA12 := hgA11.trans hg12
  have hn12 : A.n < B12.n := by have := hgA12.n; have := hg12.n; omega
  have hpe : firstE (errs w) = 0 := by
    unfold checkPows at q7
    rw [if_neg (by simp [q1]), if_neg (by omega)] at q7
    exact q7
  simp [t2, t16, t18, t19, cellsAt_eq, g16c, ne69]
  generalize hL : xden Try.prog ov none (Code.loop _) _ = L
  have hl : ∃ x' s', L = some (x', s') ∧ ∃ τ B, s' = ⟨τ, 256, B, []⟩ ∧ x' = .exit 6 ∧ Grow B12 B ∧ τ.get 3 = some (.pointer (some ⟨A.n, 0, none⟩)) ∧ ∃ (ps : List Int) (sm : Int) (a' : Option Addr) (c' : Nat), (∀ p ∈ ps, 0 ≤ p ∧ p ≤ 1000) ∧ ps.length ≤ 10 ∧ sm ≤ sum2 (delLo x y z) 0 ps ∧ τ.get 25 = some (.int .i64 sm) ∧ τ.get 24 = some (.slice a' ps.length c') ∧ IsSl Try.prog B (cI .i64) a' c' ps := by
    rw [← hL]
    clear hL
    refine loop_rule (fun m s => ∃ (i : Nat) (ps : List Int) (sm : Int), i ≤ w.length ∧ m = w.length - i ∧ (∀ p ∈ ps, 0 ≤ p ∧ p ≤ 1000) ∧ ps.length ≤ i ∧ sm ≤ sum2 (delLo x y z) 0 ps ∧ 0 ≤ sm ∧ sm ≤ 1000 * i ∧ ∃ τ B, s = ⟨τ, 256, B, []⟩ ∧ Grow B12 B ∧ τ.get 3 = some (.pointer (some ⟨A.n, 0, none⟩)) ∧
      τ.get 210 = some (.slice aw w.length cw) ∧ τ.get 211 = some (.int .i64 w.length) ∧ τ.get 212 = some (.int .i64 i) ∧ τ.get 25 = some (.int .i64 sm) ∧ ∃ a' c', τ.get 24 = some (.slice a' ps.length c') ∧ Acc B B12.n a' ps.length c' (ps.flatMap (cI .i64).enc) 3 1) ?_ w.length _ ⟨0, [], 0, by omega, by omega, by simp, by simp, by simp [sum2], by omega, by omega, _, _, rfl, Grow.refl _, by simp [t3], by simp [t2], by simp [t2], by simp, by simp, none, 0, by simp, Acc.nil _ _ _ _⟩
    rintro m s ⟨i, ps, sm, hi1, rfl, hps, hpl, hsm, hs0, hs1, τ, B, rfl, hg, t3, t210, t211, t212, t25, a', c', t24, hacc⟩
    by_cases hlt : i < w.length
    · skip
      obtain ⟨k, o, sp, rfl, hr⟩ := (iw.grow (hgA12.trans hg)).at hlt
      have hc := hr.cells i hlt
      have hd : w.drop i = w[i] :: w.drop (i + 1) := by simp
      have hw : IntKind.i64.wrap ((i : Int) + 1) = ((i + 1 : Nat) : Int) := by rw [wrap64_of (by omega)]; omega
      have hc0 := hr.cell i hlt 0 (by decide)
      simp at hc hc0
      have hkb : k < _ := hr.lt
      have hgn := hg.n
      have hP := errs_ok hpe hlt
      have g3B := (hg.old A.n hn12).trans g312
      have ws : IntKind.i64.wrap (sm + w[i]) = sm + w[i] := wrap64_of (by omega)
      have m24 := u24 (A := B) h24 x y z w[i]
      rcases needed_spec (x := x) (y := y) (z := z) q1 hP with hne | ⟨mm, hne, hm1, hm2, hm3⟩
      · rw [hne] at m24
        simp [t3, t210, t211, t212, hlt, hc0, cellsAt_eq, g3B, m24, Res.lay, hw]
        exact ⟨_, by omega, i + 1, ps, sm, by omega, rfl, hps, by omega, hsm, hs0, by omega, _, _, rfl, hg, by simp [t3], by simp [t210], by simp [t211], by simp, by simp [t25], a', c', by simp [t24], hacc⟩
      · rw [hne] at m24
        have hm4 : ¬ mm < w[i] := by omega
        simp [t3, t24, t25, t210, t211, t212, hlt, hc0, cellsAt_eq, g3B, m24, Res.lay, hm4]
        generalize hap : append _ _ _ _ = ap
        obtain ⟨B', rfl, hacc', hn', hk', hgr⟩ := acc_app hap hacc un28 un28 Try.sz3 Try.by3 Try.ze3 rfl (by omega) rfl (by omega) rfl (by omega) rfl (Nat.le_refl _) (by omega) (by omega) (fun _ _ _ => rfl)
        simp [t25, t212, ws, hw]
        refine ⟨_, by omega, i + 1, ps ++ [mm], sm + w[i], by omega, rfl, fun q hq => ?_, by simp; omega, by rw [sum2_add]; omega, by omega, by omega, _, _, rfl, hgr B12 (by omega) (by omega) hg, by simp [t3], by simp [t210], by simp [t211], by simp, by simp, _, _, by simp; exact ⟨rfl, rfl⟩, by simpa using hacc'⟩
        rcases List.mem_append.1 hq with hq | hq
        · exact hps q hq
        · simp only [List.mem_singleton] at hq; subst hq; omega
    · have hil : i = w.length := by omega
      subst hil
      simp [t211, t212, hlt]
      exact ⟨_, _, rfl, rfl, hg, by simp [t3], ps, sm, a', c', hps, by omega, hsm, by simp [t25], by simp [t24], (hacc.isSl Try.sz3).1⟩
  obtain ⟨x', s', rfl, τ, B13, rfl, rfl, hg13, t3, ps, sm, a13, c13, hps, hpl, hsm, t25, t24, s13⟩ := hl
  have g313 := (hg13.old A.n hn12).trans g312
  have hbe2 : balE x y z ps = 0 := balE_zero.2 ⟨q1, by omega, errs_of hps⟩
  have hbr2 : balR x y z ps = .tuple #[.agg #[.int .i64 (sum2 (delLo x y z) 0 ps), .int .i64 (sum2 (delHi x y z) 0 ps)], .int .i64 0] := by unfold balR; rw [if_pos hbe2]
  simp [t3, t24, t25, cellsAt_eq, g313, u22 h22 x y z s13 (by omega), Res.lay, hbr2, hsm, u17 h17]
  rfl
end Go.AM.W

