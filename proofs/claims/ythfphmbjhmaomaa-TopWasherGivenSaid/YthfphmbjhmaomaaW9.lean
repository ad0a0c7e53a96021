/-
  The W seat: the document's functions.
-/
import Derived.Test.YthfphmbjhmaomaaW7
namespace Go.AM.W
open Go.Proofs Go.AM
variable {ov : Ov} {A A' : CW}
set_option maxRecDepth 100000

theorem when71 (hu : Un ov) (b : Bool) (e : Int) : den Try.prog ov (.func 71) #[.bool b, .int .i64 e] A = some (.int .i64 (if b then e else 0), A) := by
  refine den_func (hu 71 (by decide)) Try.func71 rfl (callOk_sound rfl) ?_
  cases b <;> simp [Try.f71]
theorem range25 (hu : Un ov) (n lo hi : Int) : den Try.prog ov (.func 25) #[.int .i64 n, .int .i64 lo, .int .i64 hi] A = some (.int .i64 (withinE n lo hi), A) := by
  refine den_func (hu 25 (by decide)) Try.func25 rfl (callOk_sound rfl) ?_
  by_cases h : n < lo <;> simp [Try.f25, h, when71 hu, withinE]
theorem first28 (hu : Un ov) (A : CW) (a : Option Addr) (cap : Nat) (l : List Int) (hlen : l.length < 2 ^ 47) (h : IsSl Try.prog A (cI .i64) a cap l) : den Try.prog ov (.func 28) #[.slice a l.length cap] A = some (.int .i64 (firstE l), A) := by
  refine den_func (hu 28 (by decide)) Try.func28 rfl (callOk_sound rfl) ?_
  simp [Try.f28]
  generalize hL : xden Try.prog ov none (Code.loop _) _ = L
  have hl : ∃ x s', L = some (x, s') ∧ ∃ τ, s' = ⟨τ, 19, A, []⟩ ∧ ((x = .exit 0 ∧ firstE l = 0) ∨ (x = .ret ∧ τ.get 2 = some (.int .i64 (firstE l)))) := by
    rw [← hL]
    clear hL
    refine loop_rule (fun m s => ∃ i : Nat, i ≤ l.length ∧ m = l.length - i ∧ firstE (l.drop i) = firstE l ∧ ∃ τ, s = ⟨τ, 19, A, []⟩ ∧ τ.get 0 = some (.slice a l.length cap) ∧ τ.get 3 = some (.int .i64 i)) ?_ l.length _ ⟨0, by omega, by omega, rfl, _, rfl, by simp, by simp⟩
    rintro m s ⟨i, hi, rfl, hf, τ, rfl, h0, h3⟩
    by_cases hlt : i < l.length
    · obtain ⟨k, o, sp, rfl, hr⟩ := h.at hlt
      have hc := hr.cell i hlt 0 (by decide)
      have hd : l.drop i = l[i] :: l.drop (i + 1) := by simp
      rw [hd] at hf
      have hw : IntKind.i64.wrap ((i : Int) + 1) = ((i + 1 : Nat) : Int) := by rw [wrap64_of (by omega)]; omega
      simp at hc
      by_cases he : l[i] = 0
      · simp [h0, h3, hlt, hc, he, hw]
        exact ⟨_, by omega, i + 1, by omega, rfl, by simpa [firstE, he] using hf, _, rfl, by simp [h0], by simp⟩
      · simp [h0, h3, hlt, hc, he, hw]
        exact ⟨_, rfl, .inr ⟨rfl, by simp [← hf, firstE, he]⟩⟩
    · have : l.drop i = [] := List.drop_eq_nil_of_le (by omega)
      rw [this] at hf
      simp [h0, h3, hlt]
      exact ⟨_, rfl, .inl ⟨rfl, hf.symm⟩⟩
  obtain ⟨x, s', rfl, τ, rfl, ⟨rfl, h1⟩ | ⟨rfl, h1⟩⟩ := hl
  · simp [h1]
  · simp [h1]
theorem first28n (hu : Un ov) {k n : Nat} {vs : List Value} (hk : k = A.n) (hn : n = vs.length) (hv : intV vs = true) (hl : vs.length < 1000) :
    den Try.prog ov (.func 28) #[.slice (some ⟨k, 0, none⟩) n n] (A.push (.cells vs 3 false false 0)) = some (.int .i64 (firstV vs), A.push (.cells vs 3 false false 0)) :=
  first_at Try.sz3 (fun A a cap l => first28 hu A a cap l) hk hn hv hl

theorem b14 (hu : Un ov) (hn : ov 14 = none) (x y z : Int) :
    ∃ v A', den Try.prog ov (.func 14) #[.agg #[.int .i64 x, .int .i64 y, .int .i64 z]] A = some (v, A') ∧ ResIs A A' v (.v (.int .i64 (checkLosses x y z))) ∧ Grow A A' := by
  refine den_out hn Try.func14 rfl (callOk_sound rfl) ?_
  simp [Try.f14]
  rw [region_draw_eq [(0, false, false), (1, false, false), (3, false, false), (4, false, true), (6, false, false), (7, false, true), (2, true, false), (5, true, false), (8, false, false), (9, false, false), (10, false, false), (11, false, false)]]
  rotate_left
  · kernel_rfl
  · kernel_rfl
  simp [range25 hu, first28n hu]
  exact ⟨by simp [ResIs, checkLosses, firstE, firstV], (by have hgg := Grow.refl A; have hgn := hgg.n; repeat (first | exact hgg | exact Grow.refl _ | apply Grow.push | refine Grow.set ?_ (by first | omega | (simp; omega)) _))⟩
def F14 : List DT → Option Res
  | [.f (.agg ⟨[.int .i64 x, .int .i64 y, .int .i64 z]⟩)] => some (.v (.int .i64 (checkLosses x y z)))
  | _ => none
theorem s14 (ho : OvSound Try.prog ov) (hu : Un ov) (hn : ov 14 = none) : OvSound Try.prog (ov.add 14 (con Try.prog F14)) := ho.addF Try.mixed Try.okProg F14 fun args A ds r hg hds hF => by
  unfold F14 at hF
  split at hF
  case h_2 => cases hF
  cases hF
  obtain ⟨v0, rfl, h0⟩ := args1 hds
  obtain rfl := decV_f h0
  obtain ⟨v, A1, e, hr, hgr⟩ := b14 hu hn _ _ _
  exact ⟨v, A1, e, hgr, hr⟩
theorem u14 (h : ov 14 = some (con Try.prog F14)) (x y z : Int)  : den Try.prog ov (.func 14) #[(.agg #[.int .i64 x, .int .i64 y, .int .i64 z])] A = some (Res.lay A (.v (.int .i64 (checkLosses x y z)))) := by
  rw [den_ov h]
  refine con_eq gW (ds := [.f (.agg #[.int .i64 x, .int .i64 y, .int .i64 z])]) (by simp [mapO, decV_flat]) (by simp [F14]) ?_
  simp [Res.ok]

def checkPows (x y z : Int) (l : List Int) : Int := if checkLosses x y z ≠ 0 then checkLosses x y z else if 256 < l.length then 5 else firstE (errs l)
theorem b16 (hu : Un ov) (hn : ov 16 = none) (h14 : ov 14 = some (con Try.prog F14)) (x y z : Int) {a : Option Addr} {c : Nat} {l : List Int} (h : IsSl Try.prog A (cI .i64) a c l) (hlen : l.length < 1000) :
    ∃ v A', den Try.prog ov (.func 16) #[.agg #[.int .i64 x, .int .i64 y, .int .i64 z], .slice a l.length c] A = some (v, A') ∧ ResIs A A' v (.v (.int .i64 (checkPows x y z l))) ∧ Grow A A' := by
  refine den_out hn Try.func16 rfl (callOk_sound rfl) ?_
  by_cases hx : checkLosses x y z = 0
  · by_cases h256 : 256 < l.length
    · have : (256 : Int) < l.length := by omega
      simp [Try.f16, u14 h14, Res.lay, hx, this]
      exact ⟨by simp [ResIs, checkPows, hx, h256], (by have hgg := Grow.refl A; have hgn := hgg.n; repeat (first | exact hgg | exact Grow.refl _ | apply Grow.push | refine Grow.set ?_ (by first | omega | (simp; omega)) _))⟩
    · have : ¬ (256 : Int) < l.length := by omega
      simp [Try.f16, u14 h14, Res.lay, hx, this]
      generalize hL : xden Try.prog ov none (Code.loop _) _ = L
      have hl : ∃ x' s', L = some (x', s') ∧ ∃ τ B, s' = ⟨τ, 30, B, []⟩ ∧ Grow A B ∧ ((x' = .exit 0 ∧ firstE (errs l) = 0) ∨ (x' = .ret ∧ τ.get 4 = some (.int .i64 (firstE (errs l))))) := by
        rw [← hL]
        clear hL
        refine loop_rule (fun m s => ∃ i : Nat, i ≤ l.length ∧ m = l.length - i ∧ firstE (errs (l.drop i)) = firstE (errs l) ∧ ∃ τ B, s = ⟨τ, 30, B, []⟩ ∧ Grow A B ∧ τ.get 1 = some (.slice a l.length c) ∧ τ.get 6 = some (.int .i64 i)) ?_ l.length _ ⟨0, by omega, by omega, rfl, _, _, rfl, (by have hgg := Grow.refl A; have hgn := hgg.n; repeat (first | exact hgg | exact Grow.refl _ | apply Grow.push | refine Grow.set ?_ (by first | omega | (simp; omega)) _)), by simp, by simp⟩
        rintro m s ⟨i, hi, rfl, hf, τ, B, rfl, hg, h1, h6⟩
        by_cases hlt : i < l.length
        · skip
          obtain ⟨k, o, sp, rfl, hr⟩ := (h.grow hg).at hlt
          have hc := hr.cells i hlt
          have hd : l.drop i = l[i] :: l.drop (i + 1) := by simp
          have hw : IntKind.i64.wrap ((i : Int) + 1) = ((i + 1 : Nat) : Int) := by rw [wrap64_of (by omega)]; omega
          have hc0 := hr.cell i hlt 0 (by decide)
          simp at hc hc0
          rw [hd, errs, List.map_cons, firstE] at hf
          by_cases he : withinE l[i] 0 1000 = 0
          · rw [if_pos he] at hf
            simp [h1, h6, hlt, hc0, range25 hu, he, hw]
            exact ⟨_, by omega, i + 1, by omega, rfl, hf, _, _, rfl, hg, by simp [h1], by simp⟩
          · rw [if_neg he] at hf
            simp [h1, h6, hlt, hc0, range25 hu, he]
            exact ⟨_, _, rfl, hg, .inr ⟨rfl, by simp [← hf]⟩⟩
        · have : l.drop i = [] := List.drop_eq_nil_of_le (by omega)
          rw [this] at hf
          simp [h1, h6, hlt]
          exact ⟨_, _, rfl, hg, .inl ⟨rfl, hf.symm⟩⟩
      obtain ⟨x', s', rfl, τ, B, rfl, hg, ⟨rfl, h4⟩ | ⟨rfl, h4⟩⟩ := hl
      · simp
        exact ⟨by simp [ResIs, checkPows, hx, h256, h4], hg⟩
      · simp [h4]
        exact ⟨by simp [ResIs, checkPows, hx, h256], hg⟩
  · simp [Try.f16, u14 h14, Res.lay, hx]
    exact ⟨by simp [ResIs, checkPows, hx], (by have hgg := Grow.refl A; have hgn := hgg.n; repeat (first | exact hgg | exact Grow.refl _ | apply Grow.push | refine Grow.set ?_ (by first | omega | (simp; omega)) _))⟩
def F16 : List DT → Option Res
  | [.f (.agg ⟨[.int .i64 x, .int .i64 y, .int .i64 z]⟩), dl] => (match dSl (cI .i64) dl with
    | some l => if l.length < 1000 then some (.v (.int .i64 (checkPows x y z l))) else none
    | none => none)
  | _ => none
theorem s16 (ho : OvSound Try.prog ov) (hu : Un ov) (hn : ov 16 = none) (h14 : ov 14 = some (con Try.prog F14)) : OvSound Try.prog (ov.add 16 (con Try.prog F16)) := ho.addF Try.mixed Try.okProg F16 fun args A ds r hg hds hF => by
  unfold F16 at hF
  split at hF
  case h_2 => cases hF
  split at hF
  case h_2 => cases hF
  rename_i l el
  split at hF
  case isFalse => cases hF
  rename_i hgd
  cases hF
  obtain ⟨v0, v1, rfl, h0, h1⟩ := args2 hds
  obtain rfl := decV_f h0
  obtain ⟨al, cl, rfl, hl⟩ := sl_read h1 el
  obtain ⟨v, A1, e, hr, hgr⟩ := b16 hu hn h14 _ _ _ hl hgd
  exact ⟨v, A1, e, hgr, hr⟩
theorem u16 (h : ov 16 = some (con Try.prog F16)) (x y z : Int) {al : Option Addr} {cl : Nat} {l : List (Int)} (hl : IsSl Try.prog A (cI .i64) al cl l) (hgd : l.length < 1000) : den Try.prog ov (.func 16) #[(.agg #[.int .i64 x, .int .i64 y, .int .i64 z]), (.slice al l.length cl)] A = some (Res.lay A (.v (.int .i64 (checkPows x y z l)))) := by
  rw [den_ov h]
  obtain ⟨dl, dl1, dl2⟩ := sl_dec (n := 3) hl
  refine con_eq gW (ds := [.f (.agg #[.int .i64 x, .int .i64 y, .int .i64 z]), dl]) (by simp [mapO, decV_flat, dl1, dl2]) (by simp [F16, dl2, hgd]) ?_
  simp [Res.ok]

theorem asked21 (hu : Un ov) {a : Option Addr} {c : Nat} {l : List (Int × Int)} (h : IsSl Try.prog A cII a c l) (hlen : l.length < 1000) (t : Int) :
    den Try.prog ov (.func 21) #[.slice a l.length c, .int .i64 t] A = some (.int .i64 (asked l t), A) := by
  refine den_func (hu 21 (by decide)) Try.func21 rfl (callOk_sound rfl) ?_
  simp [Try.f21]
  generalize hL : xden Try.prog ov none (Code.loop _) _ = L
  have hl : ∃ x' s', L = some (x', s') ∧ ∃ τ, s' = ⟨τ, 26, A, []⟩ ∧ x' = .exit 0 ∧ τ.get 5 = some (.int .i64 (asked l t)) := by
    rw [← hL]
    clear hL
    refine loop_rule (fun m s => ∃ (i : Nat) (acc : Int), i ≤ l.length ∧ m = l.length - i ∧ askF t acc (l.drop i) = asked l t ∧ ∃ τ, s = ⟨τ, 26, A, []⟩ ∧ τ.get 0 = some (.slice a l.length c) ∧ τ.get 1 = some (.int .i64 t) ∧ τ.get 6 = some (.int .i64 i) ∧ τ.get 5 = some (.int .i64 acc)) ?_ l.length _ ⟨0, 0, by omega, by omega, rfl, _, rfl, by simp, by simp, by simp, by simp⟩
    rintro m s ⟨i, acc, hi, rfl, hf, τ, rfl, h0, h1, h6, h5⟩
    by_cases hlt : i < l.length
    · skip
      obtain ⟨k, o, sp, rfl, hr⟩ := (h.grow (Grow.refl A)).at hlt
      have hc := hr.cells i hlt
      have hd : l.drop i = l[i] :: l.drop (i + 1) := by simp
      have hw : IntKind.i64.wrap ((i : Int) + 1) = ((i + 1 : Nat) : Int) := by rw [wrap64_of (by omega)]; omega
      have hc0 := hr.cell i hlt 0 (by decide)
      simp at hc hc0
      have hc1 := hr.cell i hlt 1 (by decide)
      simp at hc1
      rw [hd, askF] at hf
      by_cases hle : l[i].1 ≤ t
      · rw [if_pos hle] at hf
        simp [h0, h1, h6, hlt, hc0, hc1, hle, hw]
        exact ⟨_, by omega, i + 1, _, by omega, rfl, hf, _, rfl, by simp [h0], by simp [h1], by simp, by simp⟩
      · rw [if_neg hle] at hf
        simp [h0, h1, h6, hlt, hc0, hle, hw]
        exact ⟨_, by omega, i + 1, _, by omega, rfl, hf, _, rfl, by simp [h0], by simp [h1], by simp, by simp [h5]⟩
    · have : l.drop i = [] := List.drop_eq_nil_of_le (by omega)
      rw [this, askF] at hf
      simp [h0, h6, hlt]
      exact ⟨_, rfl, rfl, by simp [h5, hf]⟩
  obtain ⟨x', s', rfl, τ, rfl, rfl, h5⟩ := hl
  simp [h5]

theorem un57 : Try.prog.underlying 57 = some (.slice 60) := by kernel_rfl
theorem cII_one (x : Int × Int) : (cII.enc x).all oneB = true := rfl
theorem m18 (hu : Un ov) {a : Option Addr} {c : Nat} {l : List (Int × Int)} (h : IsSl Try.prog A cII a c l) (hlen : l.length < 1000) :
    ∃ v A', den Try.prog ov (.func 18) #[.slice a l.length c] A = some (v, A') ∧ ∃ a' c', v = .slice a' l.length c' ∧ IsSl Try.prog A' cII a' c' l ∧ Grow A A' := by
  refine den_out (hu 18 (by decide)) Try.func18 rfl (callOk_sound rfl) ?_
  simp [Try.f18]
  generalize hL : xden Try.prog ov none (Code.loop _) _ = L
  have hl : ∃ x' s', L = some (x', s') ∧ ∃ τ B, s' = ⟨τ, 18, B, []⟩ ∧ x' = .exit 0 ∧ Grow A B ∧ ∃ a' c', τ.get 3 = some (.slice a' l.length c') ∧ IsSl Try.prog B cII a' c' l := by
    rw [← hL]
    clear hL
    refine loop_rule (fun m s => ∃ i : Nat, i ≤ l.length ∧ m = l.length - i ∧ ∃ τ B, s = ⟨τ, 18, B, []⟩ ∧ Grow A B ∧ τ.get 6 = some (.slice a l.length c) ∧ τ.get 7 = some (.int .i64 l.length) ∧ τ.get 8 = some (.int .i64 i) ∧ ∃ a' c', τ.get 3 = some (.slice a' i c') ∧ Acc B A.n a' i c' ((l.take i).flatMap cII.enc) 60 2) ?_ l.length _ ⟨0, by omega, by omega, _, _, rfl, Grow.refl _, by simp, by simp, by simp, none, 0, by simp, Acc.nil _ _ _ _⟩
    rintro m s ⟨i, hi1, rfl, τ, B, rfl, hg, h6, h7, h8, a', c', h3, hacc⟩
    by_cases hlt : i < l.length
    · skip
      obtain ⟨k, o, sp, rfl, hr⟩ := (h.grow hg).at hlt
      have hc := hr.cells i hlt
      have hd : l.drop i = l[i] :: l.drop (i + 1) := by simp
      have hw : IntKind.i64.wrap ((i : Int) + 1) = ((i + 1 : Nat) : Int) := by rw [wrap64_of (by omega)]; omega
      have hc0 := hr.cell i hlt 0 (by decide)
      simp at hc hc0
      have hgn := hg.n
      simp [h6, h7, h8, h3, hlt, hc]
      generalize hap : append _ _ _ _ = ap
      obtain ⟨B', rfl, hacc', hn', hk', hgr⟩ := acc_app hap hacc un57 un57 Try.sz60 Try.by60 Try.ze60 rfl (by omega) rfl (by omega) rfl (by omega) (by simp) (by simp) (by simp; omega) (by omega) (fun k hk1 hk2 => by simp [show k ≠ B.n from by omega, show k ≠ B.n + 1 from by omega, show k ≠ B.n + 1 + 1 from by omega, show k ≠ B.n + 1 + 1 + 1 from by omega])
      simp [h8, hw]
      have ht : (l.take (i + 1)).flatMap cII.enc = (l.take i).flatMap cII.enc ++ [.int .i64 l[i].1, .int .i64 l[i].2] := by rw [List.take_succ_eq_append_getElem hlt, List.flatMap_append]; rfl
      exact ⟨_, by omega, i + 1, by omega, rfl, _, _, rfl, (by have hgg := hgr A (by omega) (by omega) (by have hgg := hg; have hgn := hgg.n; repeat (first | exact hgg | exact Grow.refl _ | apply Grow.push | refine Grow.set ?_ (by first | omega | (simp; omega)) _)); have hgn := hgg.n; repeat (first | exact hgg | exact Grow.refl _ | apply Grow.push | refine Grow.set ?_ (by first | omega | (simp; omega)) _)), by simp [h6], by simp [h7], by simp, _, _, by simp; exact ⟨rfl, rfl⟩, by rw [ht]; exact hacc'⟩
    · have hil : i = l.length := by omega
      subst hil
      simp [h6, h7, h8, hlt]
      rw [List.take_length] at hacc
      obtain ⟨q1, q2⟩ := hacc.isSl Try.sz60
      exact ⟨_, _, rfl, rfl, hg, _, _, by simp [h3], q1⟩
  obtain ⟨x', s', rfl, τ, B, rfl, rfl, hg, a', c', h3, hs⟩ := hl
  simp [h3]
  exact ⟨_, _, rfl, hs, hg⟩
end Go.AM.W

/-
  The W seat: the document's orders.
-/
namespace Go.AM.W
open Go.Proofs Go.AM
variable {ov : Ov} {A A' : CW}
set_option maxRecDepth 100000

def lastOf (l : List (Int × Int)) : Nat → Int
  | 0 => -1
  | i + 1 => match l[i]? with
    | some x => x.1
    | none => 0
theorem b15 (hu : Un ov) (hn : ov 15 = none) {a : Option Addr} {c : Nat} {l : List (Int × Int)} (h : IsSl Try.prog A cII a c l) (hlen : l.length < 1000) :
    ∃ v A', den Try.prog ov (.func 15) #[.slice a l.length c] A = some (v, A') ∧ ResIs A A' v (.v (.int .i64 (checkOrds l))) ∧ Grow A A' := by
  refine den_out hn Try.func15 rfl (callOk_sound rfl) ?_
  by_cases hl : 32 < l.length
  · have : (32 : Int) < l.length := by omega
    simp [Try.f15, this]
    exact ⟨by simp [ResIs, checkOrds, hl], Grow.refl _⟩
  · have : ¬ (32 : Int) < l.length := by omega
    simp [Try.f15, this]
    generalize hL : xden Try.prog ov none (Code.loop _) _ = L
    have hl : ∃ x' s', L = some (x', s') ∧ ∃ τ B, s' = ⟨τ, 47, B, []⟩ ∧ Grow A B ∧ ((x' = .exit 0 ∧ chkOrd (-1) l = 0) ∨ (x' = .ret ∧ τ.get 2 = some (.int .i64 (chkOrd (-1) l)))) := by
      rw [← hL]
      clear hL
      refine loop_rule (fun m s => ∃ i : Nat, i ≤ l.length ∧ m = l.length - i ∧ chkOrd (lastOf l i) (l.drop i) = chkOrd (-1) l ∧ ∃ τ B, s = ⟨τ, 47, B, []⟩ ∧ Grow A B ∧ τ.get 0 = some (.slice a l.length c) ∧ τ.get 3 = some (.int .i64 i)) ?_ l.length _ ⟨0, by omega, by omega, rfl, _, _, rfl, Grow.refl _, by simp, by simp⟩
      rintro m s ⟨i, hi, rfl, hf, τ, B, rfl, hg, h0, h3⟩
      by_cases hlt : i < l.length
      · obtain ⟨k, o, sp, rfl, hr⟩ := (h.grow hg).at hlt
        have hc0 := hr.cell i hlt 0 (by decide)
        have hc1 := hr.cell i hlt 1 (by decide)
        have hd : l.drop i = l[i] :: l.drop (i + 1) := by simp
        have hw : IntKind.i64.wrap ((i : Int) + 1) = ((i + 1 : Nat) : Int) := by rw [wrap64_of (by omega)]; omega
        simp at hc0 hc1
        have hkb : k < B.n := hr.lt
        rw [hd, chkOrd] at hf
        simp [h0, h3, hlt]
        rw [region_draw_eq [(0, false, false), (1, false, false), (2, false, false), (3, false, false), (4, false, false), (6, false, false), (7, false, false), (8, false, false), (9, false, false), (10, false, true), (5, true, false), (11, false, false), (12, false, false), (13, false, false), (14, false, false)]]
        rotate_left
        · kernel_rfl
        · kernel_rfl
        simp [h0, h3, hlt, hc0, hc1, hkb, range25 hu, first28n hu]
        have he : firstV [.int .i64 (withinE l[i].1 0 100000), .int .i64 (withinE l[i].2 (-1000) 1000)] = firstE [withinE l[i].1 0 100000, withinE l[i].2 (-1000) 1000] := rfl
        rw [he]
        have hoe : ordE (lastOf l i) l[i] = if firstE [withinE l[i].1 0 100000, withinE l[i].2 (-1000) 1000] = 0 then (if l[i].1 ≤ lastOf l i then 11 else 0) else firstE [withinE l[i].1 0 100000, withinE l[i].2 (-1000) 1000] := by
          unfold ordE firstE
          by_cases q : withinE l[i].1 0 100000 = 0
          · by_cases q2 : withinE l[i].2 (-1000) 1000 = 0 <;> simp [firstE, q, q2]
          · simp [firstE, q]
        by_cases h1 : firstE [withinE l[i].1 0 100000, withinE l[i].2 (-1000) 1000] = 0
        · rw [if_pos h1] at hoe
          rw [hoe] at hf
          have hpos := withinE_zero.1 (firstE_cons.1 h1).1
          have hnext : lastOf l (i + 1) = l[i].1 := by simp [lastOf, hlt]
          rcases Nat.eq_zero_or_pos i with rfl | hip
          · skip
            have : ¬ l[0].1 ≤ lastOf l 0 := by simp only [lastOf]; omega
            simp [this] at hf
            simp [h1, h3]
            rw [region_draw_eq [(0, false, false), (1, false, false), (2, false, false), (3, false, false), (4, false, false), (5, false, false), (6, false, false), (7, false, false), (8, false, false), (9, false, false), (10, false, false), (11, false, false), (12, false, false), (13, false, false), (14, false, false), (15, false, false)]]
            rotate_left
            · kernel_rfl
            · kernel_rfl
            simp [h3, show IntKind.i64.wrap 1 = 1 from rfl]
            exact ⟨_, by omega, 1, by omega, rfl, by rw [hnext]; simpa using hf, _, _, rfl, (by have hgg := hg; have hgn := hgg.n; repeat (first | exact hgg | exact Grow.refl _ | apply Grow.push | refine Grow.set ?_ (by first | omega | (simp; omega)) _)), by simp [h0], by simp⟩
          · have hlt2 : i - 1 < l.length := by omega
            have hcp := hr.cell (i - 1) hlt2 0 (by decide)
            simp at hcp
            have hlo : lastOf l i = l[i - 1].1 := by obtain ⟨j, rfl⟩ : ∃ j, i = j + 1 := ⟨i - 1, by omega⟩
                                                     simp [lastOf, show j < l.length by omega]
            rw [hlo] at hf
            have hwp : IntKind.i64.wrap ((i : Int) - 1) = ((i - 1 : Nat) : Int) := by rw [wrap64_of (by omega)]; omega
            simp [h1, h3]
            rw [region_draw_eq [(0, false, false), (1, false, false), (2, false, false), (3, false, false), (4, false, false), (5, false, false), (6, false, false), (7, false, false), (8, false, false), (9, false, false), (10, false, false), (11, false, false), (12, false, false), (13, false, false), (14, false, false), (15, false, false)]]
            rotate_left
            · kernel_rfl
            · kernel_rfl
            have hne : k ≠ B.n := by omega
            by_cases hle : l[i].1 ≤ l[i - 1].1
            · simp [hle] at hf
              simp [h0, h3, hlt, hlt2, hc0, hcp, hwp, hne, hip, hle]
              exact ⟨_, _, rfl, (by have hgg := hg; have hgn := hgg.n; repeat (first | exact hgg | exact Grow.refl _ | apply Grow.push | refine Grow.set ?_ (by first | omega | (simp; omega)) _)), .inr ⟨rfl, by simp [← hf]⟩⟩
            · simp [hle] at hf
              simp [h0, h3, hlt, hlt2, hc0, hcp, hwp, hne, hip, hle, hw]
              exact ⟨_, by omega, i + 1, by omega, rfl, by rw [hnext]; exact hf, _, _, rfl, (by have hgg := hg; have hgn := hgg.n; repeat (first | exact hgg | exact Grow.refl _ | apply Grow.push | refine Grow.set ?_ (by first | omega | (simp; omega)) _)), by simp [h0], by simp⟩
        · rw [if_neg h1] at hoe
          rw [hoe, if_neg h1] at hf
          simp [h1]
          exact ⟨_, _, rfl, (by have hgg := hg; have hgn := hgg.n; repeat (first | exact hgg | exact Grow.refl _ | apply Grow.push | refine Grow.set ?_ (by first | omega | (simp; omega)) _)), .inr ⟨rfl, by simp [← hf]⟩⟩
      · have : l.drop i = [] := List.drop_eq_nil_of_le (by omega)
        rw [this] at hf
        simp [h0, h3, hlt]
        exact ⟨_, _, rfl, hg, .inl ⟨rfl, hf.symm⟩⟩
    obtain ⟨x', s', rfl, τ, B, rfl, hg, ⟨rfl, h1⟩ | ⟨rfl, h1⟩⟩ := hl
    · simp
      exact ⟨by simp [ResIs, checkOrds, hl, h1], hg⟩
    · simp [h1]
      exact ⟨by simp [ResIs, checkOrds, hl], hg⟩
def F15 : List DT → Option Res
  | [dl] => (match dSl cII dl with
    | some l => if l.length < 1000 then some (.v (.int .i64 (checkOrds l))) else none
    | none => none)
  | _ => none
theorem s15 (ho : OvSound Try.prog ov) (hu : Un ov) (hn : ov 15 = none) : OvSound Try.prog (ov.add 15 (con Try.prog F15)) := ho.addF Try.mixed Try.okProg F15 fun args A ds r hg hds hF => by
  unfold F15 at hF
  split at hF
  case h_2 => cases hF
  split at hF
  case h_2 => cases hF
  rename_i l el
  split at hF
  case isFalse => cases hF
  rename_i hgd
  cases hF
  obtain ⟨v0, rfl, h0⟩ := args1 hds
  obtain ⟨al, cl, rfl, hl⟩ := sl_read h0 el
  obtain ⟨v, A1, e, hr, hgr⟩ := b15 hu hn hl hgd
  exact ⟨v, A1, e, hgr, hr⟩
theorem u15 (h : ov 15 = some (con Try.prog F15)) {al : Option Addr} {cl : Nat} {l : List (Int × Int)} (hl : IsSl Try.prog A cII al cl l) (hgd : l.length < 1000) : den Try.prog ov (.func 15) #[(.slice al l.length cl)] A = some (Res.lay A (.v (.int .i64 (checkOrds l)))) := by
  rw [den_ov h]
  obtain ⟨dl, dl1, dl2⟩ := sl_dec (n := 3) hl
  refine con_eq gW (ds := [dl]) (by simp [mapO, decV_flat, dl1, dl2]) (by simp [F15, dl2, hgd]) ?_
  simp [Res.ok]
end Go.AM.W
