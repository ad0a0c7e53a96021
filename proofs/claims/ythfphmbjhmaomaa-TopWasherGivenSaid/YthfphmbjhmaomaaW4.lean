/-
  The W seat: lists of orders.
-/
import Derived.Test.YthfphmbjhmaomaaW1
namespace Go.AM.W
open Go.Proofs Go.AM
variable {ov : Ov} {A A' : CW}
set_option maxRecDepth 100000

def ordE (last : Int) (x : Int × Int) : Int := firstE [withinE x.1 0 100000, withinE x.2 (-1000) 1000, if x.1 ≤ last then 11 else 0]
def chkOrd : Int → List (Int × Int) → Int
  | _, [] => 0
  | last, x :: r => if ordE last x = 0 then chkOrd x.1 r else ordE last x
def checkOrds (l : List (Int × Int)) : Int := if 32 < l.length then 5 else chkOrd (-1) l
theorem b48 (hu : Un ov) (hn : ov 48 = none) {a : Option Addr} {c : Nat} {l : List (Int × Int)} (h : IsSl Try.prog A cII a c l) (hlen : l.length < 1000) :
    ∃ v A', den Try.prog ov (.func 48) #[.slice a l.length c] A = some (v, A') ∧ ResIs A A' v (.v (.int .i64 (checkOrds l))) ∧ Grow A A' := by
  refine den_out hn Try.func48 rfl (callOk_sound rfl) ?_
  by_cases hl : 32 < l.length
  · have : (32 : Int) < l.length := by omega
    simp [Try.f48, this]
    exact ⟨by simp [ResIs, checkOrds, hl], Grow.refl _⟩
  · have : ¬ (32 : Int) < l.length := by omega
    simp [Try.f48, this]
    generalize hL : xden Try.prog ov none (Code.loop _) _ = L
    have hl : ∃ x' s', L = some (x', s') ∧ ∃ τ B, s' = ⟨τ, 35, B, []⟩ ∧ Grow A B ∧ ((x' = .exit 0 ∧ chkOrd (-1) l = 0) ∨ (x' = .ret ∧ τ.get 2 = some (.int .i64 (chkOrd (-1) l)))) := by
      rw [← hL]
      refine loop_rule (fun m s => ∃ i last, i ≤ l.length ∧ m = l.length - i ∧ chkOrd last (l.drop i) = chkOrd (-1) l ∧ ∃ τ B, s = ⟨τ, 35, B, []⟩ ∧ Grow A B ∧ τ.get 10 = some (.slice a l.length c) ∧ τ.get 11 = some (.int .i64 l.length) ∧ τ.get 12 = some (.int .i64 i) ∧ τ.get 3 = some (.int .i64 last)) ?_ l.length _ ⟨0, -1, by omega, by omega, rfl, _, _, rfl, Grow.refl _, by simp, by simp, by simp, by simp⟩
      rintro m s ⟨i, last, hi, rfl, hf, τ, B, rfl, hg, h10, h11, h12, h3⟩
      by_cases hlt : i < l.length
      · obtain ⟨k, o, sp, rfl, hr⟩ := (h.grow hg).at hlt
        have hc := hr.cells i hlt
        have hd : l.drop i = l[i] :: l.drop (i + 1) := by simp
        rw [hd, chkOrd] at hf
        have hw : IntKind.i64.wrap ((i : Int) + 1) = ((i + 1 : Nat) : Int) := by rw [wrap64_of (by omega)]; omega
        simp at hc
        simp [h10, h11, h12, h3, hlt, hc]
        rw [region_draw_eq [(0, false, false), (1, false, false), (3, false, false), (4, false, true), (6, false, false), (7, false, true), (8, false, false), (9, false, false), (2, true, false), (5, true, false), (10, false, false), (11, false, false), (12, false, false), (13, false, false)]]
        rotate_left
        · kernel_rfl
        · kernel_rfl
        simp [h10, h11, h12, h3, hlt, hc, within58 hu, checkPower55 hu, when56 hu, first47n hu]
        have he : firstV [.int .i64 (withinE l[i].1 0 100000), .int .i64 (withinE l[i].2 (-1000) 1000), .int .i64 (if l[i].1 ≤ last then 11 else 0)] = ordE last l[i] := rfl
        rw [he]
        by_cases h0 : ordE last l[i] = 0
        · rw [if_pos h0] at hf
          simp [h0, h12, hw]
          exact ⟨_, by omega, i + 1, _, by omega, rfl, hf, _, _, rfl, (by have hgg := hg; have hgn := hgg.n; repeat (first | exact hgg | exact Grow.refl _ | apply Grow.push | refine Grow.set ?_ (by first | omega | (simp; omega)) _)), by simp [h10], by simp [h11], by simp, by simp⟩
        · rw [if_neg h0] at hf
          simp [h0]
          exact ⟨_, _, rfl, (by have hgg := hg; have hgn := hgg.n; repeat (first | exact hgg | exact Grow.refl _ | apply Grow.push | refine Grow.set ?_ (by first | omega | (simp; omega)) _)), .inr ⟨rfl, by simp [← hf]⟩⟩
      · have : l.drop i = [] := List.drop_eq_nil_of_le (by omega)
        rw [this] at hf
        simp [h10, h11, h12, hlt]
        exact ⟨_, _, rfl, hg, .inl ⟨rfl, hf.symm⟩⟩
    obtain ⟨x', s', rfl, τ, B, rfl, hg, ⟨rfl, h1⟩ | ⟨rfl, h1⟩⟩ := hl
    · simp
      exact ⟨by simp [ResIs, checkOrds, hl, h1], hg⟩
    · simp [h1]
      exact ⟨by simp [ResIs, checkOrds, hl], hg⟩
def F48 : List DT → Option Res
  | [dl] => (match dSl cII dl with
    | some l => if l.length < 1000 then some (.v (.int .i64 (checkOrds l))) else none
    | none => none)
  | _ => none
theorem s48 (ho : OvSound Try.prog ov) (hu : Un ov) (hn : ov 48 = none) : OvSound Try.prog (ov.add 48 (con Try.prog F48)) := ho.addF Try.mixed Try.okProg F48 fun args A ds r hg hds hF => by
  unfold F48 at hF
  split at hF
  case h_2 => cases hF
  split at hF
  case h_2 => cases hF
  rename_i l el
  split at hF
  case isFalse => cases hF
  rename_i hgd
  cases hF
  obtain ⟨v0, rfl, h0⟩ := args1 hds
  obtain ⟨al, cl, rfl, hl⟩ := sl_read h0 el
  obtain ⟨v, A1, e, hr, hgr⟩ := b48 hu hn hl hgd
  exact ⟨v, A1, e, hgr, hr⟩
theorem u48 (h : ov 48 = some (con Try.prog F48)) {al : Option Addr} {cl : Nat} {l : List (Int × Int)} (hl : IsSl Try.prog A cII al cl l) (hgd : l.length < 1000) : den Try.prog ov (.func 48) #[(.slice al l.length cl)] A = some (Res.lay A (.v (.int .i64 (checkOrds l)))) := by
  rw [den_ov h]
  obtain ⟨dl, dl1, dl2⟩ := sl_dec (n := 3) hl
  refine con_eq gW (ds := [dl]) (by simp [mapO, decV_flat, dl1, dl2]) (by simp [F48, dl2, hgd]) ?_
  simp [Res.ok]
end Go.AM.W

/-
  The W seat: steps, what is mapped.
-/
namespace Go.AM.W
open Go.Proofs Go.AM
variable {ov : Ov} {A A' : CW}
set_option maxRecDepth 100000

def c4 : Codec (Int × Int × Int × Int) := ⟨4, by omega, fun p => [.int .i64 p.1, .int .i64 p.2.1, .int .i64 p.2.2.1, .int .i64 p.2.2.2], fun | [.f (.int .i64 m), .f (.int .i64 n), .f (.int .i64 p), .f (.int .i64 q)] => some (m, n, p, q) | _ => none, fun _ => rfl, fun _ => rfl, fun x => by simp, fun row x h => by
  split at h
  · cases h; rfl
  · cases h⟩
@[simp] theorem c4_es : c4.es = 4 := Eq.trans rfl rfl
@[simp] theorem c4_enc (p : Int × Int × Int × Int) : c4.enc p = [.int .i64 p.1, .int .i64 p.2.1, .int .i64 p.2.2.1, .int .i64 p.2.2.2] := Eq.trans rfl rfl
def stepsG : Int × Int → List (Int × Int) → List (Int × Int × Int × Int)
  | _, [] => []
  | last, x :: r => (x.1, x.2, last.2, last.1) :: stepsG x r
theorem stepsG_len : ∀ (l : List (Int × Int)) (x : Int × Int), (stepsG x l).length = l.length
  | [], _ => rfl
  | y :: l, x => by simp [stepsG, stepsG_len l y]
theorem un135 : Try.prog.underlying 135 = some (.slice 140) := by kernel_rfl
theorem b59 (hn : ov 59 = none) (p : Int) {a : Option Addr} {c : Nat} {l : List (Int × Int)} (h : IsSl Try.prog A cII a c l) (hlen : l.length < 1000) :
    ∃ v A', den Try.prog ov (.func 59) #[.int .i64 p, .slice a l.length c] A = some (v, A') ∧ ResIs A A' v (accR ((stepsG (0, p) l).flatMap c4.enc) 140 4 l.length none) ∧ Grow A A' := by
  refine den_out hn Try.func59 rfl (callOk_sound rfl) ?_
  simp [Try.f59]
  generalize hL : xden Try.prog ov none (Code.loop _) _ = L
  have hl : ∃ x' s', L = some (x', s') ∧ ∃ τ B, s' = ⟨τ, 29, B, []⟩ ∧ x' = .exit 0 ∧ Grow A B ∧ ∃ a' c', τ.get 5 = some (.slice a' l.length c') ∧ Acc B (A.n + 1) a' l.length c' ((stepsG (0, p) l).flatMap c4.enc) 140 4 := by
    rw [← hL]
    clear hL
    refine loop_rule (fun m s => ∃ i last done, i ≤ l.length ∧ m = l.length - i ∧ done.length = i ∧ done ++ stepsG last (l.drop i) = stepsG (0, p) l ∧ ∃ τ B, s = ⟨τ, 29, B, []⟩ ∧ Grow A B ∧ τ.get 11 = some (.slice a l.length c) ∧ τ.get 12 = some (.int .i64 l.length) ∧ τ.get 13 = some (.int .i64 i) ∧
      (∃ ver, A.n < B.n ∧ τ.get 6 = some (.pointer (some ⟨A.n, 0, none⟩)) ∧ B.get A.n = .cells [.int .i64 last.1, .int .i64 last.2] 60 false false ver) ∧ ∃ a' c', τ.get 5 = some (.slice a' i c') ∧ Acc B (A.n + 1) a' i c' (done.flatMap c4.enc) 140 4) ?_ l.length _ ⟨0, (0, p), [], by omega, by omega, rfl, rfl, _, _, rfl, (by have hgg := Grow.refl A; have hgn := hgg.n; repeat (first | exact hgg | exact Grow.refl _ | apply Grow.push | refine Grow.set ?_ (by first | omega | (simp; omega)) _)), by simp, by simp, by simp, ⟨_, by simp, by simp, by simp; rfl⟩, none, 0, by simp, Acc.nil _ _ _ _⟩
    rintro m s ⟨i, last, done, hi, rfl, hdn, hf, τ, B, rfl, hg, h11, h12, h13, ⟨ver, hnb, h6, hb6⟩, a', c', h5, hacc⟩
    by_cases hlt : i < l.length
    · obtain ⟨k, o, sp, rfl, hr⟩ := (h.grow hg).at hlt
      have hc := hr.cells i hlt
      have hd : l.drop i = l[i] :: l.drop (i + 1) := by simp
      rw [hd, stepsG] at hf
      have hw : IntKind.i64.wrap ((i : Int) + 1) = ((i + 1 : Nat) : Int) := by rw [wrap64_of (by omega)]; omega
      simp at hc
      have hne : A.n ≠ B.n := by omega
      simp [h11, h12, h13, hlt, hc, h6, h5, cellAt_eq, cellsAt_eq, hb6, hne]
      generalize hap : append _ _ _ _ = ap
      obtain ⟨B', rfl, hacc', hn', hk', hgr⟩ := acc_app hap hacc un135 un135 Try.sz140 Try.by140 Try.ze140 rfl (by omega) rfl (by omega) rfl (by omega) (by simp) (by simp) (by simp; omega) (by omega) (fun k hk1 hk2 => by simp [show k ≠ B.n from by omega, show k ≠ B.n + 1 from by omega, show k ≠ B.n + 1 + 1 from by omega, show k ≠ B.n + 1 + 1 + 1 from by omega])
      have g6 := hk' A.n (.inl (by omega)) (by simp; omega)
      have g8 := hk' B.n (.inr (by omega)) (by simp)
      have ne1 : A.n ≠ B.n + 1 := by omega
      simp [hb6, hne, ne1] at g6 g8
      simp [h13, hw, h6, cellAt_eq, cellsAt_eq, g6, g8]
      simp at hn'
      refine ⟨_, ?_, i + 1, (l[i].1, l[i].2), done ++ [(l[i].1, l[i].2, last.2, last.1)], by omega, rfl, by simp [hdn], by simpa using hf, _, _, rfl, (by have hgg := hgr A (by omega) (by omega) (by have hgg := hg; have hgn := hgg.n; repeat (first | exact hgg | exact Grow.refl _ | apply Grow.push | refine Grow.set ?_ (by first | omega | (simp; omega)) _)); have hgn := hgg.n; repeat (first | exact hgg | exact Grow.refl _ | apply Grow.push | refine Grow.set ?_ (by first | omega | (simp; omega)) _)), by simp [h11], by simp [h12], by simp, ⟨_, by simp; omega, by simp [h6], by simp; rfl⟩, _, _, by simp; exact ⟨rfl, rfl⟩, ?_⟩
      · omega
      · simp
        exact hacc'.keep (by simp) (fun k hk _ => CW.get_set_ne _ _ (by omega))
    · have : l.drop i = [] := List.drop_eq_nil_of_le (by omega)
      rw [this, stepsG, List.append_nil] at hf
      have hil : i = l.length := by omega
      subst hil
      simp [h11, h12, h13, hlt]
      rw [← hf]
      exact ⟨_, _, rfl, rfl, hg, _, _, by simp [h5], hacc⟩
  obtain ⟨x', s', rfl, τ, B, rfl, rfl, hg, a', c', h5, hacc⟩ := hl
  simp [h5]
  exact ⟨hacc.res (by omega) none, hg⟩
def F59 : List DT → Option Res
  | [.f (.int .i64 p), dl] => (match dSl cII dl with
    | some l => if l.length < 1000 then some (accR ((stepsG (0, p) l).flatMap c4.enc) 140 4 l.length none) else none
    | none => none)
  | _ => none
theorem s59 (ho : OvSound Try.prog ov) (hu : Un ov) (hn : ov 59 = none) : OvSound Try.prog (ov.add 59 (con Try.prog F59)) := ho.addF Try.mixed Try.okProg F59 fun args A ds r hg hds hF => by
  unfold F59 at hF
  split at hF
  case h_2 => cases hF
  split at hF
  case h_2 => cases hF
  rename_i l el
  split at hF
  case isFalse => cases hF
  rename_i hgd
  cases hF
  obtain ⟨v0, v1, rfl, h0, h1⟩ := args2 hds
  obtain rfl := decV_f h0
  obtain ⟨al, cl, rfl, hl⟩ := sl_read h1 el
  obtain ⟨v, A1, e, hr, hgr⟩ := b59 hn _ hl hgd
  exact ⟨v, A1, e, hgr, hr⟩
theorem u59 (h : ov 59 = some (con Try.prog F59)) (p : Int) {al : Option Addr} {cl : Nat} {l : List (Int × Int)} (hl : IsSl Try.prog A cII al cl l) (hgd : l.length < 1000) : den Try.prog ov (.func 59) #[(.int .i64 p), (.slice al l.length cl)] A = some (Res.lay A (accR ((stepsG (0, p) l).flatMap c4.enc) 140 4 l.length none)) := by
  rw [den_ov h]
  obtain ⟨dl, dl1, dl2⟩ := sl_dec (n := 3) hl
  refine con_eq gW (ds := [.f (.int .i64 p), dl]) (by simp [mapO, decV_flat, dl1, dl2]) (by simp [F59, dl2, hgd]) ?_
  exact accR_ok rfl

def askF (t : Int) : Int → List (Int × Int) → Int
  | acc, [] => acc
  | acc, x :: r => askF t (if x.1 ≤ t then x.2 else acc) r
def asked (l : List (Int × Int)) (t : Int) : Int := askF t 0 l
theorem b50 (hn : ov 50 = none) {a : Option Addr} {c : Nat} {l : List (Int × Int)} (h : IsSl Try.prog A cII a c l) (hlen : l.length < 1000) (t : Int) :
    ∃ v A', den Try.prog ov (.func 50) #[.slice a l.length c, .int .i64 t] A = some (v, A') ∧ ResIs A A' v (.v (.int .i64 (asked l t))) ∧ Grow A A' := by
  refine den_out hn Try.func50 rfl (callOk_sound rfl) ?_
  simp [Try.f50]
  generalize hL : xden Try.prog ov none (Code.loop _) _ = L
  have hl : ∃ x' s', L = some (x', s') ∧ ∃ τ B, s' = ⟨τ, 22, B, []⟩ ∧ x' = .exit 0 ∧ Grow A B ∧ τ.get 5 = some (.int .i64 (asked l t)) := by
    rw [← hL]
    clear hL
    refine loop_rule (fun m s => ∃ i acc, i ≤ l.length ∧ m = l.length - i ∧ askF t acc (l.drop i) = asked l t ∧ ∃ τ B, s = ⟨τ, 22, B, []⟩ ∧ Grow A B ∧ τ.get 1 = some (.int .i64 t) ∧ τ.get 8 = some (.slice a l.length c) ∧ τ.get 9 = some (.int .i64 l.length) ∧ τ.get 10 = some (.int .i64 i) ∧ τ.get 5 = some (.int .i64 acc)) ?_ l.length _ ⟨0, 0, by omega, by omega, rfl, _, _, rfl, Grow.refl _, by simp, by simp, by simp, by simp, by simp⟩
    rintro m s ⟨i, acc, hi, rfl, hf, τ, B, rfl, hg, h1, h8, h9, h10, h5⟩
    by_cases hlt : i < l.length
    · skip
      obtain ⟨k, o, sp, rfl, hr⟩ := (h.grow hg).at hlt
      have hc := hr.cells i hlt
      have hd : l.drop i = l[i] :: l.drop (i + 1) := by simp
      have hw : IntKind.i64.wrap ((i : Int) + 1) = ((i + 1 : Nat) : Int) := by rw [wrap64_of (by omega)]; omega
      have hc0 := hr.cell i hlt 0 (by decide)
      simp at hc hc0
      rw [hd, askF] at hf
      by_cases hle : l[i].1 ≤ t
      · rw [if_pos hle] at hf
        simp [h1, h8, h9, h10, hlt, hc, hle, hw]
        exact ⟨_, by omega, i + 1, _, by omega, rfl, hf, _, _, rfl, (by have hgg := hg; have hgn := hgg.n; repeat (first | exact hgg | exact Grow.refl _ | apply Grow.push | refine Grow.set ?_ (by first | omega | (simp; omega)) _)), by simp [h1], by simp [h8], by simp [h9], by simp, by simp⟩
      · rw [if_neg hle] at hf
        simp [h1, h8, h9, h10, hlt, hc, hle, hw]
        exact ⟨_, by omega, i + 1, _, by omega, rfl, hf, _, _, rfl, (by have hgg := hg; have hgn := hgg.n; repeat (first | exact hgg | exact Grow.refl _ | apply Grow.push | refine Grow.set ?_ (by first | omega | (simp; omega)) _)), by simp [h1], by simp [h8], by simp [h9], by simp, by simp [h5]⟩
    · have : l.drop i = [] := List.drop_eq_nil_of_le (by omega)
      rw [this, askF] at hf
      simp [h8, h9, h10, hlt]
      exact ⟨_, _, rfl, rfl, hg, by simp [h5, hf]⟩
  obtain ⟨x', s', rfl, τ, B, rfl, rfl, hg, h5⟩ := hl
  simp [h5]
  exact ⟨rfl, hg⟩
def F50 : List DT → Option Res
  | [dl, .f (.int .i64 t)] => (match dSl cII dl with
    | some l => if l.length < 1000 then some (.v (.int .i64 (asked l t))) else none
    | none => none)
  | _ => none
theorem s50 (ho : OvSound Try.prog ov) (hu : Un ov) (hn : ov 50 = none) : OvSound Try.prog (ov.add 50 (con Try.prog F50)) := ho.addF Try.mixed Try.okProg F50 fun args A ds r hg hds hF => by
  unfold F50 at hF
  split at hF
  case h_2 => cases hF
  split at hF
  case h_2 => cases hF
  rename_i l el
  split at hF
  case isFalse => cases hF
  rename_i hgd
  cases hF
  obtain ⟨v0, v1, rfl, h0, h1⟩ := args2 hds
  obtain ⟨al, cl, rfl, hl⟩ := sl_read h0 el
  obtain rfl := decV_f h1
  obtain ⟨v, A1, e, hr, hgr⟩ := b50 hn hl hgd _
  exact ⟨v, A1, e, hgr, hr⟩
theorem u50 (h : ov 50 = some (con Try.prog F50)) (t : Int) {al : Option Addr} {cl : Nat} {l : List (Int × Int)} (hl : IsSl Try.prog A cII al cl l) (hgd : l.length < 1000) : den Try.prog ov (.func 50) #[(.slice al l.length cl), (.int .i64 t)] A = some (Res.lay A (.v (.int .i64 (asked l t)))) := by
  rw [den_ov h]
  obtain ⟨dl, dl1, dl2⟩ := sl_dec (n := 3) hl
  refine con_eq gW (ds := [dl, .f (.int .i64 t)]) (by simp [mapO, decV_flat, dl1, dl2]) (by simp [F50, dl2, hgd]) ?_
  simp [Res.ok]

def checkAll (r lo hi p : Int) (l : List (Int × Int)) : Int := firstE [checkRules r lo hi, withinE p lo hi, checkOrds l]
theorem b57 (hu : Un ov) (hn : ov 57 = none) (h106 : ov 106 = some (con Try.prog F106)) (h48 : ov 48 = some (con Try.prog F48)) (r lo hi p : Int) {a : Option Addr} {c : Nat} {l : List (Int × Int)} (h : IsSl Try.prog A cII a c l) (hlen : l.length < 1000) :
    ∃ v A', den Try.prog ov (.func 57) #[.agg #[.int .i64 r, .int .i64 lo, .int .i64 hi], .int .i64 p, .slice a l.length c] A = some (v, A') ∧ ResIs A A' v (.v (.int .i64 (checkAll r lo hi p l))) ∧ Grow A A' := by
  refine den_out hn Try.func57 rfl (callOk_sound rfl) ?_
  have h1 := h.grow (Grow.push1 A (.cells [.int .i64 r, .int .i64 lo, .int .i64 hi] 66 false false 0))
  simp [Try.f57]
  rw [region_draw_eq [(0, false, false), (2, false, false), (3, false, false), (4, false, true), (5, false, false), (6, false, true), (8, false, false), (1, true, false), (7, false, false), (9, false, false), (10, false, false), (11, false, false), (12, false, false)]]
  rotate_left
  · kernel_rfl
  · kernel_rfl
  simp [within58 hu, u106 h106, Res.lay, u48 h48 h1 hlen, first47n hu]
  exact ⟨by simp [ResIs, checkAll, firstE, firstV], (by have hgg := Grow.refl A; have hgn := hgg.n; repeat (first | exact hgg | exact Grow.refl _ | apply Grow.push | refine Grow.set ?_ (by first | omega | (simp; omega)) _))⟩
def F57 : List DT → Option Res
  | [.f (.agg ⟨[.int .i64 r, .int .i64 lo, .int .i64 hi]⟩), .f (.int .i64 p), dl] => (match dSl cII dl with
    | some l => if l.length < 1000 then some (.v (.int .i64 (checkAll r lo hi p l))) else none
    | none => none)
  | _ => none
theorem s57 (ho : OvSound Try.prog ov) (hu : Un ov) (hn : ov 57 = none) (h106 : ov 106 = some (con Try.prog F106)) (h48 : ov 48 = some (con Try.prog F48)) : OvSound Try.prog (ov.add 57 (con Try.prog F57)) := ho.addF Try.mixed Try.okProg F57 fun args A ds r hg hds hF => by
  unfold F57 at hF
  split at hF
  case h_2 => cases hF
  split at hF
  case h_2 => cases hF
  rename_i l el
  split at hF
  case isFalse => cases hF
  rename_i hgd
  cases hF
  obtain ⟨v0, v1, v2, rfl, h0, h1, h2⟩ := args3 hds
  obtain rfl := decV_f h0
  obtain rfl := decV_f h1
  obtain ⟨al, cl, rfl, hl⟩ := sl_read h2 el
  obtain ⟨v, A1, e, hr, hgr⟩ := b57 hu hn h106 h48 _ _ _ _ hl hgd
  exact ⟨v, A1, e, hgr, hr⟩
theorem u57 (h : ov 57 = some (con Try.prog F57)) (r lo hi p : Int) {al : Option Addr} {cl : Nat} {l : List (Int × Int)} (hl : IsSl Try.prog A cII al cl l) (hgd : l.length < 1000) : den Try.prog ov (.func 57) #[(.agg #[.int .i64 r, .int .i64 lo, .int .i64 hi]), (.int .i64 p), (.slice al l.length cl)] A = some (Res.lay A (.v (.int .i64 (checkAll r lo hi p l)))) := by
  rw [den_ov h]
  obtain ⟨dl, dl1, dl2⟩ := sl_dec (n := 3) hl
  refine con_eq gW (ds := [.f (.agg #[.int .i64 r, .int .i64 lo, .int .i64 hi]), .f (.int .i64 p), dl]) (by simp [mapO, decV_flat, dl1, dl2]) (by simp [F57, dl2, hgd]) ?_
  simp [Res.ok]
end Go.AM.W

/-
  The W seat: mapped, the balance.
-/
namespace Go.AM.W
open Go.Proofs Go.AM
variable {ov : Ov} {A A' : CW}
set_option maxRecDepth 100000

theorem un137 : Try.prog.underlying 137 = some (.slice 29) := by kernel_rfl
theorem un28 : Try.prog.underlying 28 = some (.slice 3) := by kernel_rfl
def errs (l : List Int) : List Int := l.map fun n => withinE n 0 1000
theorem m66 (hu : Un ov) {a : Option Addr} {c : Nat} {l : List Int} (h : IsSl Try.prog A (cI .i64) a c l) (hlen : l.length < 1000) :
    ∃ v A', den Try.prog ov (.func 66) #[.slice a l.length c, .func (.func 67) #[] #[]] A = some (v, A') ∧ ∃ a' c', v = .slice a' (errs l).length c' ∧ IsSl Try.prog A' (cI .i64) a' c' (errs l) ∧ Grow A A' := by
  refine den_out (hu 66 (by decide)) Try.func66 rfl (callOk_sound rfl) ?_
  simp [Try.f66]
  generalize hL : xden Try.prog ov none (Code.loop _) _ = L
  have hl : ∃ x' s', L = some (x', s') ∧ ∃ τ B, s' = ⟨τ, 22, B, []⟩ ∧ x' = .exit 0 ∧ Grow A B ∧ ∃ a' c', τ.get 5 = some (.slice a' (errs l).length c') ∧ IsSl Try.prog B (cI .i64) a' c' (errs l) := by
    rw [← hL]
    clear hL
    refine loop_rule (fun m s => ∃ i, i ≤ l.length ∧ m = l.length - i ∧ ∃ τ B, s = ⟨τ, 22, B, []⟩ ∧ Grow A B ∧ τ.get 1 = some (.func (.func 67) #[] #[]) ∧ τ.get 8 = some (.slice a l.length c) ∧ τ.get 9 = some (.int .i64 l.length) ∧ τ.get 10 = some (.int .i64 i) ∧ ∃ a' c', τ.get 5 = some (.slice a' i c') ∧ Acc B A.n a' i c' ((errs (l.take i)).flatMap (cI .i64).enc) 29 1) ?_ l.length _ ⟨0, by omega, by omega, _, _, rfl, Grow.refl _, by simp, by simp, by simp, by simp, none, 0, by simp, Acc.nil _ _ _ _⟩
    rintro m s ⟨i, hi, rfl, τ, B, rfl, hg, h1, h8, h9, h10, a', c', h5, hacc⟩
    by_cases hlt : i < l.length
    · skip
      obtain ⟨k, o, sp, rfl, hr⟩ := (h.grow hg).at hlt
      have hc := hr.cells i hlt
      have hd : l.drop i = l[i] :: l.drop (i + 1) := by simp
      have hw : IntKind.i64.wrap ((i : Int) + 1) = ((i + 1 : Nat) : Int) := by rw [wrap64_of (by omega)]; omega
      have hc0 := hr.cell i hlt 0 (by decide)
      simp at hc hc0
      have hgn := hg.n
      simp [h1, h8, h9, h10, h5, hlt, hc0, balance67 hu]
      generalize hap : append _ _ _ _ = ap
      obtain ⟨B', rfl, hacc', hn', hk', hgr⟩ := acc_app hap hacc un137 un137 Try.sz29 Try.by29 Try.ze29 rfl (by omega) rfl (by omega) rfl (by omega) rfl (Nat.le_refl _) (by omega) (by omega) (fun _ _ _ => rfl)
      simp [h10, hw]
      have ht : errs (l.take (i + 1)) = errs (l.take i) ++ [withinE l[i] 0 1000] := by rw [errs, List.take_succ_eq_append_getElem hlt, List.map_append]; rfl
      exact ⟨_, by omega, i + 1, by omega, rfl, _, _, rfl, (by have hgg := hgr A (by omega) (by omega) hg; have hgn := hgg.n; repeat (first | exact hgg | exact Grow.refl _ | apply Grow.push | refine Grow.set ?_ (by first | omega | (simp; omega)) _)), by simp [h1], by simp [h8], by simp [h9], by simp, _, _, by simp; exact ⟨rfl, rfl⟩, by rw [ht]; simpa using hacc'⟩
    · have hil : i = l.length := by omega
      subst hil
      simp [h8, h9, h10, hlt]
      rw [List.take_length] at hacc
      obtain ⟨q1, q2⟩ := hacc.isSl Try.sz29
      exact ⟨_, _, rfl, rfl, hg, _, _, by simp [h5, ← q2], q1⟩
  obtain ⟨x', s', rfl, τ, B, rfl, rfl, hg, a', c', h5, hs⟩ := hl
  simp [h5]
  exact ⟨_, _, rfl, hs, hg⟩

def sum2 (f : Int → Int) : Int → List Int → Int
  | acc, [] => acc
  | acc, n :: r => sum2 f (acc + f n) r
def balE (x y z : Int) (l : List Int) : Int := if firstE [checkLosses x y z, if 256 < l.length then 5 else 0] ≠ 0 then firstE [checkLosses x y z, if 256 < l.length then 5 else 0] else firstE (errs l)
def balR (x y z : Int) (l : List Int) : Value := if balE x y z l = 0 then .tuple #[.agg #[.int .i64 (sum2 (delLo x y z) 0 l), .int .i64 (sum2 (delHi x y z) 0 l)], .int .i64 0] else .tuple #[.agg #[.int .i64 0, .int .i64 0], .int .i64 (balE x y z l)]
theorem sum2_step (f : Int → Int) (acc : Int) (l : List Int) (i : Nat) (h : i < l.length) : sum2 f acc (l.drop i) = sum2 f (acc + f l[i]) (l.drop (i + 1)) := by
  have hd : l.drop i = l[i] :: l.drop (i + 1) := by simp
  rw [hd, sum2]
theorem firstE_zero : ∀ {l : List Int}, firstE l = 0 ↔ ∀ e ∈ l, e = 0
  | [] => by simp [firstE]
  | e :: l => by
    by_cases h : e = 0
    · simp [firstE, h, firstE_zero (l := l)]
    · simp [firstE, h]
theorem errs_ok {l : List Int} (h : firstE (errs l) = 0) {i : Nat} (hi : i < l.length) : 0 ≤ l[i] ∧ l[i] ≤ 1000 := by
  have := firstE_zero.1 h (withinE l[i] 0 1000) (by simp only [errs, List.mem_map]; exact ⟨l[i], List.getElem_mem hi, rfl⟩)
  exact withinE_zero.1 this
theorem balE_zero {x y z : Int} {l : List Int} : balE x y z l = 0 ↔ checkLosses x y z = 0 ∧ l.length ≤ 256 ∧ firstE (errs l) = 0 := by
  unfold balE
  by_cases h1 : checkLosses x y z = 0
  · by_cases h2 : 256 < l.length
    · simp [firstE, h1, h2]; omega
    · simp [firstE, h1, h2]; omega
  · simp [firstE, h1]
theorem ne147a (n : Nat) (b : Int) (x y : Operand) : binOp Try.prog .neq 147 x y (.agg #[.int .i64 (Int.ofNat (n + 1)), .int .i64 b]) (.agg #[.int .i64 0, .int .i64 0]) = some (.bool true) := by kernel_rfl
theorem ne147b (n : Nat) (b : Int) (x y : Operand) : binOp Try.prog .neq 147 x y (.agg #[.int .i64 (Int.negSucc n), .int .i64 b]) (.agg #[.int .i64 0, .int .i64 0]) = some (.bool true) := by kernel_rfl
theorem ne147c (n : Nat) (x y : Operand) : binOp Try.prog .neq 147 x y (.agg #[.int .i64 0, .int .i64 (Int.ofNat (n + 1))]) (.agg #[.int .i64 0, .int .i64 0]) = some (.bool true) := by kernel_rfl
theorem ne147d (n : Nat) (x y : Operand) : binOp Try.prog .neq 147 x y (.agg #[.int .i64 0, .int .i64 (Int.negSucc n)]) (.agg #[.int .i64 0, .int .i64 0]) = some (.bool true) := by kernel_rfl
theorem ne147e (x y : Operand) : binOp Try.prog .neq 147 x y (.agg #[.int .i64 0, .int .i64 0]) (.agg #[.int .i64 0, .int .i64 0]) = some (.bool false) := by kernel_rfl
theorem ne147 (a b : Int) (x y : Operand) : binOp Try.prog .neq 147 x y (.agg #[.int .i64 a, .int .i64 b]) (.agg #[.int .i64 0, .int .i64 0]) = some (.bool (decide (¬ (a = 0 ∧ b = 0)))) := by
  rcases a with (_ | n) | n
  · rcases b with (_ | n) | n
    · exact ne147e x y
    · rw [show (Int.ofNat 0) = 0 from rfl, ne147c]; simp; omega
    · rw [show (Int.ofNat 0) = 0 from rfl, ne147d]; simp
  · rw [ne147a]; simp; omega
  · rw [ne147b]; simp
theorem b22 (hu : Un ov) (hn : ov 22 = none) (h65 : ov 65 = some (con Try.prog F65)) (h68 : ov 68 = some (con Try.prog F68)) (x y z : Int) {a : Option Addr} {c : Nat} {l : List Int} (h : IsSl Try.prog A (cI .i64) a c l) (hlen : l.length < 1000) :
    ∃ v A', den Try.prog ov (.func 22) #[.agg #[.int .i64 x, .int .i64 y, .int .i64 z], .slice a l.length c] A = some (v, A') ∧ ResIs A A' v (.v (balR x y z l)) ∧ Grow A A' := by
  refine den_out hn Try.func22 rfl (callOk_sound rfl) ?_
  have e1 : firstV [.int .i64 (checkLosses x y z), .int .i64 (if (256 : Int) < l.length then 5 else 0)] = firstE [checkLosses x y z, if 256 < l.length then 5 else 0] := by
    have : ((256 : Int) < l.length) = (256 < l.length) := by apply propext; omega
    simp only [this]; rfl
  by_cases hx : firstE [checkLosses x y z, if 256 < l.length then 5 else 0] = 0
  · obtain ⟨v66, A1, m1, a', c', rfl, m2, m3⟩ := m66 (A := ((A.push (.cells [.int .i64 x, .int .i64 y, .int .i64 z] 72 false false 0)).push (.cells [.int .i64 0, .int .i64 0] 69 false false 0)).push (.cells [.int .i64 (checkLosses x y z), .int .i64 (if (256 : Int) < l.length then 5 else 0)] 29 false false 0)) hu (h.grow (by have hgg := Grow.refl A; have hgn := hgg.n; repeat (first | exact hgg | exact Grow.refl _ | apply Grow.push | refine Grow.set ?_ (by first | omega | (simp; omega)) _))) hlen
    have m4 := first47 hu A1 a' c' (errs l) (by simp [errs]; omega) m2
    have g2 := m3.old A.n (by simp)
    have g4 := m3.old (A.n + 1) (by simp)
    simp at g2 g4
    have hgA : Grow A A1 := by refine Grow.trans ?_ m3; exact (by have hgg := Grow.refl A; have hgn := hgg.n; repeat (first | exact hgg | exact Grow.refl _ | apply Grow.push | refine Grow.set ?_ (by first | omega | (simp; omega)) _))
    have hgn := m3.n
    simp at hgn
    by_cases hy : firstE (errs l) = 0
    · have hb0 : balE x y z l = 0 := balE_zero.2 ⟨by simp [firstE] at hx; by_cases h0 : checkLosses x y z = 0 <;> simp_all, by simp [firstE] at hx; by_cases h0 : checkLosses x y z = 0 <;> simp_all <;> omega, hy⟩
      obtain ⟨hX, hY, hZ⟩ := checkLosses_zero.1 (balE_zero.1 hb0).1
      have hl256 := (balE_zero.1 hb0).2.1
      simp [Try.f22, u65 h65, Res.lay, when56 hu, first47n hu, e1, hx, m1, m4, hy]
      generalize hL : xden Try.prog ov none (Code.loop _) _ = L
      have hl : ∃ x' s', L = some (x', s') ∧ ∃ τ B, s' = ⟨τ, 67, B, []⟩ ∧ x' = .exit 0 ∧ Grow A B ∧ τ.get 4 = some (.pointer (some ⟨A.n + 1, 0, none⟩)) ∧ τ.get 8 = some (.pointer (some ⟨A1.n, 0, none⟩)) ∧ A1.n < B.n ∧ (∃ ver, B.get (A.n + 1) = .cells [.int .i64 0, .int .i64 0] 69 false false ver) ∧
          (∃ ver, B.get A1.n = .cells [.int .i64 (sum2 (delLo x y z) 0 l), .int .i64 (sum2 (delHi x y z) 0 l)] 147 false false ver) := by
        rw [← hL]
        clear hL
        refine loop_rule (fun m s => ∃ i lo hi, i ≤ l.length ∧ m = l.length - i ∧ sum2 (delLo x y z) lo (l.drop i) = sum2 (delLo x y z) 0 l ∧ sum2 (delHi x y z) hi (l.drop i) = sum2 (delHi x y z) 0 l ∧ 0 ≤ lo ∧ lo ≤ 1000 * i ∧ 0 ≤ hi ∧ hi ≤ 1000 * i ∧ ∃ τ B, s = ⟨τ, 67, B, []⟩ ∧ Grow A B ∧ τ.get 2 = some (.pointer (some ⟨A.n, 0, none⟩)) ∧ τ.get 4 = some (.pointer (some ⟨A.n + 1, 0, none⟩)) ∧ τ.get 8 = some (.pointer (some ⟨A1.n, 0, none⟩)) ∧ τ.get 32 = some (.slice a l.length c) ∧ τ.get 33 = some (.int .i64 l.length) ∧ τ.get 34 = some (.int .i64 i) ∧ A1.n < B.n ∧
          (∃ ver, B.get (A.n + 1) = .cells [.int .i64 0, .int .i64 0] 69 false false ver) ∧ (∃ ver, B.get A.n = .cells [.int .i64 x, .int .i64 y, .int .i64 z] 72 false false ver) ∧
          (∃ ver, B.get A1.n = .cells [.int .i64 lo, .int .i64 hi] 147 false false ver)) ?_ l.length _ ⟨0, 0, 0, by omega, by omega, rfl, rfl, by omega, by omega, by omega, by omega, _, _, rfl, (by have hgg := hgA; have hgn := hgg.n; repeat (first | exact hgg | exact Grow.refl _ | apply Grow.push | refine Grow.set ?_ (by first | omega | (simp; omega)) _)), by simp, by simp, by simp, by simp, by simp, by simp, by simp, ⟨_, by simp [g4, show A.n + 1 ≠ A1.n by omega]; rfl⟩, ⟨_, by simp [g2, show A.n ≠ A1.n by omega]; rfl⟩, ⟨_, by simp; rfl⟩⟩
        rintro m s ⟨i, lo, hi, hi1, rfl, hf1, hf2, hlo, hlo2, hhi, hhi2, τ, B, rfl, hg, h2, h4, h8, h32, h33, h34, hnB, ⟨v4, hb4⟩, ⟨v2, hb2⟩, ⟨v8, hb8⟩⟩
        by_cases hlt : i < l.length
        · skip
          obtain ⟨k, o, sp, rfl, hr⟩ := (h.grow hg).at hlt
          have hc := hr.cells i hlt
          have hd : l.drop i = l[i] :: l.drop (i + 1) := by simp
          have hw : IntKind.i64.wrap ((i : Int) + 1) = ((i + 1 : Nat) : Int) := by rw [wrap64_of (by omega)]; omega
          have hc0 := hr.cell i hlt 0 (by decide)
          simp at hc hc0
          rw [sum2_step _ _ _ _ hlt] at hf1 hf2
          have hP := errs_ok hy hlt
          have hlb := loss_bd hX hY hZ hP
          have hd1 : 0 ≤ delLo x y z l[i] ∧ delLo x y z l[i] ≤ 1000 := by unfold delLo; omega
          have hd2 : 0 ≤ delHi x y z l[i] ∧ delHi x y z l[i] ≤ 1000 := by unfold delHi; omega
          simp [h2, h4, h8, h32, h33, h34, hlt, hc0, cellsAt_eq, cellAt_eq, hb2, u68 h68 x y z l[i] ⟨hX, hY, hZ, hP⟩, Res.lay]
          rw [ne147]
          have ne1 : A1.n ≠ B.n := by omega
          have ne2 : A1.n ≠ B.n + 1 := by omega
          have ne3 : A.n ≠ B.n := by omega
          have ne4 : A.n ≠ B.n + 1 := by omega
          have ne5 : A.n ≠ A1.n := by omega
          have ne6 : A.n + 1 ≠ B.n := by omega
          have ne7 : A.n ≠ B.n := by omega
          have ne8 : A.n + 1 ≠ A1.n := by omega
          have wl : IntKind.i64.wrap (lo + delLo x y z l[i]) = lo + delLo x y z l[i] := wrap64_of (by omega)
          have wh : IntKind.i64.wrap (hi + delHi x y z l[i]) = hi + delHi x y z l[i] := wrap64_of (by omega)
          by_cases h0 : delLo x y z l[i] = 0 ∧ delHi x y z l[i] = 0
          · rw [h0.1] at hf1
            rw [h0.2] at hf2
            simp [h0, h34, hw]
            exact ⟨_, by omega, i + 1, lo, hi, by omega, rfl, by simpa using hf1, by simpa using hf2, by omega, by omega, by omega, by omega, _, _, rfl, (by have hgg := hg; have hgn := hgg.n; repeat (first | exact hgg | exact Grow.refl _ | apply Grow.push | refine Grow.set ?_ (by first | omega | (simp; omega)) _)), by simp [h2], by simp [h4], by simp [h8], by simp [h32], by simp [h33], by simp, by simp; omega, ⟨_, by simp [hb4, ne6, ne7]; rfl⟩, ⟨_, by simp [hb2, ne3, ne4]; rfl⟩, ⟨_, by simp [hb8, ne1, ne2]; rfl⟩⟩
          · simp [h0, h8, h34, hw, cellAt_eq, ne1, ne2, ne1.symm, ne2.symm, hb8, wl, wh]
            exact ⟨_, by omega, i + 1, lo + delLo x y z l[i], hi + delHi x y z l[i], by omega, rfl, hf1, hf2, by omega, by omega, by omega, by omega, _, _, rfl, (by have hgg := hg; have hgn := hgg.n; repeat (first | exact hgg | exact Grow.refl _ | apply Grow.push | refine Grow.set ?_ (by first | omega | (simp; omega)) _)), by simp [h2], by simp [h4], by simp [h8], by simp [h32], by simp [h33], by simp, by simp; omega, ⟨_, by simp [hb4, ne6, ne7, ne8]; rfl⟩, ⟨_, by simp [hb2, ne3, ne4, ne5]; rfl⟩, ⟨_, by simp; rfl⟩⟩
        · have : l.drop i = [] := List.drop_eq_nil_of_le (by omega)
          rw [this, sum2] at hf1 hf2
          subst hf1 hf2
          simp [h32, h33, h34, hlt]
          exact ⟨_, _, rfl, rfl, hg, by simp [h4], by simp [h8], hnB, ⟨_, hb4⟩, ⟨_, hb8⟩⟩
      obtain ⟨x', s', rfl, τ, B, rfl, rfl, hg, h4, h8, hnB, ⟨v4, hb4⟩, ⟨v8, hb8⟩⟩ := hl
      simp [h4, h8, cellAt_eq, hb8, hb4, cellsAt_eq]
      exact ⟨by simp [ResIs, balR, hb0], (by have hgg := hg; have hgn := hgg.n; repeat (first | exact hgg | exact Grow.refl _ | apply Grow.push | refine Grow.set ?_ (by first | omega | (simp; omega)) _))⟩
    · simp [Try.f22, u65 h65, Res.lay, when56 hu, first47n hu, e1, hx, m1, m4, hy, g4]
      exact ⟨by simp [ResIs, balR, balE, hx, hy], (by have hgg := hgA; have hgn := hgg.n; repeat (first | exact hgg | exact Grow.refl _ | apply Grow.push | refine Grow.set ?_ (by first | omega | (simp; omega)) _))⟩
  · simp [Try.f22, u65 h65, Res.lay, when56 hu, first47n hu, e1, hx]
    exact ⟨by simp [ResIs, balR, balE, hx], (by have hgg := Grow.refl A; have hgn := hgg.n; repeat (first | exact hgg | exact Grow.refl _ | apply Grow.push | refine Grow.set ?_ (by first | omega | (simp; omega)) _))⟩
def F22 : List DT → Option Res
  | [.f (.agg ⟨[.int .i64 x, .int .i64 y, .int .i64 z]⟩), dl] => (match dSl (cI .i64) dl with
    | some l => if l.length < 1000 then some (.v (balR x y z l)) else none
    | none => none)
  | _ => none
theorem s22 (ho : OvSound Try.prog ov) (hu : Un ov) (hn : ov 22 = none) (h65 : ov 65 = some (con Try.prog F65)) (h68 : ov 68 = some (con Try.prog F68)) : OvSound Try.prog (ov.add 22 (con Try.prog F22)) := ho.addF Try.mixed Try.okProg F22 fun args A ds r hg hds hF => by
  unfold F22 at hF
  split at hF
  case h_2 => cases hF
  split at hF
  case h_2 => cases hF
  rename_i l el
  split at hF
  case isFalse => cases hF
  rename_i hgd
  cases hF
  obtain ⟨v0, v1, rfl, h0, h1⟩ := args2 hds
  obtain rfl := decV_f h0
  obtain ⟨al, cl, rfl, hl⟩ := sl_read h1 el
  obtain ⟨v, A1, e, hr, hgr⟩ := b22 hu hn h65 h68 _ _ _ hl hgd
  exact ⟨v, A1, e, hgr, hr⟩
theorem u22 (h : ov 22 = some (con Try.prog F22)) (x y z : Int) {al : Option Addr} {cl : Nat} {l : List (Int)} (hl : IsSl Try.prog A (cI .i64) al cl l) (hgd : l.length < 1000) : den Try.prog ov (.func 22) #[(.agg #[.int .i64 x, .int .i64 y, .int .i64 z]), (.slice al l.length cl)] A = some (Res.lay A (.v (balR x y z l))) := by
  rw [den_ov h]
  obtain ⟨dl, dl1, dl2⟩ := sl_dec (n := 3) hl
  refine con_eq gW (ds := [.f (.agg #[.int .i64 x, .int .i64 y, .int .i64 z]), dl]) (by simp [mapO, decV_flat, dl1, dl2]) (by simp [F22, dl2, hgd]) ?_
  show flatB (balR x y z l) = true; unfold balR; split <;> rfl
end Go.AM.W
