/-
  The W seat: the ramp.
-/
import Derived.Test.YthfphmbjhmaomaaW4
namespace Go.AM.W
open Go.Proofs Go.AM
variable {ov : Ov} {A A' : CW}
set_option maxRecDepth 100000

abbrev Stp := Int × Int × Int × Int
def refE (r lo hi : Int) (s : Stp) : Int := refusedE r lo hi s.1 s.2.1 s.2.2.1 s.2.2.2
def Bds (s : Stp) : Prop := Bd s.1 ∧ Bd s.2.1 ∧ Bd s.2.2.1 ∧ Bd s.2.2.2
theorem m60 (hu : Un ov) (h61 : ov 61 = some (con Try.prog F61)) (r lo hi : Int) (hrb : Bd r) {a : Option Addr} {c : Nat} {l : List Stp} (h : IsSl Try.prog A c4 a c l) (hlen : l.length < 1000) (hb : ∀ s ∈ l, Bds s) :
    ∃ v A', den Try.prog ov (.func 60) #[.slice a l.length c, .func (.func 61) #[.agg #[.int .i64 r, .int .i64 lo, .int .i64 hi]] #[]] A = some (v, A') ∧ ∃ a' c', v = .slice a' (l.map (refE r lo hi)).length c' ∧ IsSl Try.prog A' (cI .i64) a' c' (l.map (refE r lo hi)) ∧ Grow A A' := by
  refine den_out (hu 60 (by decide)) Try.func60 rfl (callOk_sound rfl) ?_
  simp [Try.f60]
  generalize hL : xden Try.prog ov none (Code.loop _) _ = L
  have hl : ∃ x' s', L = some (x', s') ∧ ∃ τ B, s' = ⟨τ, 22, B, []⟩ ∧ x' = .exit 0 ∧ Grow A B ∧ ∃ a' c', τ.get 5 = some (.slice a' l.length c') ∧ IsSl Try.prog B (cI .i64) a' c' (l.map (refE r lo hi)) := by
    rw [← hL]
    clear hL
    refine loop_rule (fun m s => ∃ i, i ≤ l.length ∧ m = l.length - i ∧ ∃ τ B, s = ⟨τ, 22, B, []⟩ ∧ Grow A B ∧ τ.get 1 = some (.func (.func 61) #[.agg #[.int .i64 r, .int .i64 lo, .int .i64 hi]] #[]) ∧ τ.get 8 = some (.slice a l.length c) ∧ τ.get 9 = some (.int .i64 l.length) ∧ τ.get 10 = some (.int .i64 i) ∧ ∃ a' c', τ.get 5 = some (.slice a' i c') ∧ Acc B A.n a' i c' (((l.take i).map (refE r lo hi)).flatMap (cI .i64).enc) 29 1) ?_ l.length _ ⟨0, by omega, by omega, _, _, rfl, Grow.refl _, by simp, by simp, by simp, by simp, none, 0, by simp, Acc.nil _ _ _ _⟩
    rintro m s ⟨i, hi1, rfl, τ, B, rfl, hg, h1, h8, h9, h10, a', c', h5, hacc⟩
    by_cases hlt : i < l.length
    · skip
      obtain ⟨k, o, sp, rfl, hr⟩ := (h.grow hg).at hlt
      have hc := hr.cells i hlt
      have hd : l.drop i = l[i] :: l.drop (i + 1) := by simp
      have hw : IntKind.i64.wrap ((i : Int) + 1) = ((i + 1 : Nat) : Int) := by rw [wrap64_of (by omega)]; omega
      have hc0 := hr.cell i hlt 0 (by decide)
      simp at hc hc0
      have hgn := hg.n
      have hbi := hb l[i] (List.getElem_mem hlt)
      simp [h1, h8, h9, h10, h5, hlt, hc, u61 h61 r lo hi l[i].1 l[i].2.1 l[i].2.2.1 l[i].2.2.2 ⟨hbi.1, hbi.2.1, hbi.2.2.1, hrb, hbi.2.2.2⟩, Res.lay]
      generalize hap : append _ _ _ _ = ap
      obtain ⟨B', rfl, hacc', hn', hk', hgr⟩ := acc_app hap hacc un137 un137 Try.sz29 Try.by29 Try.ze29 rfl (by omega) rfl (by omega) rfl (by omega) (by simp) (by simp) (by simp; omega) (by omega) (fun k hk1 hk2 => by simp [show k ≠ B.n from by omega, show k ≠ B.n + 1 from by omega, show k ≠ B.n + 1 + 1 from by omega, show k ≠ B.n + 1 + 1 + 1 from by omega])
      simp [h10, hw]
      have ht : (l.take (i + 1)).map (refE r lo hi) = (l.take i).map (refE r lo hi) ++ [refE r lo hi l[i]] := by rw [List.take_succ_eq_append_getElem hlt, List.map_append]; rfl
      exact ⟨_, by omega, i + 1, by omega, rfl, _, _, rfl, (by have hgg := hgr A (by omega) (by omega) (by have hgg := hg; have hgn := hgg.n; repeat (first | exact hgg | exact Grow.refl _ | apply Grow.push | refine Grow.set ?_ (by first | omega | (simp; omega)) _)); have hgn := hgg.n; repeat (first | exact hgg | exact Grow.refl _ | apply Grow.push | refine Grow.set ?_ (by first | omega | (simp; omega)) _)), by simp [h1], by simp [h8], by simp [h9], by simp, _, _, by simp; exact ⟨rfl, rfl⟩, by rw [ht]; simpa [refE] using hacc'⟩
    · have hil : i = l.length := by omega
      subst hil
      simp [h8, h9, h10, hlt]
      rw [List.take_length] at hacc
      obtain ⟨q1, q2⟩ := hacc.isSl Try.sz29
      exact ⟨_, _, rfl, rfl, hg, _, _, by simp [h5], q1⟩
  obtain ⟨x', s', rfl, τ, B, rfl, rfl, hg, a', c', h5, hs⟩ := hl
  simp [h5]
  exact ⟨_, _, by simp; exact ⟨rfl, rfl⟩, by simpa using hs, hg⟩

def idxG (t : Int) : Int → List Stp → Int
  | _, [] => -1
  | i, s :: r => if t ≤ s.1 then i else idxG t (i + 1) r
theorem b63 (hu : Un ov) (p q b s : Int) {k ver : Nat} {t : Int} (hk : A.get k = .cells [.int .i64 t] 3 false false ver) (hkn : k < A.n) :
    ∃ v A', den Try.prog ov (.func 63) #[.agg #[.int .i64 p, .int .i64 q, .int .i64 b, .int .i64 s], .pointer (some ⟨k, 0, none⟩)] A = some (v, A') ∧ v = .bool (decide (t ≤ p)) ∧ Grow A A' := by
  refine den_out (hu 63 (by decide)) Try.func63 rfl (callOk_sound rfl) ?_
  have : k ≠ A.n := by omega
  simp [Try.f63, cellAt_eq, hk, this]
  exact ⟨rfl, Grow.push1 _ _⟩
theorem m62 (hu : Un ov) {a : Option Addr} {c : Nat} {l : List Stp} (h : IsSl Try.prog A c4 a c l) (hlen : l.length < 1000) {k ver : Nat} {t : Int} (hk : A.get k = .cells [.int .i64 t] 3 false false ver) (hkn : k < A.n) :
    ∃ v A', den Try.prog ov (.func 62) #[.slice a l.length c, .func (.func 63) #[] #[.pointer (some ⟨k, 0, none⟩)]] A = some (v, A') ∧ v = .int .i64 (idxG t 0 l) ∧ Grow A A' := by
  refine den_out (hu 62 (by decide)) Try.func62 rfl (callOk_sound rfl) ?_
  simp [Try.f62]
  generalize hL : xden Try.prog ov none (Code.loop _) _ = L
  have hl : ∃ x' s', L = some (x', s') ∧ ∃ τ B, s' = ⟨τ, 19, B, []⟩ ∧ Grow A B ∧ ((x' = .exit 0 ∧ idxG t 0 l = -1) ∨ (x' = .ret ∧ τ.get 4 = some (.int .i64 (idxG t 0 l)))) := by
    rw [← hL]
    clear hL
    refine loop_rule (fun m s => ∃ i, i ≤ l.length ∧ m = l.length - i ∧ idxG t i (l.drop i) = idxG t 0 l ∧ ∃ τ B, s = ⟨τ, 19, B, []⟩ ∧ Grow A B ∧ τ.get 0 = some (.slice a l.length c) ∧ τ.get 1 = some (.func (.func 63) #[] #[.pointer (some ⟨k, 0, none⟩)]) ∧ τ.get 7 = some (.int .i64 l.length) ∧ τ.get 8 = some (.int .i64 i)) ?_ l.length _ ⟨0, by omega, by omega, rfl, _, _, rfl, Grow.refl _, by simp, by simp, by simp, by simp⟩
    rintro m s ⟨i, hi1, rfl, hf, τ, B, rfl, hg, h0, h1, h7, h8⟩
    by_cases hlt : i < l.length
    · obtain ⟨k', o, sp, rfl, hr⟩ := (h.grow hg).at hlt
      have hc := hr.cells i hlt
      have hd : l.drop i = l[i] :: l.drop (i + 1) := by simp
      have hw : IntKind.i64.wrap ((i : Int) + 1) = ((i + 1 : Nat) : Int) := by rw [wrap64_of (by omega)]; omega
      simp at hc
      rw [hd, idxG] at hf
      obtain ⟨v, B', h63, rfl, hg'⟩ := b63 (A := B) hu l[i].1 l[i].2.1 l[i].2.2.1 l[i].2.2.2 (by rw [hg.old k hkn]; exact hk) (Nat.lt_of_lt_of_le hkn hg.n)
      by_cases hle : t ≤ l[i].1
      · rw [if_pos hle] at hf
        simp [h0, h1, h7, h8, hlt, hc, h63, hle]
        exact ⟨_, _, rfl, hg.trans hg', .inr ⟨rfl, by simp [hf]⟩⟩
      · rw [if_neg hle] at hf
        simp [h0, h1, h7, h8, hlt, hc, h63, hle, hw]
        exact ⟨_, by omega, i + 1, by omega, rfl, by simpa using hf, _, _, rfl, hg.trans hg', by simp [h0], by simp [h1], by simp [h7], by simp⟩
    · have : l.drop i = [] := List.drop_eq_nil_of_le (by omega)
      rw [this, idxG] at hf
      simp [h0, h1, h7, h8, hlt]
      exact ⟨_, _, rfl, hg, .inl ⟨rfl, hf.symm⟩⟩
  obtain ⟨x', s', rfl, τ, B, rfl, hg, ⟨rfl, h4⟩ | ⟨rfl, h4⟩⟩ := hl
  · simp
    exact ⟨by rw [h4], hg⟩
  · simp [h4]
    exact ⟨rfl, hg⟩
end Go.AM.W

/-
  The W seat: the ramp.
-/
namespace Go.AM.W
open Go.Proofs Go.AM
variable {ov : Ov} {A A' : CW}
set_option maxRecDepth 100000

theorem firstE_cons {e : Int} {l : List Int} : firstE (e :: l) = 0 ↔ e = 0 ∧ firstE l = 0 := by
  by_cases h : e = 0 <;> simp [firstE, h]
theorem when_zero {p : Prop} [Decidable p] {e : Int} (he : e ≠ 0) : (if p then e else 0) = 0 ↔ ¬ p := by by_cases h : p <;> simp [h, he]
theorem ordE_zero {last : Int} {x : Int × Int} : ordE last x = 0 ↔ (0 ≤ x.1 ∧ x.1 ≤ 100000) ∧ (-1000 ≤ x.2 ∧ x.2 ≤ 1000) ∧ last < x.1 := by
  unfold ordE
  rw [firstE_cons, firstE_cons, firstE_cons, withinE_zero, withinE_zero, when_zero (by decide)]
  simp [firstE]
def OkOrd (x : Int × Int) : Prop := (0 ≤ x.1 ∧ x.1 ≤ 100000) ∧ (-1000 ≤ x.2 ∧ x.2 ≤ 1000)
theorem chkOrd_ok : ∀ {l : List (Int × Int)} {last : Int}, chkOrd last l = 0 → ∀ x ∈ l, OkOrd x ∧ last < x.1
  | [], _, _, x, hx => by simp at hx
  | y :: l, last, h, x, hx => by
    rw [chkOrd] at h
    split at h
    · rename_i h0
      obtain ⟨h1, h2, h3⟩ := ordE_zero.1 h0
      rcases List.mem_cons.1 hx with rfl | hx
      · exact ⟨⟨h1, h2⟩, h3⟩
      · obtain ⟨h4, h5⟩ := chkOrd_ok h x hx
        exact ⟨h4, by omega⟩
    · contradiction
theorem checkOrds_zero {l : List (Int × Int)} : checkOrds l = 0 ↔ l.length ≤ 32 ∧ chkOrd (-1) l = 0 := by
  unfold checkOrds; split
  · simp; omega
  · simp; omega
theorem checkRules_zero {r lo hi : Int} : checkRules r lo hi = 0 ↔ (1 ≤ r ∧ r ≤ 1000) ∧ (-1000 ≤ lo ∧ lo ≤ 1000) ∧ (-1000 ≤ hi ∧ hi ≤ 1000) ∧ lo ≤ hi := by
  unfold checkRules
  rw [firstE_cons, firstE_cons, firstE_cons, firstE_cons, withinE_zero, withinE_zero, withinE_zero, when_zero (by decide)]
  simp [firstE]
theorem checkAll_zero {r lo hi p : Int} {l : List (Int × Int)} : checkAll r lo hi p l = 0 ↔ checkRules r lo hi = 0 ∧ (lo ≤ p ∧ p ≤ hi) ∧ checkOrds l = 0 := by
  unfold checkAll
  rw [firstE_cons, firstE_cons, firstE_cons, withinE_zero]
  simp [firstE]
theorem stepsG_bds : ∀ {l : List (Int × Int)} {last : Int × Int}, (∀ x ∈ l, OkOrd x) → OkOrd last → ∀ s ∈ stepsG last l, Bds s
  | [], _, _, _, s, hs => by simp [stepsG] at hs
  | y :: l, last, h, hl, s, hs => by
    have hy := h y (by simp)
    rw [stepsG] at hs
    rcases List.mem_cons.1 hs with rfl | hs
    · unfold OkOrd at hy hl; unfold Bds Bd; simp only; omega
    · exact stepsG_bds (fun x hx => h x (by simp [hx])) hy s hs
theorem idxG_spec (t : Int) : ∀ (l : List Stp) (i : Int), idxG t i l = -1 ∨ ∃ j : Nat, j < l.length ∧ idxG t i l = i + j
  | [], _ => .inl rfl
  | s :: l, i => by
    rw [idxG]
    split
    · exact .inr ⟨0, by simp, by omega⟩
    · rcases idxG_spec t l (i + 1) with h | ⟨j, h1, h2⟩
      · exact .inl h
      · exact .inr ⟨j + 1, by simpa using h1, by omega⟩
def rampAt (r p : Int) (all : List Stp) (t : Int) : Int := if 0 ≤ idxG t 0 all then (match all[(idxG t 0 all).toNat]? with | some s => atE s.1 s.2.1 s.2.2.1 r t | none => 0) else match all[all.length - 1]? with | some s => s.2.1 | none => p
def rampL (r p : Int) (all : List Stp) (n : Nat) : List Int := (List.range n).map fun (t : Nat) => rampAt r p all (t : Int)
def rampE0 (r lo hi p : Int) (l : List (Int × Int)) (n : Int) : Int := firstE [checkAll r lo hi p l, withinE n 1 256]
def rampE1 (r lo hi p : Int) (l : List (Int × Int)) : Int := firstE ((stepsG (0, p) l).map (refE r lo hi))
def rampE (r lo hi p : Int) (l : List (Int × Int)) (n : Int) : Int := if rampE0 r lo hi p l n = 0 then rampE1 r lo hi p l else rampE0 r lo hi p l n
def rampR (r lo hi p : Int) (l : List (Int × Int)) (n : Int) : Res := if rampE r lo hi p l n = 0 then accR ((rampL r p (stepsG (0, p) l) n.toNat).flatMap (cI .i64).enc) 3 1 n.toNat (some ([], [.int .i64 0])) else .v (.tuple #[.slice none 0 0, .int .i64 (rampE r lo hi p l n)])

theorem b20 (hu : Un ov) (hn : ov 20 = none) (h57 : ov 57 = some (con Try.prog F57)) (h59 : ov 59 = some (con Try.prog F59)) (h61 : ov 61 = some (con Try.prog F61)) (h64 : ov 64 = some (con Try.prog F64)) (r lo hi p n : Int) {a : Option Addr} {c : Nat} {l : List (Int × Int)} (h : IsSl Try.prog A cII a c l) (hlen : l.length < 1000) :
    ∃ v A', den Try.prog ov (.func 20) #[.agg #[.int .i64 r, .int .i64 lo, .int .i64 hi], .int .i64 p, .slice a l.length c, .int .i64 n] A = some (v, A') ∧ ResIs A A' v (rampR r lo hi p l n) ∧ Grow A A' := by
  refine den_out hn Try.func20 rfl (callOk_sound rfl) ?_
  have e1 : firstV [.int .i64 (checkAll r lo hi p l), .int .i64 (withinE n 1 256)] = rampE0 r lo hi p l n := rfl
  have h1 := h.grow (Grow.push1 A (.cells [.int .i64 r, .int .i64 lo, .int .i64 hi] 66 false false 0))
  by_cases hx : rampE0 r lo hi p l n = 0
  · have hall : checkAll r lo hi p l = 0 := (firstE_cons.1 hx).1
    have hn1 := withinE_zero.1 (firstE_cons.1 (firstE_cons.1 hx).2).1
    obtain ⟨hru, hp, hor⟩ := checkAll_zero.1 hall
    obtain ⟨hr1, hr2, hr3, hr4⟩ := checkRules_zero.1 hru
    have hbds := stepsG_bds (last := (0, p)) (fun x hx => (chkOrd_ok (checkOrds_zero.1 hor).2 x hx).1) (by unfold OkOrd; simp only; omega)
    have hsl := stepsG_len l (0, p)
    generalize hall' : stepsG (0, p) l = all at hbds hsl
    have hlr : l.length = all.length := hsl.symm
    let A0 := (A.push (.cells [.int .i64 r, .int .i64 lo, .int .i64 hi] 66 false false 0)).push (.cells [.int .i64 (checkAll r lo hi p l), .int .i64 (withinE n 1 256)] 29 false false 0)
    have hA0 : Grow A A0 := (by have hgg := Grow.refl A; have hgn := hgg.n; repeat (first | exact hgg | exact Grow.refl _ | apply Grow.push | refine Grow.set ?_ (by first | omega | (simp; omega)) _))
    have hA0n : A0.n = A.n + 2 := by simp [A0]
    have u59' := u59 (A := A0) h59 p (h.grow hA0) hlen
    obtain ⟨a1, c1, A1, hlay, hs1, hg1, hac1⟩ := accR_lay (P := Try.prog) (A := A0) (c := c4) (l := all) (e := 140) Try.sz140 (fun x => rfl) none (r := accR ((stepsG (0, p) l).flatMap c4.enc) 140 4 l.length none) (by rw [hall', hlr]; rfl)
    rw [hlay] at u59'
    simp only [Res.wr] at u59'
    obtain ⟨v2, A2, m1, a2, c2, rfl, m2, hg2⟩ := m60 (A := A1) hu h61 r lo hi (by unfold Bd; omega) hs1 (by omega) hbds
    have m3 := first47 hu A2 a2 c2 _ (by simp; omega) m2
    simp only [List.length_map] at m3
    have hgA : Grow A A2 := (hA0.trans hg1).trans hg2
    have hgn := hgA.n
    have e3 : firstE (all.map (refE r lo hi)) = rampE1 r lo hi p l := by rw [rampE1, hall']
    have hbox : A2.get A.n = .cells [.int .i64 r, .int .i64 lo, .int .i64 hi] 66 false false 0 := by
      rw [hg2.old A.n (by have := hg1.n; omega), hg1.old A.n (by omega)]; simp [A0]
    have hA1n : A.n + 2 ≤ A1.n := by have := hg1.n; omega
    have hA2n : A.n + 2 ≤ A2.n := by have := hg2.n; omega
    have hbox1 : A1.get A.n = .cells [.int .i64 r, .int .i64 lo, .int .i64 hi] 66 false false 0 := by
      rw [hg1.old A.n (by omega)]; simp [A0]
    by_cases hy : rampE1 r lo hi p l = 0
    · simp [Try.f20, within58 hu, u57 h57 r lo hi p h1 hlen, Res.lay, first47n hu, e1, hx, u59', cellsAt_eq, hbox1, m1, m3, e3, hy, A0]
      generalize hL : xden Try.prog ov none (Code.loop _) _ = L
      have hl : ∃ x' s', L = some (x', s') ∧ ∃ τ B, s' = ⟨τ, 80, B, []⟩ ∧ x' = .exit 0 ∧ Grow A2 B ∧ ∃ a' c', τ.get 13 = some (.slice a' n.toNat c') ∧ Acc B A2.n a' n.toNat c' ((rampL r p all n.toNat).flatMap (cI .i64).enc) 3 1 := by
        rw [← hL]
        clear hL
        refine loop_rule (fun m s => ∃ i : Nat, i ≤ n.toNat ∧ m = n.toNat - i ∧ ∃ τ B, s = ⟨τ, 80, B, []⟩ ∧ Grow A2 B ∧ τ.get 1 = some (.int .i64 p) ∧ τ.get 4 = some (.pointer (some ⟨A.n, 0, none⟩)) ∧ τ.get 11 = some (.slice a1 all.length c1) ∧ τ.get 38 = some (.int .i64 n) ∧ τ.get 39 = some (.int .i64 i) ∧
          ∃ a' c', τ.get 13 = some (.slice a' i c') ∧ Acc B A2.n a' i c' ((rampL r p all i).flatMap (cI .i64).enc) 3 1) ?_ n.toNat _ ⟨0, by omega, by omega, _, _, rfl, Grow.refl _, by simp, by simp, by simp, by simp, by simp, none, 0, by simp, Acc.nil _ _ _ _⟩
        rintro m s ⟨i, hi1, rfl, τ, B, rfl, hg, t1, t4, t11, t38, t39, a', c', t13, hacc⟩
        by_cases hlt : (i : Int) < n
        · have hw : IntKind.i64.wrap ((i : Int) + 1) = ((i + 1 : Nat) : Int) := by rw [wrap64_of (by omega)]; omega
          have hgn := hg.n
          let B1 := (B.push (.cells [.int .i64 0] 3 false false 0)).set B.n (.cells [.int .i64 i] 3 false false 1)
          have hB1 : Grow B B1 := (by have hgg := Grow.refl B; have hgn := hgg.n; repeat (first | exact hgg | exact Grow.refl _ | apply Grow.push | refine Grow.set ?_ (by first | omega | (simp; omega)) _))
          obtain ⟨v, B2, mm, rfl, hgB2⟩ := m62 (A := B1) (k := B.n) (ver := 1) (t := (i : Int)) hu (hs1.grow ((hg2.trans hg).trans hB1)) (by omega) (by simp [B1]) (by simp [B1])
          have hgn2 := hgB2.n
          have hB1n : B1.n = B.n + 1 := by simp [B1]
          have k1 : B2.get A.n = .cells [.int .i64 r, .int .i64 lo, .int .i64 hi] 66 false false 0 := by
            rw [hgB2.old A.n (by omega), hB1.old A.n (by omega), hg.old A.n (by omega), hbox]
          have k2 : B2.get B.n = .cells [.int .i64 i] 3 false false 1 := by rw [hgB2.old B.n (by omega)]; simp [B1]
          have hs2 := hs1.grow (((hg2.trans hg).trans hB1).trans hgB2)
          have hgA2 : Grow A2 B2 := (hg.trans hB1).trans hgB2
          have hrl : ∀ x, rampAt r p all (i : Int) = x → (rampL r p all (i + 1)).flatMap (cI .i64).enc = (rampL r p all i).flatMap (cI .i64).enc ++ [.int .i64 x] := by
            rintro x rfl
            simp [rampL, List.range_succ]
          rcases idxG_spec (i : Int) all 0 with hi | ⟨j, hj, hi⟩
          · rw [hi] at mm
            simp only [B1] at mm
            by_cases hz : 0 < all.length
            · obtain ⟨k, o, sp, rfl, hr⟩ := hs2.at (i := all.length - 1) (by omega)
              have hc := hr.cells (all.length - 1) (by omega)
              have hc1 := hr.cell (all.length - 1) (by omega) 1 (by decide)
              simp at hc hc1
              have hwl : IntKind.i64.wrap ((all.length : Int) - 1) = ((all.length - 1 : Nat) : Int) := by rw [wrap64_of (by omega)]; omega
              have hz' : (0 : Int) < all.length := by omega
              have hlt2 : all.length - 1 < all.length := by omega
              simp [t1, t4, t11, t38, t39, t13, hlt, mm, hz, hz', hwl, hc1, hlt2]
              generalize hap : append _ _ _ _ = ap
              obtain ⟨B', rfl, hacc', hn', hk', hgr⟩ := acc_app hap hacc un28 un28 Try.sz3 Try.by3 Try.ze3 rfl (by omega) rfl (by omega) rfl (by omega) rfl (by omega) (by omega) (by omega) (fun k hk1 hk2 => by rw [hgB2.old k (by omega), hB1.old k hk2])
              simp [t39, hw]
              exact ⟨_, by omega, i + 1, by omega, rfl, _, _, rfl, hgr A2 (by omega) (by omega) hgA2, by simp [t1], by simp [t4], by simp [t11], by simp [t38], by simp, _, _, by simp; exact ⟨rfl, rfl⟩, by rw [hrl _ (by simp [rampAt, hi]; rw [List.getElem?_eq_getElem hlt2])]; exact hacc'⟩
            · simp [t1, t4, t11, t38, t39, t13, hlt, mm, hz]
              generalize hap : append _ _ _ _ = ap
              obtain ⟨B', rfl, hacc', hn', hk', hgr⟩ := acc_app hap hacc un28 un28 Try.sz3 Try.by3 Try.ze3 rfl (by omega) rfl (by omega) rfl (by omega) rfl (by omega) (by omega) (by omega) (fun k hk1 hk2 => by rw [hgB2.old k (by omega), hB1.old k hk2])
              simp [t39, hw]
              exact ⟨_, by omega, i + 1, by omega, rfl, _, _, rfl, hgr A2 (by omega) (by omega) hgA2, by simp [t1], by simp [t4], by simp [t11], by simp [t38], by simp, _, _, by simp; exact ⟨rfl, rfl⟩, by rw [hrl _ (by simp [rampAt, hi]; rw [List.getElem?_eq_none (by omega)])]; exact hacc'⟩
          · rw [hi] at mm
            simp only [B1] at mm
            obtain ⟨k, o, sp, rfl, hr⟩ := hs2.at (i := j) hj
            have hc := hr.cells j hj
            simp at hc
            have hbj := hbds all[j] (List.getElem_mem hj)
            simp [t1, t4, t11, t38, t39, t13, hlt, mm]
            rw [region_draw_eq [(0, false, false), (1, false, false), (2, false, false), (3, false, false), (4, false, false), (5, false, false), (6, false, false), (7, false, false), (8, false, false), (9, false, false), (10, false, false), (11, false, false)]]
            rotate_left
            · kernel_rfl
            · kernel_rfl
            simp [t1, t4, t11, t38, t39, t13, hlt, mm, hj, hc, cellAt_eq, k1, k2, u64 h64 all[j].1 all[j].2.1 all[j].2.2.1 all[j].2.2.2 r i ⟨hbj.1, hbj.2.1, hbj.2.2.1, by unfold Bd; omega, by unfold Bd; omega⟩, Res.lay]
            generalize hap : append _ _ _ _ = ap
            obtain ⟨B', rfl, hacc', hn', hk', hgr⟩ := acc_app hap hacc un28 un28 Try.sz3 Try.by3 Try.ze3 rfl (by omega) rfl (by omega) rfl (by omega) rfl (by omega) (by omega) (by omega) (fun k hk1 hk2 => by rw [hgB2.old k (by omega), hB1.old k hk2])
            simp [t39, hw]
            exact ⟨_, by omega, i + 1, by omega, rfl, _, _, rfl, hgr A2 (by omega) (by omega) hgA2, by simp [t1], by simp [t4], by simp [t11], by simp [t38], by simp, _, _, by simp; exact ⟨rfl, rfl⟩, by rw [hrl _ (by simp [rampAt, hi, hj]; rfl)]; exact hacc'⟩
        · have hin : i = n.toNat := by omega
          have hn2 : ((i : Nat) : Int) = n := by omega
          rw [hn2] at t39 hlt
          subst hin
          simp [t38, t39]
          exact ⟨_, _, rfl, rfl, hg, _, _, by simp [t13], hacc⟩
      obtain ⟨x', s', rfl, τ, B, rfl, rfl, hg, a', c', t13, hacc⟩ := hl
      simp [t13]
      have := hacc.res (A := A) hgn (some ([], [.int .i64 0]))
      exact ⟨by simpa [rampR, rampE, hx, hy, hall', Res.wr] using this, hgA.trans hg⟩
    · simp [Try.f20, within58 hu, u57 h57 r lo hi p h1 hlen, Res.lay, first47n hu, e1, hx, u59', cellsAt_eq, hbox1, m1, m3, e3, hy, A0]
      exact ⟨by simp [ResIs, rampR, rampE, hx, hy], hgA⟩
  · simp [Try.f20, within58 hu, u57 h57 r lo hi p h1 hlen, Res.lay, first47n hu, e1, hx]
    exact ⟨by simp [ResIs, rampR, rampE, hx], (by have hgg := Grow.refl A; have hgn := hgg.n; repeat (first | exact hgg | exact Grow.refl _ | apply Grow.push | refine Grow.set ?_ (by first | omega | (simp; omega)) _))⟩
def F20 : List DT → Option Res
  | [.f (.agg ⟨[.int .i64 r, .int .i64 lo, .int .i64 hi]⟩), .f (.int .i64 p), dl, .f (.int .i64 n)] => (match dSl cII dl with
    | some l => if l.length < 1000 then some (rampR r lo hi p l n) else none
    | none => none)
  | _ => none
theorem s20 (ho : OvSound Try.prog ov) (hu : Un ov) (hn : ov 20 = none) (h57 : ov 57 = some (con Try.prog F57)) (h59 : ov 59 = some (con Try.prog F59)) (h61 : ov 61 = some (con Try.prog F61)) (h64 : ov 64 = some (con Try.prog F64)) : OvSound Try.prog (ov.add 20 (con Try.prog F20)) := ho.addF Try.mixed Try.okProg F20 fun args A ds r hg hds hF => by
  unfold F20 at hF
  split at hF
  case h_2 => cases hF
  split at hF
  case h_2 => cases hF
  rename_i l el
  split at hF
  case isFalse => cases hF
  rename_i hgd
  cases hF
  obtain ⟨v0, v1, v2, v3, rfl, h0, h1, h2, h3⟩ := args4 hds
  obtain rfl := decV_f h0
  obtain rfl := decV_f h1
  obtain ⟨al, cl, rfl, hl⟩ := sl_read h2 el
  obtain rfl := decV_f h3
  obtain ⟨v, A1, e, hr, hgr⟩ := b20 hu hn h57 h59 h61 h64 _ _ _ _ _ hl hgd
  exact ⟨v, A1, e, hgr, hr⟩
theorem u20 (h : ov 20 = some (con Try.prog F20)) (r lo hi p n : Int) {al : Option Addr} {cl : Nat} {l : List (Int × Int)} (hl : IsSl Try.prog A cII al cl l) (hgd : l.length < 1000) : den Try.prog ov (.func 20) #[(.agg #[.int .i64 r, .int .i64 lo, .int .i64 hi]), (.int .i64 p), (.slice al l.length cl), (.int .i64 n)] A = some (Res.lay A (rampR r lo hi p l n)) := by
  rw [den_ov h]
  obtain ⟨dl, dl1, dl2⟩ := sl_dec (n := 3) hl
  refine con_eq gW (ds := [.f (.agg #[.int .i64 r, .int .i64 lo, .int .i64 hi]), .f (.int .i64 p), dl, .f (.int .i64 n)]) (by simp [mapO, decV_flat, dl1, dl2]) (by simp [F20, dl2, hgd]) ?_
  unfold rampR; split <;> first | exact accR_ok rfl | rfl
end Go.AM.W
