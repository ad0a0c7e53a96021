/-
  The W seat: lists put together; what a list holds.
-/
import Derived.Test.YthfphmbjhmaomaaWSort
import Derived.Test.YthfphmbjhmaomaaAmTac
namespace Go.AM.W
open Go.Proofs Go.AM
variable {ov : Ov} {A A' : CW}
set_option maxRecDepth 100000

theorem un3 : Try.prog.underlying 3 = some (.int .i64) := by kernel_rfl
theorem un178 : Try.prog.underlying 178 = some (.slice 57) := by kernel_rfl
theorem rep_len (l : List Value) : ∀ n, (rep l n).length = n * l.length
  | 0 => by simp [rep]
  | n + 1 => by simp [rep, rep_len l n, Nat.succ_mul, Nat.add_comm]
theorem rep_one {l : List Value} (h : l.all oneB = true) : ∀ n, (rep l n).all oneB = true
  | 0 => rfl
  | n + 1 => by rw [rep, List.all_append, h, rep_one h n]; rfl
theorem grow102 (hu : Un ov) (n : Nat) (hn : n ≤ 1000) : den Try.prog ov (.func 102) #[.slice none 0 0, .int .i64 n] A = some (if n = 0 then (.slice none 0 0, A) else (.slice (some ⟨A.n, 0, some 2⟩) 0 n, A.push (.cells (rep [.int .i64 0, .int .i64 0] n) 60 true false 0))) := by
  refine den_func (hu 102 (by decide)) Try.func102 rfl (callOk_sound rfl) ?_
  have hw : IntKind.i64.wrap (n : Int) = n := wrap64_of (by omega)
  have h0 : IntKind.i64.wrap 0 = 0 := rfl
  have hnn : ¬ (n : Int) < 0 := by omega
  by_cases hz : n = 0
  · subst hz
    simp [Try.f102, capOf, h0]
  · have hp : 0 < n := by omega
    have ho := rep_one (l := [.int .i64 0, .int .i64 0]) rfl n
    have happ : append Try.prog A #[57, 3] #[.slice none 0 0, .int .i64 n] = some (.slice (some ⟨A.n, 0, some 2⟩) n n, A.push (.cells (rep [.int .i64 0, .int .i64 0] n) 60 true false 0)) := by
      have hno : newOf A 2 [.int .i64 0, .int .i64 0] true (.int .i64 n) = some (n, rep [.int .i64 0, .int .i64 0] n) := by
        unfold newOf
        rw [if_pos rfl]
        simp only
        rw [if_pos (by omega)]; rfl
      have hi : isInt (some (TypeDesc.int .i64)) = true := rfl
      have hz' : (Value.agg #[.int .i64 0, .int .i64 0]).cells.toList = [.int .i64 0, .int .i64 0] := rfl
      simp only [append, List.getElem?_toArray, List.getElem?_cons_zero, List.getElem?_cons_succ, un57, Try.sz60, Try.by60, Try.ze60, un3, hi, hz', hno]
      rw [if_pos ⟨by omega, rfl, by omega, by omega, rfl, rfl⟩, if_neg (by omega)]
      simp only [elems, List.nil_append]
      rw [if_pos ho]
      simp [kill]
    simp [Try.f102, capOf, hnn, hw, h0, hp, sliceOf, bnd, spotOk, un57, happ, hz]

theorem splice_all {vs x y : List Value} (h : vs.length = x.length + y.length) : splice (splice vs 0 x) x.length y = x ++ y := by
  unfold splice
  rw [List.take_zero, List.nil_append, Nat.zero_add, List.take_left]
  have : (x ++ vs.drop x.length).drop (x.length + y.length) = [] := List.drop_eq_nil_of_le (by rw [List.length_append, List.length_drop]; omega)
  rw [this, List.append_nil]
theorem m49 (hu : Un ov) (hn49 : ov 49 = none) {k0 v0 ca cb : Nat} {e0 : TypeId} {a b : Option Addr} {la lb : List (Int × Int)} (hk : A.get k0 = .cells [.slice a la.length ca, .slice b lb.length cb] e0 false false v0) (hk0 : k0 < A.n) (ha : IsSl Try.prog A cII a ca la) (hb : IsSl Try.prog A cII b cb lb) (hl : la.length + lb.length ≤ 100) :
    ∃ v A', den Try.prog ov (.func 49) #[.slice (some ⟨k0, 0, none⟩) 2 2] A = some (v, A') ∧ ∃ a' c', v = .slice a' (la ++ lb).length c' ∧ IsSl Try.prog A' cII a' c' (la ++ lb) ∧ Grow A A' := by
  refine den_out hn49 Try.func49 rfl (callOk_sound rfl) ?_
  have w1 : IntKind.i64.wrap (la.length : Int) = la.length := wrap64_of (by omega)
  have w2 : IntKind.i64.wrap ((la.length : Int) + lb.length) = (la.length : Int) + lb.length := wrap64_of (by omega)
  have w3 : IntKind.i64.wrap 1 = 1 := rfl
  have w4 : IntKind.i64.wrap 2 = 2 := rfl
  have n1 : ¬ (la.length : Int) < 0 := by omega
  have n2 : ¬ (la.length : Int) + lb.length < 0 := by omega
  have hgr := grow102 (A := A) hu (la.length + lb.length) (by omega)
  rw [Int.natCast_add] at hgr
  simp [Try.f49]
  rw [xden_loop]
  simp [cellAt_eq, hk, w1, n1, w3]
  rw [xden_loop]
  simp [cellAt_eq, hk, w2, n2, w4]
  rw [xden_loop]
  by_cases hz : la.length + lb.length = 0
  · have e1 : la = [] := List.eq_nil_of_length_eq_zero (by omega)
    have e2 : lb = [] := List.eq_nil_of_length_eq_zero (by omega)
    subst e1 e2
    simp at hgr
    simp [hgr]
    rw [xden_loop]
    simp [cellAt_eq, hk, w3]
    generalize hap : append _ _ _ _ = ap
    obtain ⟨a1, c1, A1, rfl, q1, q2, q3⟩ := acc_appL (c := cII) (l0 := []) (m := A.n) hap (Acc.nil _ _ 60 2) ha un57 un57 Try.sz60 Try.by60 Try.ze60 rfl cII_one (by omega) (Nat.le_refl _) (by simp)
    have hg1 : Grow A A1 := ⟨q2, fun k hk => q3 k hk⟩
    have hk1 := q3 k0 hk0
    rw [hk] at hk1
    simp [w3]
    rw [xden_loop]
    simp [cellAt_eq, hk1, w4]
    generalize hap : append _ _ _ _ = ap
    obtain ⟨a2, c2, A2, rfl, q4, q5, q6⟩ := acc_appL (c := cII) (l0 := []) (m := A.n) hap (by simpa using q1) (hb.grow hg1) un57 un57 Try.sz60 Try.by60 Try.ze60 rfl cII_one (by omega) q2 (by simp)
    have hg2 : Grow A A2 := ⟨by omega, fun k hk => by rw [q6 k hk, q3 k hk]⟩
    simp [w4]
    rw [xden_loop]
    simp
    obtain ⟨q7, q8⟩ := q4.isSl Try.sz60
    exact ⟨_, _, rfl, q7, hg2⟩
  · rw [if_neg hz] at hgr
    simp [hgr]
    rw [xden_loop]
    have hne : k0 ≠ A.n := by omega
    have hrl := rep_len [.int .i64 0, .int .i64 0] (la.length + lb.length)
    have e1 := flatMap_len (c := cII) la
    have e2 := flatMap_len (c := cII) lb
    rw [cII_es] at e1 e2
    simp only [List.length_cons, List.length_nil] at hrl
    simp [cellAt_eq, hk, w3, hne]
    generalize hap : append _ _ _ _ = ap
    obtain rfl := app_fill (c := cII) (l := la) (n := 0) hap (CW.get_push_self A _) (ha.grow (Grow.push1 _ _)) un57 un57 Try.sz60 Try.by60 Try.ze60 rfl cII_one (by omega) (by omega) (by omega) (by rw [cII_es]; omega)
    simp [-splice, w3]
    rw [xden_loop]
    simp [-splice, cellAt_eq, hk, w4, hne]
    generalize hap : append _ _ _ _ = ap
    obtain rfl := app_fill (c := cII) (l := lb) hap (CW.get_set_self _ _ _) (hb.grow (by have hgg := Grow.refl A; have hgn := hgg.n; repeat (first | exact hgg | exact Grow.refl _ | apply Grow.push | refine Grow.set ?_ (by first | omega | (simp; omega)) _))) un57 un57 Try.sz60 Try.by60 Try.ze60 rfl cII_one (by omega) (by omega) (by omega) (by simp [splice]; omega)
    simp [-splice, w4]
    rw [xden_loop]
    simp [-splice]
    refine ⟨some ⟨A.n, 0, some 2⟩, la.length + lb.length, by simp, ?_, (by have hgg := Grow.refl A; have hgn := hgg.n; repeat (first | exact hgg | exact Grow.refl _ | apply Grow.push | refine Grow.set ?_ (by first | omega | (simp; omega)) _))⟩
    refine IsSl.block (c := cII) (l := la ++ lb) (k := A.n) (e := 60) (lo := true) (ro := false) (ver := 2) (by simp) ?_ Try.sz60 (by simp [spotOk]) (by simp)
    rw [CW.get_set_self, List.flatMap_append, ← e1, splice_all (by omega)]

/-- A power that is too great. -/
def big (x : Int × Int) : Bool := decide (withinE x.2 (-1000) 1000 ≠ 0)
theorem b54 (hu : Un ov) (x : Int × Int) : ∃ v A', den Try.prog ov (.func 54) #[.agg #[.int .i64 x.1, .int .i64 x.2]] A = some (v, A') ∧ v = .bool (big x) ∧ Grow A A' := by
  refine den_out (hu 54 (by decide)) Try.func54 rfl (callOk_sound rfl) ?_
  by_cases h : withinE x.2 (-1000) 1000 = 0
  · simp [Try.f54, checkPower55 hu, h]
    exact ⟨by simp [big, h], Grow.push1 _ _⟩
  · simp [Try.f54, checkPower55 hu, h]
    exact ⟨by simp [big, h], Grow.push1 _ _⟩
theorem m105 (hu : Un ov) {a : Option Addr} {c : Nat} {l : List (Int × Int)} (h : IsSl Try.prog A cII a c l) (hlen : l.length < 1000) :
    ∃ v A', den Try.prog ov (.func 105) #[.slice a l.length c, .func (.func 54) #[] #[]] A = some (v, A') ∧ (∃ i : Int, v = .int .i64 i ∧ (0 ≤ i ↔ l.any big = true)) ∧ Grow A A' := by
  refine den_out (hu 105 (by decide)) Try.func105 rfl (callOk_sound rfl) ?_
  simp [Try.f105]
  generalize hL : xden Try.prog ov none (Code.loop _) _ = L
  have hl : ∃ x' s', L = some (x', s') ∧ ∃ τ B, s' = ⟨τ, 19, B, []⟩ ∧ Grow A B ∧ ((x' = .exit 0 ∧ l.any big = false) ∨ (x' = .ret ∧ l.any big = true ∧ ∃ i : Nat, τ.get 4 = some (.int .i64 i))) := by
    rw [← hL]
    clear hL
    refine loop_rule (fun m s => ∃ i : Nat, i ≤ l.length ∧ m = l.length - i ∧ (l.drop i).any big = l.any big ∧ ∃ τ B, s = ⟨τ, 19, B, []⟩ ∧ Grow A B ∧ τ.get 0 = some (.slice a l.length c) ∧ τ.get 1 = some (.func (.func 54) #[] #[]) ∧ τ.get 7 = some (.int .i64 l.length) ∧ τ.get 8 = some (.int .i64 i)) ?_ l.length _ ⟨0, by omega, by omega, rfl, _, _, rfl, Grow.refl _, by simp, by simp, by simp, by simp⟩
    rintro m s ⟨i, hi1, rfl, hf, τ, B, rfl, hg, h0, h1, h7, h8⟩
    by_cases hlt : i < l.length
    · skip
      obtain ⟨k, o, sp, rfl, hr⟩ := (h.grow hg).at hlt
      have hc := hr.cells i hlt
      have hd : l.drop i = l[i] :: l.drop (i + 1) := by simp
      have hw : IntKind.i64.wrap ((i : Int) + 1) = ((i + 1 : Nat) : Int) := by rw [wrap64_of (by omega)]; omega
      have hc0 := hr.cell i hlt 0 (by decide)
      simp at hc hc0
      have hkb : k < _ := hr.lt
      obtain ⟨v, B', h54, rfl, hg'⟩ := b54 (A := B) hu l[i]
      rw [hd, List.any_cons] at hf
      by_cases hle : big l[i] = true
      · simp [hle] at hf
        simp [h0, h1, h7, h8, hlt, hc, h54, hle]
        exact ⟨_, _, rfl, hg.trans hg', .inr ⟨rfl, by simpa using hf, i, by simp⟩⟩
      · simp at hle
        simp [hle] at hf
        simp [h0, h1, h7, h8, hlt, hc, h54, hle, hw]
        exact ⟨_, by omega, i + 1, by omega, rfl, by simpa using hf, _, _, rfl, hg.trans hg', by simp [h0], by simp [h1], by simp [h7], by simp⟩
    · have : l.drop i = [] := List.drop_eq_nil_of_le (by omega)
      rw [this] at hf
      simp [h0, h1, h7, h8, hlt]
      exact ⟨_, _, rfl, hg, .inl ⟨rfl, by simpa using hf.symm⟩⟩
  obtain ⟨x', s', rfl, τ, B, rfl, hg, ⟨rfl, h4⟩ | ⟨rfl, h4, i, h5⟩⟩ := hl
  · simp
    exact ⟨⟨_, rfl, by simp [h4]⟩, hg⟩
  · simp [h5]
    exact ⟨⟨_, rfl, by simp [h4]⟩, hg⟩
theorem m53 (hu : Un ov) {a : Option Addr} {c : Nat} {l : List (Int × Int)} (h : IsSl Try.prog A cII a c l) (hlen : l.length < 1000) :
    ∃ v A', den Try.prog ov (.func 53) #[.slice a l.length c, .func (.func 54) #[] #[]] A = some (v, A') ∧ v = .bool (l.any big) ∧ Grow A A' := by
  refine den_out (hu 53 (by decide)) Try.func53 rfl (callOk_sound rfl) ?_
  obtain ⟨v, A', h1, ⟨i, rfl, h2⟩, hg⟩ := m105 hu h hlen
  simp [Try.f53, h1]
  exact ⟨congrArg Value.bool (Bool.eq_iff_iff.2 (by rw [decide_eq_true_eq]; exact h2)), hg⟩
end Go.AM.W

/-
  The W seat: orders merged.
-/
namespace Go.AM.W
open Go.Proofs Go.AM
variable {ov : Ov} {A A' : CW}
set_option maxRecDepth 100000

def insAll (m : List (Int × Value)) (l : List (Int × Int)) : List (Int × Value) := l.foldl (fun m x => insI x.1 (.bool true) m) m
def both (a b : List (Int × Int)) (t : Int) : Int × Int := (t, asked a t + asked b t)
def keysM (a b : List (Int × Int)) : List Int := (insAll [] (a ++ b)).map (·.1)
def mergedL (a b : List (Int × Int)) : List (Int × Int) := ((keysM a b).map (both a b)).mergeSort fun x y => !ltT y x
def mergedE (a b : List (Int × Int)) : Int := if firstE [checkOrds a, checkOrds b] = 0 then firstE [if 32 < (mergedL a b).length then 5 else 0, if (mergedL a b).any big then 4 else 0] else firstE [checkOrds a, checkOrds b]
def mergedR (a b : List (Int × Int)) : Res := if mergedE a b = 0 then accR ((mergedL a b).flatMap cII.enc) 60 2 (mergedL a b).length (some ([], [.int .i64 0])) else .v (.tuple #[.slice none 0 0, .int .i64 (mergedE a b)])
def F19 : List DT → Option Res
  | [da, db] => (match dSl cII da with
    | some a => (match dSl cII db with
      | some b => if a.length < 1000 ∧ b.length < 1000 then some (mergedR a b) else none
      | none => none)
    | none => none)
  | _ => none
theorem insI_len (t : Int) (v : Value) : ∀ (l : List (Int × Value)), (insI t v l).length ≤ l.length + 1
  | [] => by simp [insI]
  | x :: l => by
    rw [insI]; split
    · simp
    · have := insI_len t v l; simp; omega
theorem insAll_len : ∀ (l : List (Int × Int)) (m : List (Int × Value)), (insAll m l).length ≤ m.length + l.length
  | [], m => by simp [insAll]
  | x :: l, m => by
    have h1 := insAll_len l (insI x.1 (.bool true) m)
    have h2 := insI_len x.1 (.bool true) m
    simp only [insAll, List.foldl_cons, List.length_cons] at h1 ⊢
    omega
theorem askF_bd (t : Int) : ∀ (l : List (Int × Int)) (acc : Int), (∀ x ∈ l, OkOrd x) → -1000 ≤ acc ∧ acc ≤ 1000 → -1000 ≤ askF t acc l ∧ askF t acc l ≤ 1000
  | [], _, _, h => h
  | x :: l, acc, hl, h => by
    rw [askF]
    refine askF_bd t l _ (fun y hy => hl y (by simp [hy])) ?_
    have := (hl x (by simp)).2
    split <;> omega
theorem asked_bd {l : List (Int × Int)} (h : chkOrd (-1) l = 0) (t : Int) : -1000 ≤ asked l t ∧ asked l t ≤ 1000 := askF_bd t l 0 (fun x hx => (chkOrd_ok h x hx).1) (by omega)
theorem un124 : Try.prog.underlying 124 = some (.map 3 4) := by kernel_rfl
theorem insAll_snoc (m : List (Int × Value)) (l : List (Int × Int)) (x : Int × Int) : insAll m (l ++ [x]) = insI x.1 (.bool true) (insAll m l) := by simp [insAll]
theorem sort_perm {α : Type} {lt : α → α → Bool} (hS : Go.Sort.SWO lt) {l1 l2 : List α} (hp : l1.Perm l2) (hd : ∀ x ∈ l1, ∀ y ∈ l1, lt x y = false → lt y x = false → x = y) : l1.mergeSort (fun x y => !lt y x) = l2.mergeSort fun x y => !lt y x := by
  have hs : ∀ l : List α, (l.mergeSort fun x y => !lt y x).Pairwise fun x y => (!lt y x) = true := fun l => by
    refine List.pairwise_mergeSort ?_ ?_ _
    · intro a b c h1 h2
      simp only [Bool.not_eq_true'] at h1 h2 ⊢
      exact hS.ntrans c b a h2 h1
    · intro a b
      cases h : lt b a with
      | false => simp
      | true => simp [hS.asymmA h]
  refine List.Perm.eq_of_pairwise (le := fun x y => (!lt y x) = true) ?_ (hs l1) (hs l2) (((List.mergeSort_perm l1 _).trans hp).trans (List.mergeSort_perm l2 _).symm)
  intro a b ha hb h1 h2
  simp only [Bool.not_eq_true'] at h1 h2
  exact hd a ((List.mergeSort_perm l1 _).mem_iff.1 ha) b (hp.mem_iff.2 ((List.mergeSort_perm l2 _).mem_iff.1 hb)) h2 h1
theorem both_parts {la lb : List (Int × Int)} {l : List Int} : ∀ x ∈ l.map (both la lb), ∀ y ∈ l.map (both la lb), ltT x y = false → ltT y x = false → x = y := by
  intro x hx y hy h1 h2
  obtain ⟨t1, _, rfl⟩ := List.mem_map.1 hx
  obtain ⟨t2, _, rfl⟩ := List.mem_map.1 hy
  have h3 : ¬ t1 < t2 := of_decide_eq_false h1
  have h4 : ¬ t2 < t1 := of_decide_eq_false h2
  have : t1 = t2 := by omega
  rw [this]
theorem srtL_some {α : Type} [DecidableEq α] {lt : α → α → Bool} {l : List α} (hd : ∀ x ∈ l, ∀ y ∈ l, lt x y = false → lt y x = false → x = y) : srtL lt l = some (l.mergeSort fun x y => !lt y x) := by
  unfold srtL
  rw [if_pos]
  rw [List.all_eq_true]; intro x hx
  rw [List.all_eq_true]; intro y hy
  cases h1 : lt x y with
  | true => rfl
  | false =>
    cases h2 : lt y x with
    | true => rfl
    | false => simp [hd x hx y hy h1 h2]
theorem m51 (h51 : ov 51 = some (sortOv Try.prog cII 52 (srtL ltT))) {B : CW} {m : Nat} {a' : Option Addr} {c' n : Nat} {L L' : List (Int × Int)} (hn : n = L.length) (hacc : Acc B m a' n c' (L.flatMap cII.enc) 60 2) (hL : srtL ltT L = some L') (hlen : L'.length = L.length) (h40 : L.length < 2 ^ 40) :
    ∃ B', den Try.prog ov (.func 51) #[.slice a' n c', .func (.func 52) #[] #[]] B = some (.tuple #[], B') ∧ Acc B' m a' L'.length c' (L'.flatMap cII.enc) 60 2 ∧ (∀ j, j < m → B'.get j = B.get j) ∧ B'.n = B.n := by
  subst hn
  rw [den_ov h51]
  rcases hacc.ex with ⟨rfl, h1, rfl, h2⟩ | ⟨k, ver, rfl, rfl, h3, h4, h5, h6, h7⟩
  · have hL0 : L = [] := List.eq_nil_of_length_eq_zero h1
    subst hL0
    have hL1 : L' = [] := List.eq_nil_of_length_eq_zero hlen
    subst hL1
    exact ⟨B, rfl, hacc, fun _ _ => rfl, rfl⟩
  · refine ⟨B.set k (.cells (L'.flatMap cII.enc) 60 true false (ver + 1)), ?_, ⟨all_one cII_one L', .inr ⟨k, ver + 1, rfl, hlen.symm, h3, by simpa using h4, CW.get_set_self _ _ _, by rw [flatMap_len L']; rfl, by omega⟩⟩, fun j hj => CW.get_set_ne _ _ (by omega), by simp⟩
    simp only [sortOv, h5]
    rw [if_pos ⟨trivial, rfl, rfl, h4, h7, Nat.le_refl _, h40, flatMap_len L⟩, decL_enc]
    simp only [hL]
theorem s19 (ho : OvSound Try.prog ov) (hu : Un ov) (hn : ov 19 = none) (hn49 : ov 49 = none) (h48 : ov 48 = some (con Try.prog F48)) (h50 : ov 50 = some (con Try.prog F50)) (h51 : ov 51 = some (sortOv Try.prog cII 52 (srtL ltT))) : OvSound Try.prog (ov.add 19 (con Try.prog F19)) := by
  refine ho.addFC Try.func19 rfl (by kernel_rfl) F19 fun args A ds r hg hds hF => ?_
  unfold F19 at hF
  split at hF
  case h_2 => cases hF
  split at hF
  case h_2 => cases hF
  rename_i la ela
  split at hF
  case h_2 => cases hF
  rename_i lb elb
  split at hF
  case isFalse => cases hF
  rename_i hlen
  cases hF
  obtain ⟨v0, v1, rfl, h0, h1⟩ := args2 hds
  obtain ⟨a, ca, rfl, ha⟩ := sl_read h0 ela
  obtain ⟨b, cb, rfl, hb⟩ := sl_read h1 elb
  refine ⟨Nat.le_of_ble_eq_true rfl, ?_⟩
  have e1 : firstV [.int .i64 (checkOrds la), .int .i64 (checkOrds lb)] = firstE [checkOrds la, checkOrds lb] := rfl
  by_cases hx : firstE [checkOrds la, checkOrds lb] = 0
  · have hca := (firstE_cons.1 hx).1
    have hcb := (firstE_cons.1 (firstE_cons.1 hx).2).1
    have la32 := (checkOrds_zero.1 hca).1
    have lb32 := (checkOrds_zero.1 hcb).1
    refine CSound.pre ho Try.mixed Try.okProg (.inl rfl) (by kernel_rfl) (by simp; rfl) ?_
    refine CSound.pre ho Try.mixed Try.okProg (.inl rfl) (by kernel_rfl) (by simp [u48 h48 ha hlen.1, u48 h48 hb hlen.2, Res.lay, first47n hu, e1, hx]; rfl) ?_
    refine CSound.pre ho Try.mixed Try.okProg (.inl rfl) (by kernel_rfl) (by simp; rfl) ?_
    refine CSound.preE ho Try.mixed Try.okProg (.inl rfl) (by kernel_rfl) (R := fun s1 => ∃ τ B, s1 = ⟨τ, 71, B, []⟩ ∧ Grow A B ∧ τ.get 0 = some (.slice a la.length ca) ∧ τ.get 1 = some (.slice b lb.length cb) ∧ τ.get 7 = some (.map (some (A.n + 1))) ∧ A.n + 1 < B.n ∧
      ∃ ver, B.get (A.n + 1) = .map (entsI .i64 0 (insAll [] (la ++ lb))) (insAll [] (la ++ lb)).length ver) ?_ ?_
    · obtain ⟨v49, A4, m1, a4, c4', rfl, hs4, hg4⟩ := m49 (A := ((A.push (.cells [.int .i64 (checkOrds la), .int .i64 (checkOrds lb)] 29 false false 0)).push (.map [] 0 0)).push (.cells [.slice a la.length ca, .slice b lb.length cb] 57 false false 0)) hu hn49 (k0 := A.n + 1 + 1) (e0 := 57) (v0 := 0) (by simp) (by simp) (ha.grow (by have hgg := Grow.refl A; have hgn := hgg.n; repeat (first | exact hgg | exact Grow.refl _ | apply Grow.push | refine Grow.set ?_ (by first | omega | (simp; omega)) _))) (hb.grow (by have hgg := Grow.refl A; have hgn := hgg.n; repeat (first | exact hgg | exact Grow.refl _ | apply Grow.push | refine Grow.set ?_ (by first | omega | (simp; omega)) _))) (by omega)
      have hgA : Grow A A4 := by refine Grow.trans ?_ hg4; exact (by have hgg := Grow.refl A; have hgn := hgg.n; repeat (first | exact hgg | exact Grow.refl _ | apply Grow.push | refine Grow.set ?_ (by first | omega | (simp; omega)) _))
      have gM := hg4.old (A.n + 1) (by simp)
      simp at gM
      have hn4 := hg4.n
      simp at hn4
      have hlm : (la ++ lb).length ≤ 64 := by simp; omega
      simp only [List.length_append] at hlm m1
      simp [m1]
      generalize hab : la ++ lb = ab at hs4
      have hlab : la.length + lb.length = ab.length := by rw [← hab]; simp
      rw [hlab] at hlm
      rw [← Int.natCast_add, hlab]
      generalize hL : xden Try.prog ov none (Code.loop _) _ = L
      have hl : ∃ x' s', L = some (x', s') ∧ ∃ τ B, s' = ⟨τ, 71, B, []⟩ ∧ x' = .exit 0 ∧ Grow A B ∧ τ.get 0 = some (.slice a la.length ca) ∧ τ.get 1 = some (.slice b lb.length cb) ∧ τ.get 7 = some (.map (some (A.n + 1))) ∧ A.n + 1 < B.n ∧
          ∃ ver, B.get (A.n + 1) = .map (entsI .i64 0 (insAll [] ab)) (insAll [] ab).length ver := by
        rw [← hL]
        clear hL
        refine loop_rule (fun m s => ∃ i : Nat, i ≤ ab.length ∧ m = ab.length - i ∧ ∃ τ B, s = ⟨τ, 71, B, []⟩ ∧ Grow A B ∧ τ.get 0 = some (.slice a la.length ca) ∧ τ.get 1 = some (.slice b lb.length cb) ∧ τ.get 7 = some (.map (some (A.n + 1))) ∧ τ.get 27 = some (.slice a4 ab.length c4') ∧ τ.get 28 = some (.int .i64 ab.length) ∧ τ.get 29 = some (.int .i64 i) ∧ IsSl Try.prog B cII a4 c4' ab ∧ A.n + 1 < B.n ∧
          ∃ ver, B.get (A.n + 1) = .map (entsI .i64 0 (insAll [] (ab.take i))) (insAll [] (ab.take i)).length ver) ?_ ab.length _ ⟨0, by omega, by omega, _, _, rfl, hgA, by simp, by simp, by simp, by simp, by simp, by simp, hs4, by omega, _, gM⟩
        rintro m s ⟨i, hi, rfl, τ, B, rfl, hg', t0, t1, t7, t27, t28, t29, hs, hMB, ver, hM⟩
        by_cases hlt : i < ab.length
        · skip
          obtain ⟨k, o, sp, rfl, hr⟩ := (hs.grow (Grow.refl B)).at hlt
          have hc := hr.cells i hlt
          have hd : ab.drop i = ab[i] :: ab.drop (i + 1) := by simp
          have hw : IntKind.i64.wrap ((i : Int) + 1) = ((i + 1 : Nat) : Int) := by rw [wrap64_of (by omega)]; omega
          have hc0 := hr.cell i hlt 0 (by decide)
          simp at hc hc0
          have hkb : k < _ := hr.lt
          have hne : A.n + 1 ≠ B.n := by omega
          simp [t7, t27, t28, t29, hlt, hc]
          rw [mapUpdate_int un124 un3 (k := .i64) (l := insAll [] (ab.take i)) (ver := ver) (by simp [hne, hM])]
          simp [t29, hw]
          refine ⟨_, by omega, i + 1, by omega, rfl, _, _, rfl, (by have hgg := hg'; have hgn := hgg.n; repeat (first | exact hgg | exact Grow.refl _ | apply Grow.push | refine Grow.set ?_ (by first | omega | (simp; omega)) _)), by simp [t0], by simp [t1], by simp [t7], by simp [t27], by simp [t28], by simp, hs.same ⟨by simp, fun j hj => ?_⟩, by simp; omega, ver + 1, ?_⟩
          · have hjn : j ≠ A.n + 1 := fun h => by
              have := hj.2
              rw [h, hM] at this
              simp [okOb, cellsB] at this
            have hjB : j ≠ B.n := by have := hj.1; omega
            simp [hjn, hjB]
          · rw [CW.get_set_self, List.take_succ_eq_append_getElem hlt, insAll_snoc]
        · have hil : i = ab.length := by omega
          subst hil
          rw [List.take_length] at hM
          simp [t28, t29]
          exact ⟨_, _, rfl, rfl, hg', by simp [t0], by simp [t1], by simp [t7], hMB, ver, hM⟩
      obtain ⟨x', s', rfl, τ, B, rfl, rfl, q⟩ := hl
      simp
      exact ⟨τ, B, ⟨rfl, rfl⟩, q⟩
    · rintro s1 ⟨τ, B, rfl, hgB, t0, t1, t7, hMB, ver, hM⟩
      have hgn := hgB.n
      generalize hml : insAll [] (la ++ lb) = ml at hM
      refine CSound.pre ho Try.mixed Try.okProg (.inl rfl) (by kernel_rfl) (by simp; rfl) ?_
      refine CSound.seq (R := fun x s' => x = .normal ∧ ∃ τ B done, s' = ⟨τ, 71, B, []⟩ ∧ Grow A B ∧ List.Perm done ml ∧ ∃ a' c', τ.get 10 = some (.slice a' done.length c') ∧ Acc B A.n a' done.length c' ((done.map fun x => both la lb x.1).flatMap cII.enc) 60 2) ?_ ?_ ?_
      · refine CSound.rangeI ho Try.mixed Try.okProg (.inl rfl) (T := 124) (m := 37) (d := 38) (tn := 39) (t := 40) (te := 41) (by kernel_rfl) (by kernel_rfl) un124 (k := A.n + 1) (kd := .i64) (l := ml) (ver := ver) (by simp [t7]; rfl) (by simp [t7]) (by simpa using hM) (by simp) (by simp) (by simp) (by simp) (by decide)
          (fun done s => ∃ τ B', s = ⟨τ, 71, B', []⟩ ∧ Grow A B' ∧ τ.get 38 = some (.pointer (some ⟨B.n, 0, none⟩)) ∧ τ.get 0 = some (.slice a la.length ca) ∧ τ.get 1 = some (.slice b lb.length cb) ∧ B'.get (A.n + 1) = .map (entsI .i64 0 ml) ml.length ver ∧ B.n < B'.n ∧
            ∃ a' c', τ.get 10 = some (.slice a' done.length c') ∧ Acc B' (B.n + 1) a' done.length c' ((done.map fun x => both la lb x.1).flatMap cII.enc) 60 2) ?_ ?_ ?_ ?_
        · exact ⟨_, _, rfl, hgB.push _, by simp, by simp [t0], by simp [t1], by simp [show A.n + 1 ≠ B.n by omega, hM], by simp, none, 0, by simp, Acc.nil _ _ _ _⟩
        · rintro done s ⟨τ, B', rfl, _, u38, _, _, hM', _⟩
          exact ⟨rfl, by simp [u38], by simpa using hM'⟩
        · rintro done s x bb ⟨τ, B', rfl, hg', u38, u0, u1, hM', hBn, a', c', u10, hacc⟩ hx hlt hsub
          have q1 := asked_bd (checkOrds_zero.1 hca).2 x.1
          have q2 := asked_bd (checkOrds_zero.1 hcb).2 x.1
          have w1 : IntKind.i64.wrap (asked la x.1 + asked lb x.1) = asked la x.1 + asked lb x.1 := wrap64_of (by omega)
          have hmlen : ml.length ≤ 64 := by have := insAll_len (la ++ lb) []; rw [hml] at this; simp at this; omega
          refine ⟨_, by simp [roundSt]; rfl, ?_⟩
          simp [u0, u1, u10, u50 h50 x.1 (ha.grow hg') hlen.1, u50 h50 x.1 (hb.grow hg') hlen.2, Res.lay, w1]
          generalize hap : append _ _ _ _ = ap
          obtain ⟨B2, rfl, hacc', hn', hk', hgr⟩ := acc_app hap hacc un57 un57 Try.sz60 Try.by60 Try.ze60 rfl (by omega) rfl (by omega) rfl (by omega) rfl (Nat.le_refl _) (by omega) (by omega) (fun _ _ _ => rfl)
          have hgn' := hg'.n
          have k1 := hk' (A.n + 1) (.inl (by omega)) (by omega)
          simp
          refine ⟨_, _, rfl, hgr A (by omega) (by omega) hg', by simp [u38], by simp [u0], by simp [u1], by rw [k1, CW.get_push_ne _ _ (by omega)]; exact hM', by omega, _, _, by simp; exact ⟨rfl, rfl⟩, ?_⟩
          simpa [both] using hacc'
        · rintro done s ⟨τ, B', rfl, hg', u38, u0, u1, hM', hBn, a', c', u10, hacc⟩ hp
          exact ⟨rfl, _, _, done, rfl, hg', hp, a', c', by simp [endSt, u10], ⟨hacc.one, by
            rcases hacc.ex with h | ⟨k, v, h1, h2, h3, h4⟩
            · exact .inl h
            · exact .inr ⟨k, v, h1, h2, by omega, h4⟩⟩⟩
      · rintro s' ⟨_, τ, B, done, rfl, hg, hp, a', c', u10, hacc⟩
        have hmlen : ml.length ≤ 64 := by have := insAll_len (la ++ lb) []; rw [hml] at this; simp at this; omega
        have hdl := hp.length_eq
        have hsrt := srtL_some (lt := ltT) (both_parts (la := la) (lb := lb) (l := done.map (·.1)))
        have hperm : ((done.map (·.1)).map (both la lb)).Perm ((keysM la lb).map (both la lb)) := by rw [keysM, hml]; exact (hp.map _).map _
        rw [sort_perm swoT hperm both_parts] at hsrt
        change srtL ltT _ = some (mergedL la lb) at hsrt
        rw [List.map_map] at hsrt
        have hml2 : (mergedL la lb).length = done.length := by
          have := hperm.length_eq
          rw [mergedL, List.length_mergeSort]
          simp only [List.length_map] at this ⊢
          omega
        obtain ⟨B2, q1, hacc2, q3, q4⟩ := m51 h51 (n := done.length) (L := done.map ((both la lb) ∘ (·.1))) (by simp) hacc hsrt (by simpa using hml2) (by simp; omega)
        obtain ⟨hs2, _⟩ := hacc2.isSl Try.sz60
        obtain ⟨v53, B3, m1, rfl, hg3⟩ := m53 hu hs2 (by omega)
        have hgB3 : Grow A B3 := ⟨by have := hg.n; have := hg3.n; omega, fun k hk => by rw [hg3.old k (by have := hg.n; omega), q3 k hk, hg.old k hk]⟩
        rw [hml2] at m1
        refine CSound.leave ho Try.mixed Try.okProg (.inl rfl) (by kernel_rfl) (K := fun v1 A1 => Grow A A1 ∧ ResIs A A1 v1 (mergedR la lb)) ?_
        have e2 : firstV [.int .i64 (if (32 : Int) < (done.length : Int) then 5 else 0), .int .i64 (if (mergedL la lb).any big = true then 4 else 0)] = firstE [if 32 < (mergedL la lb).length then 5 else 0, if (mergedL la lb).any big then 4 else 0] := by
          have : ((32 : Int) < (done.length : Int)) = (32 < (mergedL la lb).length) := by rw [hml2]; apply propext; omega
          simp only [this]; rfl
        by_cases hy : firstE [if 32 < (mergedL la lb).length then 5 else 0, if (mergedL la lb).any big then 4 else 0] = 0
        · simp [endSt, u10, q1, m1, when56 hu, first47n hu, e2, hy]
          have hr := (hacc2.keep (A' := B3) hg3.n fun k _ hk => hg3.old k hk).res (A := A) (Nat.le_refl _) (some ([], [.int .i64 0]))
          rw [hml2] at hr
          refine ⟨(by have hgg := hgB3; have hgn := hgg.n; repeat (first | exact hgg | exact Grow.refl _ | apply Grow.push | refine Grow.set ?_ (by first | omega | (simp; omega)) _)), ?_⟩
          have hr2 : mergedR la lb = accR ((mergedL la lb).flatMap cII.enc) 60 2 (mergedL la lb).length (some ([], [.int .i64 0])) := by unfold mergedR mergedE; rw [if_pos hx, if_pos hy]
          rw [hr2, hml2]
          have hk3 : ∀ X, Acc (B3.push X) A.n a' (mergedL la lb).length c' ((mergedL la lb).flatMap cII.enc) 60 2 := fun X => (hacc2.keep (A' := B3) hg3.n fun k _ hk => hg3.old k hk).push X
          have := (hk3 (.cells [.int .i64 (if (32 : Int) < (done.length : Int) then 5 else 0), .int .i64 (if (mergedL la lb).any big = true then 4 else 0)] 29 false false 0)).res (A := A) (Nat.le_refl _) (some ([], [.int .i64 0]))
          rw [hml2] at this
          exact this
        · simp [endSt, u10, q1, m1, when56 hu, first47n hu, e2, hy]
          exact ⟨(by have hgg := hgB3; have hgn := hgg.n; repeat (first | exact hgg | exact Grow.refl _ | apply Grow.push | refine Grow.set ?_ (by first | omega | (simp; omega)) _)), by simp [ResIs, mergedR, mergedE, hx, hy]⟩
      · rintro x s' ⟨rfl, _⟩ h
        exact absurd rfl h
  · refine (CSound.leave ho Try.mixed Try.okProg (.inl rfl) (by kernel_rfl) (K := fun v1 A1 => Grow A A1 ∧ ResIs A A1 v1 (mergedR la lb)) ?_)
    simp [u48 h48 ha hlen.1, u48 h48 hb hlen.2, Res.lay, first47n hu, e1, hx]
    exact ⟨(by have hgg := Grow.refl A; have hgn := hgg.n; repeat (first | exact hgg | exact Grow.refl _ | apply Grow.push | refine Grow.set ?_ (by first | omega | (simp; omega)) _)), by simp [ResIs, mergedR, mergedE, hx]⟩
theorem u19 (h : ov 19 = some (con Try.prog F19)) {aa : Option Addr} {ca : Nat} {a : List (Int × Int)} (ha : IsSl Try.prog A cII aa ca a) {ab : Option Addr} {cb : Nat} {b : List (Int × Int)} (hb : IsSl Try.prog A cII ab cb b) (hgd : a.length < 1000 ∧ b.length < 1000) :
    den Try.prog ov (.func 19) #[.slice aa a.length ca, .slice ab b.length cb] A = some (Res.lay A (mergedR a b)) := by
  rw [den_ov h]
  obtain ⟨da, da1, da2⟩ := sl_dec (n := 3) ha
  obtain ⟨db, db1, db2⟩ := sl_dec (n := 3) hb
  refine con_eq gW (ds := [da, db]) (by simp [mapO, da1, db1]) (by simp [F19, da2, db2, hgd]) ?_
  unfold mergedR; split
  · exact accR_ok rfl
  · rfl
end Go.AM.W
