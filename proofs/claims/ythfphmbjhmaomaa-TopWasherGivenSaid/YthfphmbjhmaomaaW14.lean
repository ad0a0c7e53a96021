/-
  The W seat: the plain law: what is handed in along a ramp.
-/
import Derived.Test.YthfphmbjhmaomaaW11
namespace Go.AM.W
open Go.Proofs Go.AM

theorem insAll_keys : ∀ (l : List (Int × Int)) (m : List (Int × Value)) (t : Int), t ∈ (insAll m l).map (·.1) ↔ t ∈ m.map (·.1) ∨ ∃ x ∈ l, x.1 = t
  | [], m, t => by simp [insAll]
  | x :: l, m, t => by
    have h := insAll_keys l (insI x.1 (.bool true) m) t
    have e : insAll m (x :: l) = insAll (insI x.1 (.bool true) m) l := rfl
    rw [e, h, insI_keys]
    constructor
    · rintro ((h | h) | ⟨y, h1, h2⟩)
      · exact .inr ⟨x, by simp, h.symm⟩
      · exact .inl h
      · exact .inr ⟨y, by simp [h1], h2⟩
    · rintro (h | ⟨y, h1, h2⟩)
      · exact .inl (.inr h)
      · rcases List.mem_cons.1 h1 with rfl | h1
        · exact .inl (.inl h2.symm)
        · exact .inr ⟨y, h1, h2⟩
theorem insAll_nodup : ∀ (l : List (Int × Int)) (m : List (Int × Value)), (m.map (·.1)).Nodup → ((insAll m l).map (·.1)).Nodup
  | [], _, h => h
  | x :: l, m, h => insAll_nodup l _ (insI_nodup x.1 (.bool true) m h)
theorem mergedL_perm (a b : List (Int × Int)) : (mergedL a b).Perm ((keysM a b).map (both a b)) := List.mergeSort_perm _ _
theorem mergedL_mem {a b : List (Int × Int)} {y : Int × Int} (h : y ∈ mergedL a b) : y = both a b y.1 ∧ ∃ x ∈ a ++ b, x.1 = y.1 := by
  have h1 := (mergedL_perm a b).mem_iff.1 h
  obtain ⟨t, ht, rfl⟩ := List.mem_map.1 h1
  refine ⟨rfl, ?_⟩
  rcases (insAll_keys (a ++ b) [] t).1 ht with h | h
  · simp at h
  · exact h
theorem mergedL_sorted (a b : List (Int × Int)) : (mergedL a b).Pairwise fun x y => x.1 < y.1 := by
  have h1 : (mergedL a b).Pairwise fun x y => (!ltT y x) = true := by
    refine List.pairwise_mergeSort ?_ ?_ _
    · intro a b c h1 h2
      simp only [ltT, Bool.not_eq_true', decide_eq_false_iff_not] at h1 h2 ⊢
      omega
    · intro a b
      simp only [ltT, Bool.or_eq_true, Bool.not_eq_true', decide_eq_false_iff_not]
      omega
  have h2 : ((mergedL a b).map (·.1)).Nodup := by
    have hp := (mergedL_perm a b).map (·.1)
    rw [List.map_map] at hp
    refine hp.nodup_iff.2 ?_
    have : ((fun x => x.1) ∘ both a b : Int → Int) = id := rfl
    rw [this, List.map_id]
    exact insAll_nodup (a ++ b) [] (by simp)
  rw [List.Nodup, List.pairwise_map] at h2
  refine (h1.and h2).imp fun ⟨h, h'⟩ => ?_
  simp only [ltT, Bool.not_eq_true', decide_eq_false_iff_not] at h
  omega
theorem askF_nonneg (t : Int) : ∀ (l : List (Int × Int)) (acc : Int), (∀ x ∈ l, 0 ≤ x.2) → 0 ≤ acc → 0 ≤ askF t acc l
  | [], _, _, h => h
  | x :: l, acc, hl, h => by
    rw [askF]
    refine askF_nonneg t l _ (fun y hy => hl y (by simp [hy])) ?_
    have := hl x (by simp)
    split <;> omega
theorem chkOrd_of : ∀ (l : List (Int × Int)) (last : Int), (∀ x ∈ l, OkOrd x ∧ last < x.1) → (l.Pairwise fun x y => x.1 < y.1) → chkOrd last l = 0
  | [], _, _, _ => rfl
  | x :: l, last, h, hp => by
    rw [List.pairwise_cons] at hp
    have hx := h x (by simp)
    rw [chkOrd, if_pos (ordE_zero.2 ⟨hx.1.1, hx.1.2, hx.2⟩)]
    exact chkOrd_of l x.1 (fun y hy => ⟨(h y (by simp [hy])).1, hp.1 y hy⟩) hp.2

/-- What the two lists of the law are. -/
structure Good (a b : List (Int × Int)) : Prop where
  la : a.length ≤ 6
  lb : b.length ≤ 6
  ca : checkOrds a = 0
  cb : checkOrds b = 0
  all : ∀ x ∈ a ++ b, 0 ≤ x.2 ∧ 1 ≤ x.1 ∧ x.1 ≤ 60
variable {a b : List (Int × Int)}
theorem Good.len (_ : Good a b) : (mergedL a b).length ≤ 12 := by
  rename_i h
  have h1 := (mergedL_perm a b).length_eq
  have h2 := insAll_len (a ++ b) []
  simp only [keysM, List.length_map, List.length_append, List.length_nil] at h1 h2
  have := h.la; have := h.lb
  omega
theorem Good.err (h : Good a b) : mergedE a b = 0 ∨ mergedE a b = 4 := by
  have h0 : firstE [checkOrds a, checkOrds b] = 0 := by simp [firstE, h.ca, h.cb]
  have hl := h.len
  unfold mergedE
  rw [if_pos h0, if_neg (show ¬ 32 < (mergedL a b).length by omega)]
  by_cases hb : (mergedL a b).any big = true <;> simp [firstE, hb]
theorem Good.mem (h : Good a b) (he : mergedE a b = 0) {y : Int × Int} (hy : y ∈ mergedL a b) : y = both a b y.1 ∧ 0 ≤ y.2 ∧ y.2 ≤ 1000 ∧ 1 ≤ y.1 ∧ y.1 ≤ 60 := by
  obtain ⟨h1, x, hx, h2⟩ := mergedL_mem hy
  have h3 := h.all x hx
  have h0 : firstE [checkOrds a, checkOrds b] = 0 := by simp [firstE, h.ca, h.cb]
  have hb : (mergedL a b).any big = false := by
    unfold mergedE at he
    rw [if_pos h0] at he
    cases hb : (mergedL a b).any big with
    | false => rfl
    | true =>
      have hl := h.len
      rw [if_neg (show ¬ 32 < (mergedL a b).length by omega)] at he
      simp [firstE, hb] at he
  have h4 : big y = false := by
    have := List.any_eq_false.1 hb y hy
    simpa using this
  have h5 : withinE y.2 (-1000) 1000 = 0 := by simpa [big] using h4
  have h6 := withinE_zero.1 h5
  have h7 : y.2 = asked a y.1 + asked b y.1 := congrArg Prod.snd h1
  have h8 : 0 ≤ asked a y.1 := askF_nonneg _ a 0 (fun x hx => (h.all x (by simp [hx])).1) (by omega)
  have h9 : 0 ≤ asked b y.1 := askF_nonneg _ b 0 (fun x hx => (h.all x (by simp [hx])).1) (by omega)
  exact ⟨h1, by omega, by omega, by omega, by omega⟩
theorem Good.ords (h : Good a b) (he : mergedE a b = 0) : checkOrds (mergedL a b) = 0 := by
  have := h.len
  refine checkOrds_zero.2 ⟨by omega, chkOrd_of _ _ (fun x hx => ?_) (mergedL_sorted a b)⟩
  have := h.mem he hx
  unfold OkOrd
  omega

/-! the ramp -/
def Lim (x : Int × Int) : Prop := 0 ≤ x.2 ∧ x.2 ≤ 1000
theorem steps_ok : ∀ (l : List (Int × Int)) (last : Int × Int), (∀ x ∈ l, Lim x ∧ last.1 < x.1) → Lim last → (l.Pairwise fun x y => x.1 < y.1) → firstE ((stepsG last l).map (refE 1000 0 1000)) = 0
  | [], _, _, _, _ => rfl
  | x :: l, last, h, hl, hp => by
    rw [List.pairwise_cons] at hp
    have hx := h x (by simp)
    rw [stepsG, List.map_cons, firstE_cons]
    refine ⟨?_, steps_ok l x (fun y hy => ⟨(h y (by simp [hy])).1, hp.1 y hy⟩) hx.1 hp.2⟩
    unfold Lim at hx hl
    unfold refE refusedE
    rw [firstE_cons, firstE_cons, when_zero (by decide), when_zero (by decide)]
    refine ⟨by simp only; omega, ?_, rfl⟩
    simp only
    have : 1000 ≤ 1000 * (x.1 - last.1) := by omega
    omega
def rampRec (r t : Int) : Int → List Stp → Int
  | p, [] => p
  | _, s :: l => if t ≤ s.1 then atE s.1 s.2.1 s.2.2.1 r t else rampRec r t s.2.1 l
theorem rampRec_idx (r t : Int) : ∀ (l : List Stp) (p i : Int), (idxG t i l = -1 ∧ rampRec r t p l = (match l[l.length - 1]? with | some s => s.2.1 | none => p)) ∨
    ∃ (j : Nat) (hj : j < l.length), idxG t i l = i + j ∧ rampRec r t p l = atE l[j].1 l[j].2.1 l[j].2.2.1 r t
  | [], p, i => .inl ⟨rfl, rfl⟩
  | s :: l, p, i => by
    rw [idxG, rampRec]
    by_cases h : t ≤ s.1
    · rw [if_pos h, if_pos h]
      exact .inr ⟨0, by simp, by omega, rfl⟩
    · rw [if_neg h, if_neg h]
      rcases rampRec_idx r t l s.2.1 (i + 1) with ⟨h1, h2⟩ | ⟨j, hj, h1, h2⟩
      · refine .inl ⟨h1, ?_⟩
        rw [h2]
        cases l with
        | nil => rfl
        | cons s' l => simp
      · exact .inr ⟨j + 1, by simpa using hj, by omega, by simpa using h2⟩
theorem rampAt_rec (r p : Int) (all : List Stp) (t : Int) : rampAt r p all t = rampRec r t p all := by
  unfold rampAt
  rcases rampRec_idx r t all p 0 with ⟨h1, h2⟩ | ⟨j, hj, h1, h2⟩
  · rw [h1, if_neg (by omega), h2]
    cases all[all.length - 1]? <;> rfl
  · rw [h1, if_pos (by omega), h2]
    have : (0 + (j : Int)).toNat = j := by omega
    rw [this, List.getElem?_eq_getElem hj]
theorem ramp_hit : ∀ (l : List (Int × Int)) (last : Int × Int) (p : Int) (y : Int × Int), (l.Pairwise fun x y => x.1 < y.1) → y ∈ l → rampRec 1000 y.1 p (stepsG last l) = y.2
  | x :: l, last, p, y, hp, hy => by
    rw [List.pairwise_cons] at hp
    rw [stepsG, rampRec]
    rcases List.mem_cons.1 hy with rfl | hy
    · rw [if_pos (Int.le_refl _)]
      unfold atE
      simp only [Int.sub_self, Int.mul_zero]
      split <;> omega
    · have := hp.1 y hy
      rw [if_neg (by simp only; omega)]
      exact ramp_hit l x _ y hp.2 hy
theorem ramp_bd (t : Int) : ∀ (l : List (Int × Int)) (last : Int × Int) (p : Int), (∀ x ∈ l, Lim x) → Lim last → 0 ≤ p ∧ p ≤ 1000 → 0 ≤ rampRec 1000 t p (stepsG last l) ∧ rampRec 1000 t p (stepsG last l) ≤ 1000
  | [], _, _, _, _, h => h
  | x :: l, last, p, h, hl, hp => by
    have hx := h x (by simp)
    rw [stepsG, rampRec]
    by_cases ht : t ≤ x.1
    · rw [if_pos ht]
      unfold Lim at hx hl
      unfold atE
      have : 0 ≤ 1000 * (x.1 - t) := by omega
      simp only
      split <;> omega
    · rw [if_neg ht]
      exact ramp_bd t l x _ (fun y hy => h y (by simp [hy])) hx hx
theorem Good.ramp (h : Good a b) (he : mergedE a b = 0) : rampE 1000 0 1000 0 (mergedL a b) 62 = 0 := by
  have h0 : rampE0 1000 0 1000 0 (mergedL a b) 62 = 0 := by
    unfold rampE0
    rw [firstE_cons, firstE_cons, withinE_zero]
    refine ⟨checkAll_zero.2 ⟨checkRules_zero.2 ⟨by omega, by omega, by omega, by omega⟩, by omega, h.ords he⟩, by omega, rfl⟩
  unfold rampE
  rw [if_pos h0]
  refine steps_ok _ _ (fun x hx => ?_) (by unfold Lim; simp only; omega) (mergedL_sorted a b)
  have := h.mem he hx
  exact ⟨by unfold Lim; omega, by simp only; omega⟩
def rampO (a b : List (Int × Int)) : List Int := rampL 1000 0 (stepsG (0, 0) (mergedL a b)) 62
theorem rampO_len : (rampO a b).length = 62 := by simp [rampO, rampL]
theorem Good.hit (h : Good a b) (he : mergedE a b = 0) {y : Int × Int} (hy : y ∈ mergedL a b) : ∃ hi : y.1.toNat < (rampO a b).length, (rampO a b)[y.1.toNat] = asked a y.1 + asked b y.1 := by
  have h1 := h.mem he hy
  have hi : y.1.toNat < (rampO a b).length := by rw [rampO_len]; omega
  refine ⟨hi, ?_⟩
  have e : ((y.1.toNat : Nat) : Int) = y.1 := by omega
  simp only [rampO, rampL, List.getElem_map, List.getElem_range]
  rw [e, rampAt_rec, ramp_hit _ _ _ y (mergedL_sorted a b) hy]
  exact congrArg Prod.snd h1.1
theorem Good.bd (h : Good a b) (he : mergedE a b = 0) {p : Int} (hp : p ∈ rampO a b) : 0 ≤ p ∧ p ≤ 1000 := by
  simp only [rampO, rampL, List.mem_map] at hp
  obtain ⟨t, _, rfl⟩ := hp
  rw [rampAt_rec]
  exact ramp_bd _ _ _ _ (fun x hx => by have := h.mem he hx; unfold Lim; omega) (by unfold Lim; simp only; omega) (by omega)
theorem errs_of {l : List Int} (h : ∀ p ∈ l, 0 ≤ p ∧ p ≤ 1000) : firstE (errs l) = 0 := by
  refine firstE_zero.2 fun e he => ?_
  obtain ⟨p, hp, rfl⟩ := List.mem_map.1 he
  exact withinE_zero.2 (h p hp)

/-! what is needed -/
theorem nd_spec (x y z p : Int) : ∀ (k : Nat) (n : Int), (nd x y z p k n = (0, 7)) ∨ ∃ m, nd x y z p k n = (m, 0) ∧ n ≤ m ∧ m < n + k ∧ p ≤ delLo x y z m
  | 0, n => .inl rfl
  | k + 1, n => by
    rw [nd]
    by_cases h : p ≤ delLo x y z n
    · rw [if_pos h]; exact .inr ⟨n, rfl, by omega, by omega, h⟩
    · rw [if_neg h]
      rcases nd_spec x y z p k (n + 1) with h1 | ⟨m, h1, h2, h3, h4⟩
      · exact .inl h1
      · exact .inr ⟨m, h1, by omega, by omega, h4⟩
theorem needed_spec {x y z p : Int} (h : checkLosses x y z = 0) (hp : 0 ≤ p ∧ p ≤ 1000) : neededR x y z p = (0, 7) ∨ ∃ m, neededR x y z p = (m, 0) ∧ p ≤ m ∧ m ≤ 1000 ∧ p ≤ delLo x y z m := by
  have h0 : checkLoss x y z p = 0 := checkLoss_zero.2 ⟨(checkLosses_zero.1 h).1, (checkLosses_zero.1 h).2.1, (checkLosses_zero.1 h).2.2, hp⟩
  unfold neededR
  rw [if_pos h0]
  rcases nd_spec x y z p (1001 - p).toNat p with h1 | ⟨m, h1, h2, h3, h4⟩
  · exact .inl h1
  · exact .inr ⟨m, h1, h2, by omega, h4⟩
theorem sum2_add (f : Int → Int) : ∀ (l : List Int) (acc : Int) (n : Int), sum2 f acc (l ++ [n]) = sum2 f acc l + f n
  | [], _, _ => rfl
  | x :: l, acc, n => by rw [List.cons_append, sum2, sum2, sum2_add f l]
end Go.AM.W

