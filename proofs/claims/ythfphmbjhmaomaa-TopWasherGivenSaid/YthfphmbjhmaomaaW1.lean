/-
  The W seat: errors and ranges.
-/
import Derived.Test.YthfphmbjhmaomaaWFacts
import Derived.Test.YthfphmbjhmaomaaAmTac
namespace Go.AM.W
open Go.Proofs Go.AM
variable {ov : Ov} {A A' : CW}

def withinE (n lo hi : Int) : Int := if n < lo ∨ n > hi then 3 else 0
/-- The functions that are no contract's: their code is gone through. -/
def Un (ov : Ov) : Prop := ∀ f, f ∈ [21, 25, 28, 47, 55, 56, 58, 71, 102, 53, 105, 54, 62, 63, 67, 60, 66, 18, 52] → ov f = none
theorem g0 : Try.prog.globals.size = 0 := by kernel_rfl
theorem gW : gOk Try.prog A = true := by simp [gOk, g0]
theorem when56 (hu : Un ov) (b : Bool) (e : Int) : den Try.prog ov (.func 56) #[.bool b, .int .i64 e] A = some (.int .i64 (if b then e else 0), A) := by
  refine den_func (hu 56 (by decide)) Try.func56 rfl (callOk_sound rfl) ?_
  cases b <;> simp [Try.f56]
theorem within58 (hu : Un ov) (n lo hi : Int) : den Try.prog ov (.func 58) #[.int .i64 n, .int .i64 lo, .int .i64 hi] A = some (.int .i64 (withinE n lo hi), A) := by
  refine den_func (hu 58 (by decide)) Try.func58 rfl (callOk_sound rfl) ?_
  by_cases h : n < lo <;> simp [Try.f58, h, when56 hu, withinE]
theorem first47 (hu : Un ov) (A : CW) (a : Option Addr) (cap : Nat) (l : List Int) (hlen : l.length < 2 ^ 47) (h : IsSl Try.prog A (cI .i64) a cap l) : den Try.prog ov (.func 47) #[.slice a l.length cap] A = some (.int .i64 (firstE l), A) := by
  refine den_func (hu 47 (by decide)) Try.func47 rfl (callOk_sound rfl) ?_
  simp [Try.f47, len, goInt]
  generalize hL : xden Try.prog ov none (Code.loop _) _ = L
  have hl : ∃ x s', L = some (x, s') ∧ ∃ τ, s' = ⟨τ, 15, A, []⟩ ∧ ((x = .exit 0 ∧ firstE l = 0) ∨ (x = .ret ∧ τ.get 2 = some (.int .i64 (firstE l)))) := by
    rw [← hL]
    refine loop_rule (fun m s => ∃ i, i ≤ l.length ∧ m = l.length - i ∧ firstE (l.drop i) = firstE l ∧ ∃ τ, s = ⟨τ, 15, A, []⟩ ∧ τ.get 5 = some (.slice a l.length cap) ∧ τ.get 6 = some (.int .i64 l.length) ∧ τ.get 7 = some (.int .i64 i)) ?_ l.length _ ⟨0, by omega, by omega, rfl, _, rfl, by simp, by simp, by simp⟩
    rintro m s ⟨i, hi, rfl, hf, τ, rfl, h5, h6, h7⟩
    by_cases hlt : i < l.length
    · obtain ⟨k, o, sp, rfl, hr⟩ := h.at hlt
      have hc := hr.cell i hlt 0 (by decide)
      have hd : l.drop i = l[i] :: l.drop (i + 1) := by simp
      rw [hd] at hf
      have hw : IntKind.i64.wrap ((i : Int) + 1) = ((i + 1 : Nat) : Int) := by rw [wrap64_of (by omega)]; omega
      simp at hc
      by_cases he : l[i] = 0
      · simp [h5, h6, h7, hlt, indexAddr, load_one, hc, he, hw]
        exact ⟨_, by omega, i + 1, by omega, rfl, by simpa [firstE, he] using hf, _, rfl, by simp [h5], by simp [h6], by simp⟩
      · simp [h5, h6, h7, hlt, indexAddr, load_one, hc, he, hw]
        exact ⟨_, rfl, .inr ⟨rfl, by simp [← hf, firstE, he]⟩⟩
    · have : l.drop i = [] := List.drop_eq_nil_of_le (by omega)
      rw [this] at hf
      simp [h5, h6, h7, hlt]
      exact ⟨_, rfl, .inl ⟨rfl, hf.symm⟩⟩
  obtain ⟨x, s', rfl, τ, rfl, ⟨rfl, h1⟩ | ⟨rfl, h1⟩⟩ := hl
  · simp [h1]
  · simp [h1]
theorem first47n (hu : Un ov) {k n : Nat} {vs : List Value} (hk : k = A.n) (hn : n = vs.length) (hv : intV vs = true) (hl : vs.length < 1000) :
    den Try.prog ov (.func 47) #[.slice (some ⟨k, 0, none⟩) n n] (A.push (.cells vs 29 false false 0)) = some (.int .i64 (firstV vs), A.push (.cells vs 29 false false 0)) :=
  first_at Try.sz29 (fun A a cap l => first47 hu A a cap l) hk hn hv hl

def checkLosses (x y z : Int) : Int := firstE [withinE x 0 1000, withinE y 0 1000, withinE z 0 1000]
theorem b65 (hu : Un ov) (hn : ov 65 = none) (x y z : Int) :
    ∃ v A', den Try.prog ov (.func 65) #[.agg #[.int .i64 x, .int .i64 y, .int .i64 z]] A = some (v, A') ∧ ResIs A A' v (.v (.int .i64 (checkLosses x y z))) ∧ Grow A A' := by
  refine den_out hn Try.func65 rfl (callOk_sound rfl) ?_
  simp [Try.f65]
  rw [region_draw_eq [(0, false, false), (1, false, false), (3, false, false), (4, false, true), (6, false, false), (7, false, true), (2, true, false), (5, true, false), (8, false, false), (9, false, false), (10, false, false), (11, false, false)]]
  rotate_left
  · kernel_rfl
  · kernel_rfl
  simp [fieldAddr, load_one, cellAt, within58 hu, buildSlice, rep, fillAt, splice, CW.get_push, first47n hu]
  exact ⟨by simp [ResIs, checkLosses, firstE, firstV], (Grow.push1 _ _).push _⟩
def F65 : List DT → Option Res
  | [.f (.agg ⟨[.int .i64 x, .int .i64 y, .int .i64 z]⟩)] => some (.v (.int .i64 (checkLosses x y z)))
  | _ => none
theorem s65 (ho : OvSound Try.prog ov) (hu : Un ov) (hn : ov 65 = none) : OvSound Try.prog (ov.add 65 (con Try.prog F65)) := ho.addF Try.mixed Try.okProg F65 fun args A ds r hg hds hF => by
  unfold F65 at hF
  split at hF
  case h_2 => cases hF
  cases hF
  obtain ⟨v0, rfl, h0⟩ := args1 hds
  obtain rfl := decV_f h0
  obtain ⟨v, A1, e, hr, hgr⟩ := b65 hu hn _ _ _
  exact ⟨v, A1, e, hgr, hr⟩
theorem u65 (h : ov 65 = some (con Try.prog F65)) (x y z : Int)  : den Try.prog ov (.func 65) #[(.agg #[.int .i64 x, .int .i64 y, .int .i64 z])] A = some (Res.lay A (.v (.int .i64 (checkLosses x y z)))) := by
  rw [den_ov h]
  refine con_eq gW (ds := [.f (.agg #[.int .i64 x, .int .i64 y, .int .i64 z])]) (by simp [mapO, decV_flat]) (by simp [F65]) ?_
  simp [Res.ok]
end Go.AM.W

/-
  The W seat: rules, steps, losses.
-/
namespace Go.AM.W
open Go.Proofs Go.AM
variable {ov : Ov} {A A' : CW}
set_option maxRecDepth 100000

def Bd (n : Int) : Prop := -1000000 ≤ n ∧ n ≤ 1000000
theorem checkPower55 (hu : Un ov) (n : Int) : den Try.prog ov (.func 55) #[.int .i64 n] A = some (.int .i64 (withinE n (-1000) 1000), A) := by
  refine den_func (hu 55 (by decide)) Try.func55 rfl (callOk_sound rfl) ?_
  simp [Try.f55, within58 hu]
theorem balance67 (hu : Un ov) (n : Int) : den Try.prog ov (.func 67) #[.int .i64 n] A = some (.int .i64 (withinE n 0 1000), A) := by
  refine den_func (hu 67 (by decide)) Try.func67 rfl (callOk_sound rfl) ?_
  simp [Try.f67, within58 hu]
instance (n : Int) : Decidable (Bd n) := inferInstanceAs (Decidable (_ ∧ _))
theorem wrap64_eq {n m : Int} (h : m = n) (hb : -9223372036854775808 ≤ n ∧ n ≤ 9223372036854775807) : IntKind.i64.wrap m = n := by subst h; exact wrap64_of hb

/-- The difference of the power of a step and the power before it. -/
theorem b107 (hn : ov 107 = none) (t p b s : Int) (hp : Bd p) (hb : Bd b) :
    ∃ v A', den Try.prog ov (.func 107) #[.agg #[.int .i64 t, .int .i64 p, .int .i64 b, .int .i64 s]] A = some (v, A') ∧ ResIs A A' v (.v (.int .i64 (max (p - b) (b - p)))) ∧ Grow A A' := by
  unfold Bd at hp hb
  refine den_out hn Try.func107 rfl (callOk_sound rfl) ?_
  simp [Try.f107, wrap64_of (n := p - b) (by omega), wrap64_of (n := b - p) (by omega)]
  exact ⟨rfl, Grow.push1 _ _⟩
def F107 : List DT → Option Res
  | [.f (.agg ⟨[.int .i64 t, .int .i64 p, .int .i64 b, .int .i64 s]⟩)] => if Bd p ∧ Bd b then some (.v (.int .i64 (max (p - b) (b - p)))) else none
  | _ => none
theorem s107 (ho : OvSound Try.prog ov) (hu : Un ov) (hn : ov 107 = none) : OvSound Try.prog (ov.add 107 (con Try.prog F107)) := ho.addF Try.mixed Try.okProg F107 fun args A ds r hg hds hF => by
  unfold F107 at hF
  split at hF
  case h_2 => cases hF
  split at hF
  case isFalse => cases hF
  rename_i hgd
  cases hF
  obtain ⟨v0, rfl, h0⟩ := args1 hds
  obtain rfl := decV_f h0
  obtain ⟨v, A1, e, hr, hgr⟩ := b107 hn _ _ _ _ hgd.1 hgd.2
  exact ⟨v, A1, e, hgr, hr⟩
theorem u107 (h : ov 107 = some (con Try.prog F107)) (t p b s : Int)  (hgd : Bd p ∧ Bd b) : den Try.prog ov (.func 107) #[(.agg #[.int .i64 t, .int .i64 p, .int .i64 b, .int .i64 s])] A = some (Res.lay A (.v (.int .i64 (max (p - b) (b - p))))) := by
  rw [den_ov h]
  refine con_eq gW (ds := [.f (.agg #[.int .i64 t, .int .i64 p, .int .i64 b, .int .i64 s])]) (by simp [mapO, decV_flat]) (by simp [F107, hgd]) ?_
  simp [Res.ok]

theorem mul_bd {x y : Int} {X Y : Nat} (hx : x.natAbs ≤ X) (hy : y.natAbs ≤ Y) : (x * y).natAbs ≤ X * Y := by rw [Int.natAbs_mul]; exact Nat.mul_le_mul hx hy
theorem mul_bd' {x y : Int} (X Y : Nat) (hx : -(X : Int) ≤ x ∧ x ≤ X) (hy : -(Y : Int) ≤ y ∧ y ≤ Y) : -((X * Y : Nat) : Int) ≤ x * y ∧ x * y ≤ (X * Y : Nat) := by
  have := mul_bd (x := x) (y := y) (X := X) (Y := Y) (by omega) (by omega)
  omega
def atE (t p b rate tick : Int) : Int := if b < p then max b (p - rate * (t - tick)) else min b (p + rate * (t - tick))
theorem b64 (hn : ov 64 = none) (t p b s rate tick : Int) (ht : Bd t) (hp : Bd p) (hb : Bd b) (hr : Bd rate) (hk : Bd tick) :
    ∃ v A', den Try.prog ov (.func 64) #[.agg #[.int .i64 t, .int .i64 p, .int .i64 b, .int .i64 s], .int .i64 rate, .int .i64 tick] A = some (v, A') ∧ ResIs A A' v (.v (.int .i64 (atE t p b rate tick))) ∧ Grow A A' := by
  unfold Bd at hp hb ht hr hk
  have h1 := mul_bd' (x := rate) (y := t - tick) 1000000 2000000 (by omega) (by omega)
  have w1 : IntKind.i64.wrap (t - tick) = t - tick := wrap64_of (by omega)
  have w2 : IntKind.i64.wrap (rate * (t - tick)) = rate * (t - tick) := wrap64_of (by omega)
  have w3 : IntKind.i64.wrap (p - rate * (t - tick)) = p - rate * (t - tick) := wrap64_of (by omega)
  have w4 : IntKind.i64.wrap (p + rate * (t - tick)) = p + rate * (t - tick) := wrap64_of (by omega)
  refine den_out hn Try.func64 rfl (callOk_sound rfl) ?_
  by_cases h : b < p
  · simp [Try.f64, w1, w2, w3, h]
    exact ⟨by simp [ResIs, atE, h], Grow.push1 _ _⟩
  · simp [Try.f64, w1, w2, w4, h]
    exact ⟨by simp [ResIs, atE, h], Grow.push1 _ _⟩
def F64 : List DT → Option Res
  | [.f (.agg ⟨[.int .i64 t, .int .i64 p, .int .i64 b, .int .i64 s]⟩), .f (.int .i64 rate), .f (.int .i64 tick)] => if Bd t ∧ Bd p ∧ Bd b ∧ Bd rate ∧ Bd tick then some (.v (.int .i64 (atE t p b rate tick))) else none
  | _ => none
theorem s64 (ho : OvSound Try.prog ov) (hu : Un ov) (hn : ov 64 = none) : OvSound Try.prog (ov.add 64 (con Try.prog F64)) := ho.addF Try.mixed Try.okProg F64 fun args A ds r hg hds hF => by
  unfold F64 at hF
  split at hF
  case h_2 => cases hF
  split at hF
  case isFalse => cases hF
  rename_i hgd
  cases hF
  obtain ⟨v0, v1, v2, rfl, h0, h1, h2⟩ := args3 hds
  obtain rfl := decV_f h0
  obtain rfl := decV_f h1
  obtain rfl := decV_f h2
  obtain ⟨v, A1, e, hr, hgr⟩ := b64 hn _ _ _ _ _ _ hgd.1 hgd.2.1 hgd.2.2.1 hgd.2.2.2.1 hgd.2.2.2.2
  exact ⟨v, A1, e, hgr, hr⟩
theorem u64 (h : ov 64 = some (con Try.prog F64)) (t p b s rate tick : Int)  (hgd : Bd t ∧ Bd p ∧ Bd b ∧ Bd rate ∧ Bd tick) : den Try.prog ov (.func 64) #[(.agg #[.int .i64 t, .int .i64 p, .int .i64 b, .int .i64 s]), (.int .i64 rate), (.int .i64 tick)] A = some (Res.lay A (.v (.int .i64 (atE t p b rate tick)))) := by
  rw [den_ov h]
  refine con_eq gW (ds := [.f (.agg #[.int .i64 t, .int .i64 p, .int .i64 b, .int .i64 s]), .f (.int .i64 rate), .f (.int .i64 tick)]) (by simp [mapO, decV_flat]) (by simp [F64, hgd]) ?_
  simp [Res.ok]

def checkRules (r lo hi : Int) : Int := firstE [withinE r 1 1000, withinE lo (-1000) 1000, withinE hi (-1000) 1000, if hi < lo then 11 else 0]
theorem b106 (hu : Un ov) (hn : ov 106 = none) (r lo hi : Int) :
    ∃ v A', den Try.prog ov (.func 106) #[.agg #[.int .i64 r, .int .i64 lo, .int .i64 hi]] A = some (v, A') ∧ ResIs A A' v (.v (.int .i64 (checkRules r lo hi))) ∧ Grow A A' := by
  refine den_out hn Try.func106 rfl (callOk_sound rfl) ?_
  simp [Try.f106]
  rw [region_draw_eq [(0, false, false), (1, false, false), (3, false, false), (4, false, true), (6, false, false), (7, false, true), (9, false, false), (10, false, true), (11, false, false), (12, false, true), (13, false, false), (2, true, false), (5, true, false), (8, true, false), (14, false, false), (15, false, false), (16, false, false), (17, false, false)]]
  rotate_left
  · kernel_rfl
  · kernel_rfl
  simp [within58 hu, checkPower55 hu, when56 hu, first47n hu]
  exact ⟨by simp [ResIs, checkRules, firstE, firstV], (Grow.push1 _ _).push _⟩
def F106 : List DT → Option Res
  | [.f (.agg ⟨[.int .i64 r, .int .i64 lo, .int .i64 hi]⟩)] => some (.v (.int .i64 (checkRules r lo hi)))
  | _ => none
theorem s106 (ho : OvSound Try.prog ov) (hu : Un ov) (hn : ov 106 = none) : OvSound Try.prog (ov.add 106 (con Try.prog F106)) := ho.addF Try.mixed Try.okProg F106 fun args A ds r hg hds hF => by
  unfold F106 at hF
  split at hF
  case h_2 => cases hF
  cases hF
  obtain ⟨v0, rfl, h0⟩ := args1 hds
  obtain rfl := decV_f h0
  obtain ⟨v, A1, e, hr, hgr⟩ := b106 hu hn _ _ _
  exact ⟨v, A1, e, hgr, hr⟩
theorem u106 (h : ov 106 = some (con Try.prog F106)) (r lo hi : Int)  : den Try.prog ov (.func 106) #[(.agg #[.int .i64 r, .int .i64 lo, .int .i64 hi])] A = some (Res.lay A (.v (.int .i64 (checkRules r lo hi)))) := by
  rw [den_ov h]
  refine con_eq gW (ds := [.f (.agg #[.int .i64 r, .int .i64 lo, .int .i64 hi])]) (by simp [mapO, decV_flat]) (by simp [F106]) ?_
  simp [Res.ok]

def refusedE (r lo hi t p b s : Int) : Int := firstE [if p < lo ∨ hi < p then 30 else 0, if r * (t - s) < max (p - b) (b - p) then 21 else 0]
theorem b61 (hu : Un ov) (hn : ov 61 = none) (h107 : ov 107 = some (con Try.prog F107)) (r lo hi t p b s : Int) (ht : Bd t) (hp : Bd p) (hb : Bd b) (hr : Bd r) (hs : Bd s) :
    ∃ v A', den Try.prog ov (.func 61) #[.agg #[.int .i64 r, .int .i64 lo, .int .i64 hi], .agg #[.int .i64 t, .int .i64 p, .int .i64 b, .int .i64 s]] A = some (v, A') ∧ ResIs A A' v (.v (.int .i64 (refusedE r lo hi t p b s))) ∧ Grow A A' := by
  have hg := u107 (A := (A.push (.cells [.int .i64 r, .int .i64 lo, .int .i64 hi] 66 false false 0)).push (.cells [.int .i64 t, .int .i64 p, .int .i64 b, .int .i64 s] 140 false false 0)) h107 t p b s ⟨hp, hb⟩
  simp only [Res.lay] at hg
  unfold Bd at hp hb ht hr hs
  have h1 := mul_bd' (x := r) (y := t - s) 1000000 2000000 (by omega) (by omega)
  have w1 : IntKind.i64.wrap (t - s) = t - s := wrap64_of (by omega)
  have w2 : IntKind.i64.wrap (r * (t - s)) = r * (t - s) := wrap64_of (by omega)
  refine den_out hn Try.func61 rfl (callOk_sound rfl) ?_
  simp [Try.f61]
  rw [region_draw_eq [(0, false, false), (1, false, false), (2, false, false), (3, false, false), (4, false, false), (5, false, false), (6, false, false), (7, false, false), (8, false, false), (9, false, false), (10, false, false), (11, false, false), (12, false, false), (13, false, false), (15, false, true), (17, false, false), (18, false, true), (19, false, false), (20, false, false), (21, false, true), (22, false, false), (23, false, true), (24, false, false), (25, false, false), (14, true, false), (16, true, false), (26, false, false), (27, false, false), (28, false, false), (29, false, false), (30, false, false)]]
  rotate_left
  · kernel_rfl
  · kernel_rfl
  by_cases h : p < lo
  · simp [h, when56 hu, hg, w1, w2, first47n hu]
    exact ⟨by simp [ResIs, refusedE, firstE, firstV, h], ((Grow.push1 _ _).push _).push _⟩
  · simp [h, when56 hu, hg, w1, w2, first47n hu]
    exact ⟨by simp [ResIs, refusedE, firstE, firstV, h], ((Grow.push1 _ _).push _).push _⟩
def F61 : List DT → Option Res
  | [.f (.agg ⟨[.int .i64 r, .int .i64 lo, .int .i64 hi]⟩), .f (.agg ⟨[.int .i64 t, .int .i64 p, .int .i64 b, .int .i64 s]⟩)] => if Bd t ∧ Bd p ∧ Bd b ∧ Bd r ∧ Bd s then some (.v (.int .i64 (refusedE r lo hi t p b s))) else none
  | _ => none
theorem s61 (ho : OvSound Try.prog ov) (hu : Un ov) (hn : ov 61 = none) (h107 : ov 107 = some (con Try.prog F107)) : OvSound Try.prog (ov.add 61 (con Try.prog F61)) := ho.addF Try.mixed Try.okProg F61 fun args A ds r hg hds hF => by
  unfold F61 at hF
  split at hF
  case h_2 => cases hF
  split at hF
  case isFalse => cases hF
  rename_i hgd
  cases hF
  obtain ⟨v0, v1, rfl, h0, h1⟩ := args2 hds
  obtain rfl := decV_f h0
  obtain rfl := decV_f h1
  obtain ⟨v, A1, e, hr, hgr⟩ := b61 hu hn h107 _ _ _ _ _ _ _ hgd.1 hgd.2.1 hgd.2.2.1 hgd.2.2.2.1 hgd.2.2.2.2
  exact ⟨v, A1, e, hgr, hr⟩
theorem u61 (h : ov 61 = some (con Try.prog F61)) (r lo hi t p b s : Int)  (hgd : Bd t ∧ Bd p ∧ Bd b ∧ Bd r ∧ Bd s) : den Try.prog ov (.func 61) #[(.agg #[.int .i64 r, .int .i64 lo, .int .i64 hi]), (.agg #[.int .i64 t, .int .i64 p, .int .i64 b, .int .i64 s])] A = some (Res.lay A (.v (.int .i64 (refusedE r lo hi t p b s)))) := by
  rw [den_ov h]
  refine con_eq gW (ds := [.f (.agg #[.int .i64 r, .int .i64 lo, .int .i64 hi]), .f (.agg #[.int .i64 t, .int .i64 p, .int .i64 b, .int .i64 s])]) (by simp [mapO, decV_flat]) (by simp [F61, hgd]) ?_
  simp [Res.ok]

def checkLoss (x y z p : Int) : Int := firstE [checkLosses x y z, withinE p 0 1000]
theorem b69 (hu : Un ov) (hn : ov 69 = none) (h65 : ov 65 = some (con Try.prog F65)) (x y z p : Int) :
    ∃ v A', den Try.prog ov (.func 69) #[.agg #[.int .i64 x, .int .i64 y, .int .i64 z], .int .i64 p] A = some (v, A') ∧ ResIs A A' v (.v (.int .i64 (checkLoss x y z p))) ∧ Grow A A' := by
  refine den_out hn Try.func69 rfl (callOk_sound rfl) ?_
  simp [Try.f69, within58 hu, u65 h65, Res.lay, first47n hu]
  exact ⟨by simp [ResIs, checkLoss, firstE, firstV], (Grow.push1 _ _).push _⟩
def F69 : List DT → Option Res
  | [.f (.agg ⟨[.int .i64 x, .int .i64 y, .int .i64 z]⟩), .f (.int .i64 p)] => some (.v (.int .i64 (checkLoss x y z p)))
  | _ => none
theorem s69 (ho : OvSound Try.prog ov) (hu : Un ov) (hn : ov 69 = none) (h65 : ov 65 = some (con Try.prog F65)) : OvSound Try.prog (ov.add 69 (con Try.prog F69)) := ho.addF Try.mixed Try.okProg F69 fun args A ds r hg hds hF => by
  unfold F69 at hF
  split at hF
  case h_2 => cases hF
  cases hF
  obtain ⟨v0, v1, rfl, h0, h1⟩ := args2 hds
  obtain rfl := decV_f h0
  obtain rfl := decV_f h1
  obtain ⟨v, A1, e, hr, hgr⟩ := b69 hu hn h65 _ _ _ _
  exact ⟨v, A1, e, hgr, hr⟩
theorem u69 (h : ov 69 = some (con Try.prog F69)) (x y z p : Int)  : den Try.prog ov (.func 69) #[(.agg #[.int .i64 x, .int .i64 y, .int .i64 z]), (.int .i64 p)] A = some (Res.lay A (.v (.int .i64 (checkLoss x y z p)))) := by
  rw [den_ov h]
  refine con_eq gW (ds := [.f (.agg #[.int .i64 x, .int .i64 y, .int .i64 z]), .f (.int .i64 p)]) (by simp [mapO, decV_flat]) (by simp [F69]) ?_
  simp [Res.ok]

def lossN (x y z p : Int) : Int := x * 1024 * 1024 + y * p * 1024 + z * p * p
def lossLo (x y z p : Int) : Int := if p = 0 then 0 else (lossN x y z p).tdiv 1048576
def lossHi (x y z p : Int) : Int := if p = 0 then 0 else (lossN x y z p + 1048575).tdiv 1048576
theorem b70 (hn : ov 70 = none) (x y z p : Int) (hx : 0 ≤ x ∧ x ≤ 1000) (hy : 0 ≤ y ∧ y ≤ 1000) (hz : 0 ≤ z ∧ z ≤ 1000) (hp : 0 ≤ p ∧ p ≤ 1000) :
    ∃ v A', den Try.prog ov (.func 70) #[.agg #[.int .i64 x, .int .i64 y, .int .i64 z], .int .i64 p] A = some (v, A') ∧ ResIs A A' v (.v (.agg #[.int .i64 (lossLo x y z p), .int .i64 (lossHi x y z p)])) ∧ Grow A A' := by
  have h1 := mul_bd' (x := y) (y := p) 1000 1000 (by omega) (by omega)
  have h2 := mul_bd' (x := z) (y := p) 1000 1000 (by omega) (by omega)
  have h3 := mul_bd' (x := z * p) (y := p) 1000000 1000 (by omega) (by omega)
  have p1 : 0 ≤ y * p := Int.mul_nonneg hy.1 hp.1
  have p3 : 0 ≤ z * p * p := Int.mul_nonneg (Int.mul_nonneg hz.1 hp.1) hp.1
  have w1 : IntKind.i64.wrap (x * 1024) = x * 1024 := wrap64_of (by omega)
  have w2 : IntKind.i64.wrap (x * 1024 * 1024) = x * 1024 * 1024 := wrap64_of (by omega)
  have w3 : IntKind.i64.wrap (y * p) = y * p := wrap64_of (by omega)
  have w4 : IntKind.i64.wrap (y * p * 1024) = y * p * 1024 := wrap64_of (by omega)
  have w5 : IntKind.i64.wrap (x * 1024 * 1024 + y * p * 1024) = x * 1024 * 1024 + y * p * 1024 := wrap64_of (by omega)
  have w6 : IntKind.i64.wrap (z * p) = z * p := wrap64_of (by omega)
  have w7 : IntKind.i64.wrap (z * p * p) = z * p * p := wrap64_of (by omega)
  have w8 : IntKind.i64.wrap (x * 1024 * 1024 + y * p * 1024 + z * p * p) = lossN x y z p := wrap64_eq rfl (by unfold lossN; omega)
  have hN : -4000000000000 ≤ lossN x y z p ∧ lossN x y z p ≤ 4000000000000 := by unfold lossN; omega
  have w9 : IntKind.i64.wrap (lossN x y z p + 1048576) = lossN x y z p + 1048576 := wrap64_of (by omega)
  have w10 : IntKind.i64.wrap (lossN x y z p + 1048576 - 1) = lossN x y z p + 1048575 := wrap64_eq (by omega) (by omega)
  have hN0 : 0 ≤ lossN x y z p := by unfold lossN; omega
  have d1 : ∀ n : Int, 0 ≤ n → n ≤ 4000001048576 → IntKind.i64.wrap (n.tdiv 1048576) = n.tdiv 1048576 := fun n a b => by
    refine wrap64_of ?_
    rw [Int.tdiv_eq_ediv_of_nonneg a]; omega
  refine den_out hn Try.func70 rfl (callOk_sound rfl) ?_
  by_cases h : p = 0
  · simp [Try.f70, h]
    exact ⟨by simp [ResIs, lossLo, lossHi, h], ((Grow.push1 _ _).push _).set (by simp) _⟩
  · simp [Try.f70, h, w1, w2, w3, w4, w5, w6, w7, w8, w9, w10, ib_quo, d1 (lossN x y z p) (by omega) (by omega), d1 (lossN x y z p + 1048575) (by omega) (by omega)]
    exact ⟨by simp [ResIs, lossLo, lossHi, h], ((Grow.push1 _ _).push _).set (by simp) _⟩
def F70 : List DT → Option Res
  | [.f (.agg ⟨[.int .i64 x, .int .i64 y, .int .i64 z]⟩), .f (.int .i64 p)] => if (0 ≤ x ∧ x ≤ 1000) ∧ (0 ≤ y ∧ y ≤ 1000) ∧ (0 ≤ z ∧ z ≤ 1000) ∧ (0 ≤ p ∧ p ≤ 1000) then some (.v (.agg #[.int .i64 (lossLo x y z p), .int .i64 (lossHi x y z p)])) else none
  | _ => none
theorem s70 (ho : OvSound Try.prog ov) (hu : Un ov) (hn : ov 70 = none) : OvSound Try.prog (ov.add 70 (con Try.prog F70)) := ho.addF Try.mixed Try.okProg F70 fun args A ds r hg hds hF => by
  unfold F70 at hF
  split at hF
  case h_2 => cases hF
  split at hF
  case isFalse => cases hF
  rename_i hgd
  cases hF
  obtain ⟨v0, v1, rfl, h0, h1⟩ := args2 hds
  obtain rfl := decV_f h0
  obtain rfl := decV_f h1
  obtain ⟨v, A1, e, hr, hgr⟩ := b70 hn _ _ _ _ hgd.1 hgd.2.1 hgd.2.2.1 hgd.2.2.2
  exact ⟨v, A1, e, hgr, hr⟩
theorem u70 (h : ov 70 = some (con Try.prog F70)) (x y z p : Int)  (hgd : (0 ≤ x ∧ x ≤ 1000) ∧ (0 ≤ y ∧ y ≤ 1000) ∧ (0 ≤ z ∧ z ≤ 1000) ∧ (0 ≤ p ∧ p ≤ 1000)) : den Try.prog ov (.func 70) #[(.agg #[.int .i64 x, .int .i64 y, .int .i64 z]), (.int .i64 p)] A = some (Res.lay A (.v (.agg #[.int .i64 (lossLo x y z p), .int .i64 (lossHi x y z p)]))) := by
  rw [den_ov h]
  refine con_eq gW (ds := [.f (.agg #[.int .i64 x, .int .i64 y, .int .i64 z]), .f (.int .i64 p)]) (by simp [mapO, decV_flat]) (by simp [F70, hgd]) ?_
  simp [Res.ok]
end Go.AM.W

/-
  The W seat: losses, orders.
-/
namespace Go.AM.W
open Go.Proofs Go.AM
variable {ov : Ov} {A A' : CW}
set_option maxRecDepth 100000

theorem withinE_zero {n lo hi : Int} : withinE n lo hi = 0 ↔ lo ≤ n ∧ n ≤ hi := by unfold withinE; split <;> omega
theorem checkLosses_zero {x y z : Int} : checkLosses x y z = 0 ↔ (0 ≤ x ∧ x ≤ 1000) ∧ (0 ≤ y ∧ y ≤ 1000) ∧ (0 ≤ z ∧ z ≤ 1000) := by
  unfold checkLosses
  simp only [firstE]
  rw [← withinE_zero, ← withinE_zero, ← withinE_zero]
  split
  · split
    · split <;> simp_all
    · simp_all
  · simp_all
theorem checkLoss_zero {x y z p : Int} : checkLoss x y z p = 0 ↔ (0 ≤ x ∧ x ≤ 1000) ∧ (0 ≤ y ∧ y ≤ 1000) ∧ (0 ≤ z ∧ z ≤ 1000) ∧ (0 ≤ p ∧ p ≤ 1000) := by
  unfold checkLoss
  simp only [firstE]
  have h := @checkLosses_zero x y z
  have h2 := @withinE_zero p 0 1000
  split
  · split <;> simp_all
  · simp_all; omega
theorem loss_bd {x y z p : Int} (hx : 0 ≤ x ∧ x ≤ 1000) (hy : 0 ≤ y ∧ y ≤ 1000) (hz : 0 ≤ z ∧ z ≤ 1000) (hp : 0 ≤ p ∧ p ≤ 1000) : 0 ≤ lossLo x y z p ∧ lossLo x y z p ≤ lossHi x y z p ∧ lossHi x y z p ≤ 10000000 := by
  have h1 := mul_bd' (x := y) (y := p) 1000 1000 (by omega) (by omega)
  have h2 := mul_bd' (x := z) (y := p) 1000 1000 (by omega) (by omega)
  have h3 := mul_bd' (x := z * p) (y := p) 1000000 1000 (by omega) (by omega)
  have p1 : 0 ≤ y * p := Int.mul_nonneg hy.1 hp.1
  have p3 : 0 ≤ z * p * p := Int.mul_nonneg (Int.mul_nonneg hz.1 hp.1) hp.1
  have hN : 0 ≤ lossN x y z p ∧ lossN x y z p ≤ 4000000000000 := by unfold lossN; omega
  unfold lossLo lossHi
  split
  · omega
  · rw [Int.tdiv_eq_ediv_of_nonneg hN.1, Int.tdiv_eq_ediv_of_nonneg (by omega)]; omega

def delLo (x y z p : Int) : Int := max 0 (p - lossHi x y z p)
def delHi (x y z p : Int) : Int := max 0 (p - lossLo x y z p)
theorem b68 (hn : ov 68 = none) (h70 : ov 70 = some (con Try.prog F70)) (x y z p : Int) (hx : 0 ≤ x ∧ x ≤ 1000) (hy : 0 ≤ y ∧ y ≤ 1000) (hz : 0 ≤ z ∧ z ≤ 1000) (hp : 0 ≤ p ∧ p ≤ 1000) :
    ∃ v A', den Try.prog ov (.func 68) #[.agg #[.int .i64 x, .int .i64 y, .int .i64 z], .int .i64 p] A = some (v, A') ∧ ResIs A A' v (.v (.agg #[.int .i64 (delLo x y z p), .int .i64 (delHi x y z p)])) ∧ Grow A A' := by
  have hb := loss_bd hx hy hz hp
  have w1 : IntKind.i64.wrap (p - lossHi x y z p) = p - lossHi x y z p := wrap64_of (by omega)
  have w2 : IntKind.i64.wrap (p - lossLo x y z p) = p - lossLo x y z p := wrap64_of (by omega)
  refine den_out hn Try.func68 rfl (callOk_sound rfl) ?_
  simp [Try.f68, u70 h70 _ _ _ _ ⟨hx, hy, hz, hp⟩, Res.lay, w1, w2]
  exact ⟨by simp [ResIs, delLo, delHi], by repeat (first | exact Grow.refl _ | apply Grow.push | refine Grow.set ?_ (by first | omega | simp | (simp; omega)) _)⟩
def F68 : List DT → Option Res
  | [.f (.agg ⟨[.int .i64 x, .int .i64 y, .int .i64 z]⟩), .f (.int .i64 p)] => if (0 ≤ x ∧ x ≤ 1000) ∧ (0 ≤ y ∧ y ≤ 1000) ∧ (0 ≤ z ∧ z ≤ 1000) ∧ (0 ≤ p ∧ p ≤ 1000) then some (.v (.agg #[.int .i64 (delLo x y z p), .int .i64 (delHi x y z p)])) else none
  | _ => none
theorem s68 (ho : OvSound Try.prog ov) (hu : Un ov) (hn : ov 68 = none) (h70 : ov 70 = some (con Try.prog F70)) : OvSound Try.prog (ov.add 68 (con Try.prog F68)) := ho.addF Try.mixed Try.okProg F68 fun args A ds r hg hds hF => by
  unfold F68 at hF
  split at hF
  case h_2 => cases hF
  split at hF
  case isFalse => cases hF
  rename_i hgd
  cases hF
  obtain ⟨v0, v1, rfl, h0, h1⟩ := args2 hds
  obtain rfl := decV_f h0
  obtain rfl := decV_f h1
  obtain ⟨v, A1, e, hr, hgr⟩ := b68 hn h70 _ _ _ _ hgd.1 hgd.2.1 hgd.2.2.1 hgd.2.2.2
  exact ⟨v, A1, e, hgr, hr⟩
theorem u68 (h : ov 68 = some (con Try.prog F68)) (x y z p : Int)  (hgd : (0 ≤ x ∧ x ≤ 1000) ∧ (0 ≤ y ∧ y ≤ 1000) ∧ (0 ≤ z ∧ z ≤ 1000) ∧ (0 ≤ p ∧ p ≤ 1000)) : den Try.prog ov (.func 68) #[(.agg #[.int .i64 x, .int .i64 y, .int .i64 z]), (.int .i64 p)] A = some (Res.lay A (.v (.agg #[.int .i64 (delLo x y z p), .int .i64 (delHi x y z p)]))) := by
  rw [den_ov h]
  refine con_eq gW (ds := [.f (.agg #[.int .i64 x, .int .i64 y, .int .i64 z]), .f (.int .i64 p)]) (by simp [mapO, decV_flat]) (by simp [F68, hgd]) ?_
  simp [Res.ok]

def lossR (x y z p : Int) : Value := if checkLoss x y z p = 0 then .tuple #[.agg #[.int .i64 (lossLo x y z p), .int .i64 (lossHi x y z p)], .int .i64 0] else .tuple #[.agg #[.int .i64 0, .int .i64 0], .int .i64 (checkLoss x y z p)]
theorem b23 (hn : ov 23 = none) (h69 : ov 69 = some (con Try.prog F69)) (h70 : ov 70 = some (con Try.prog F70)) (x y z p : Int) :
    ∃ v A', den Try.prog ov (.func 23) #[.agg #[.int .i64 x, .int .i64 y, .int .i64 z], .int .i64 p] A = some (v, A') ∧ ResIs A A' v (.v (lossR x y z p)) ∧ Grow A A' := by
  refine den_out hn Try.func23 rfl (callOk_sound rfl) ?_
  by_cases h : checkLoss x y z p = 0
  · simp [Try.f23, u69 h69, Res.lay, h, u70 h70 _ _ _ _ (checkLoss_zero.1 h)]
    exact ⟨by simp [ResIs, lossR, h], by repeat (first | exact Grow.refl _ | apply Grow.push | refine Grow.set ?_ (by first | omega | simp | (simp; omega)) _)⟩
  · simp [Try.f23, u69 h69, Res.lay, h]
    exact ⟨by simp [ResIs, lossR, h], by repeat (first | exact Grow.refl _ | apply Grow.push | refine Grow.set ?_ (by first | omega | simp | (simp; omega)) _)⟩
def F23 : List DT → Option Res
  | [.f (.agg ⟨[.int .i64 x, .int .i64 y, .int .i64 z]⟩), .f (.int .i64 p)] => some (.v (lossR x y z p))
  | _ => none
theorem s23 (ho : OvSound Try.prog ov) (hu : Un ov) (hn : ov 23 = none) (h69 : ov 69 = some (con Try.prog F69)) (h70 : ov 70 = some (con Try.prog F70)) : OvSound Try.prog (ov.add 23 (con Try.prog F23)) := ho.addF Try.mixed Try.okProg F23 fun args A ds r hg hds hF => by
  unfold F23 at hF
  split at hF
  case h_2 => cases hF
  cases hF
  obtain ⟨v0, v1, rfl, h0, h1⟩ := args2 hds
  obtain rfl := decV_f h0
  obtain rfl := decV_f h1
  obtain ⟨v, A1, e, hr, hgr⟩ := b23 hn h69 h70 _ _ _ _
  exact ⟨v, A1, e, hgr, hr⟩
theorem u23 (h : ov 23 = some (con Try.prog F23)) (x y z p : Int)  : den Try.prog ov (.func 23) #[(.agg #[.int .i64 x, .int .i64 y, .int .i64 z]), (.int .i64 p)] A = some (Res.lay A (.v (lossR x y z p))) := by
  rw [den_ov h]
  refine con_eq gW (ds := [.f (.agg #[.int .i64 x, .int .i64 y, .int .i64 z]), .f (.int .i64 p)]) (by simp [mapO, decV_flat]) (by simp [F23]) ?_
  show flatB (lossR x y z p) = true; unfold lossR; split <;> rfl

/-- The first power from n on of which p is delivered. -/
def nd (x y z p : Int) : Nat → Int → Int × Int
  | 0, _ => (0, 7)
  | k + 1, n => if p ≤ delLo x y z n then (n, 0) else nd x y z p k (n + 1)
def neededR (x y z p : Int) : Int × Int := if checkLoss x y z p = 0 then nd x y z p (1001 - p).toNat p else (0, checkLoss x y z p)
theorem b24 (hn : ov 24 = none) (h69 : ov 69 = some (con Try.prog F69)) (h68 : ov 68 = some (con Try.prog F68)) (x y z p : Int) :
    ∃ v A', den Try.prog ov (.func 24) #[.agg #[.int .i64 x, .int .i64 y, .int .i64 z], .int .i64 p] A = some (v, A') ∧ ResIs A A' v (.v (.tuple #[.int .i64 (neededR x y z p).1, .int .i64 (neededR x y z p).2])) ∧ Grow A A' := by
  refine den_out hn Try.func24 rfl (callOk_sound rfl) ?_
  by_cases h : checkLoss x y z p = 0
  · simp [Try.f24, u69 h69, Res.lay, h]
    generalize hL : xden Try.prog ov none (Code.loop _) _ = L
    obtain ⟨hx, hy, hz, hp⟩ := checkLoss_zero.1 h
    have hl : ∃ x' s', L = some (x', s') ∧ ∃ τ A1, s' = ⟨τ, 26, A1, []⟩ ∧ Grow A A1 ∧ ((x' = .exit 0 ∧ nd x y z p (1001 - p).toNat p = (0, 7)) ∨ (x' = .ret ∧ τ.get 4 = some (.int .i64 (nd x y z p (1001 - p).toNat p).1) ∧ τ.get 5 = some (.int .i64 (nd x y z p (1001 - p).toNat p).2))) := by
      rw [← hL]
      refine loop_rule (fun m s => ∃ n : Int, p ≤ n ∧ n ≤ 1001 ∧ m = (1001 - n).toNat ∧ nd x y z p (1001 - n).toNat n = nd x y z p (1001 - p).toNat p ∧ ∃ τ, s = ⟨τ, 26, A.push (.cells [.int .i64 x, .int .i64 y, .int .i64 z] 72 false false 0), []⟩ ∧
        τ.get 1 = some (.int .i64 p) ∧ τ.get 2 = some (.pointer (some ⟨A.n, 0, none⟩)) ∧ τ.get 7 = some (.int .i64 n)) ?_ (1001 - p).toNat _ ⟨p, by omega, by omega, rfl, rfl, _, rfl, by simp, by simp, by simp⟩
      rintro m s ⟨n, hn1, hn2, rfl, hf, τ, rfl, h1, h2, h7⟩
      by_cases hlt : n ≤ 1000
      · have hw : IntKind.i64.wrap (n + 1) = n + 1 := wrap64_of (by omega)
        have hk : (1001 - n).toNat = (1001 - (n + 1)).toNat + 1 := by omega
        rw [hk, nd] at hf
        by_cases hd : p ≤ delLo x y z n
        · simp [h1, h2, h7, hlt, u68 h68 x y z n ⟨hx, hy, hz, by omega, hlt⟩, Res.lay, hd]
          rw [if_pos hd] at hf
          exact ⟨_, _, rfl, Grow.push1 _ _, .inr ⟨rfl, by simp [← hf], by simp [← hf]⟩⟩
        · simp [h1, h2, h7, hlt, u68 h68 x y z n ⟨hx, hy, hz, by omega, hlt⟩, Res.lay, hd, hw]
          rw [if_neg hd] at hf
          exact ⟨_, by omega, n + 1, by omega, by omega, rfl, hf, _, rfl, by simp [h1], by simp [h2], by simp⟩
      · have hz0 : (1001 - n).toNat = 0 := by omega
        rw [hz0, nd] at hf
        simp [h1, h2, h7, hlt]
        exact ⟨_, _, rfl, Grow.push1 _ _, .inl ⟨rfl, hf.symm⟩⟩
    obtain ⟨x', s', rfl, τ, A1, rfl, hg, ⟨rfl, h1⟩ | ⟨rfl, h1, h2⟩⟩ := hl
    · simp
      exact ⟨by simp [ResIs, neededR, h, h1], hg⟩
    · simp [h1, h2]
      exact ⟨by simp [ResIs, neededR, h], hg⟩
  · simp [Try.f24, u69 h69, Res.lay, h]
    exact ⟨by simp [ResIs, neededR, h], Grow.push1 _ _⟩
def F24 : List DT → Option Res
  | [.f (.agg ⟨[.int .i64 x, .int .i64 y, .int .i64 z]⟩), .f (.int .i64 p)] => some (.v (.tuple #[.int .i64 (neededR x y z p).1, .int .i64 (neededR x y z p).2]))
  | _ => none
theorem s24 (ho : OvSound Try.prog ov) (hu : Un ov) (hn : ov 24 = none) (h69 : ov 69 = some (con Try.prog F69)) (h68 : ov 68 = some (con Try.prog F68)) : OvSound Try.prog (ov.add 24 (con Try.prog F24)) := ho.addF Try.mixed Try.okProg F24 fun args A ds r hg hds hF => by
  unfold F24 at hF
  split at hF
  case h_2 => cases hF
  cases hF
  obtain ⟨v0, v1, rfl, h0, h1⟩ := args2 hds
  obtain rfl := decV_f h0
  obtain rfl := decV_f h1
  obtain ⟨v, A1, e, hr, hgr⟩ := b24 hn h69 h68 _ _ _ _
  exact ⟨v, A1, e, hgr, hr⟩
theorem u24 (h : ov 24 = some (con Try.prog F24)) (x y z p : Int)  : den Try.prog ov (.func 24) #[(.agg #[.int .i64 x, .int .i64 y, .int .i64 z]), (.int .i64 p)] A = some (Res.lay A (.v (.tuple #[.int .i64 (neededR x y z p).1, .int .i64 (neededR x y z p).2]))) := by
  rw [den_ov h]
  refine con_eq gW (ds := [.f (.agg #[.int .i64 x, .int .i64 y, .int .i64 z]), .f (.int .i64 p)]) (by simp [mapO, decV_flat]) (by simp [F24]) ?_
  simp [Res.ok]
end Go.AM.W
