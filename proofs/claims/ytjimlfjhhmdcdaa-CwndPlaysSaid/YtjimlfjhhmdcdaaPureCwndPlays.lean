/- CwndPlays: a window has the document's numbers, whatever is sent, acknowledged, lost: of the functions that text F13 prints. Conditions: none. -/
import Derived.Test.YtjimlfjhhmdcdaaPureCwndAlpha
namespace Go.Proofs.YtjimlfjhhmdcdaaF13
open Go Zed
set_option linter.unusedVariables false
set_option linter.unusedSimpArgs false

/-- A window: its segment, its size, where it grows slow, the part, what is under way. -/
abbrev W := Int × Int × Int × Int × Int
structure Inv (U : Int) (w : W) : Prop where
  m1 : 1 ≤ w.1
  m2 : w.1 ≤ 1024
  z1 : w.1 ≤ w.2.1
  z2 : w.2.1 ≤ 64 * w.1
  s1 : 0 ≤ w.2.2.1
  s2 : w.2.2.1 ≤ 65536
  p1 : 0 ≤ w.2.2.2.1
  p2 : w.2.2.2.1 < 1024
  u1 : 0 ≤ w.2.2.2.2
  u2 : w.2.2.2.2 ≤ U

def cn (x : Int) : Int := if 1024 < (if x < 0 then 0 else x) then 1024 else (if x < 0 then 0 else x)
theorem cn_in (x : Int) : 0 ≤ cn x ∧ cn x ≤ 1024 := by unfold cn; split <;> split at * <;> omega
theorem cn_id {x : Int} (h : 0 ≤ x ∧ x ≤ 1024) : cn x = x := by
  unfold cn
  rw [if_neg (show ¬ x < 0 by omega), if_neg (by omega)]
theorem within0 (x : Int) : f71_broughamref13_within x 0 1024 = some (cn x) := by
  rw [within_is, cn]; congr 1
  split <;> split <;> first | rfl | omega
def goneU (u x : Int) : Int := if IntKind.wrap .i64 (u - cn x) < 0 then 0 else IntKind.wrap .i64 (u - cn x)
theorem goneU_in {U u : Int} (x : Int) (h1 : 0 ≤ u) (h2 : u ≤ U) (hU : U ≤ 1000000) : 0 ≤ goneU u x ∧ goneU u x ≤ u := by
  have := cn_in x
  unfold goneU
  rw [i64_id (by omega) (by omega)]
  split <;> omega

def sentOf (x : Int) (w : W) : W := (w.1, w.2.1, w.2.2.1, w.2.2.2.1, IntKind.wrap .i64 (w.2.2.2.2 + cn x))
def goneOf (x : Int) (w : W) : W := (w.1, w.2.1, w.2.2.1, w.2.2.2.1, goneU w.2.2.2.2 x)
def lostOf (x : Int) (w : W) : W := (w.1, w.1, (if IntKind.wrap .i64 (Int.tdiv w.2.1 2) < IntKind.wrap .i64 (2 * w.1) then IntKind.wrap .i64 (2 * w.1) else IntKind.wrap .i64 (Int.tdiv w.2.1 2)), 0, goneU w.2.2.2.2 x)
def capW (m z : Int) : Int := if IntKind.wrap .i64 (64 * m) < IntKind.wrap .i64 z then IntKind.wrap .i64 (64 * m) else IntKind.wrap .i64 z
def growOf (n A t m z : Int) : Int :=
  if IntKind.wrap .i64 (Int.tdiv (IntKind.wrap .i64 ((IntKind.wrap .i64 (1024 * n)) * m)) z) < IntKind.wrap .i64 (Int.tdiv (IntKind.wrap .i64 ((IntKind.wrap .i64 (A * n)) * m)) t)
  then IntKind.wrap .i64 (Int.tdiv (IntKind.wrap .i64 ((IntKind.wrap .i64 (1024 * n)) * m)) z) else IntKind.wrap .i64 (Int.tdiv (IntKind.wrap .i64 ((IntKind.wrap .i64 (A * n)) * m)) t)
def totOf (l : List P) (z : Int) : Int := if foldT (l.take 64) 0 < z then z else foldT (l.take 64) 0
def ackedOf (x : Int) (l : List P) (w : W) : W :=
  if w.2.1 < w.2.2.1 then (w.1, capW w.1 (w.2.1 + cn x), w.2.2.1, w.2.2.2.1, goneU w.2.2.2.2 (cn x))
  else (w.1, capW w.1 (w.2.1 + IntKind.wrap .i64 (Int.tdiv (IntKind.wrap .i64 (w.2.2.2.1 + growOf (cn x) (alphaOf l) (totOf l w.2.1) w.1 w.2.1)) 1024)), w.2.2.1, Int.tmod (IntKind.wrap .i64 (w.2.2.2.1 + growOf (cn x) (alphaOf l) (totOf l w.2.1) w.1 w.2.1)) 1024, goneU w.2.2.2.2 (cn x))

theorem cn_cn (x : Int) : cn (cn x) = cn x := cn_id (cn_in x)

section
variable {U : Int} {w : W}
theorem ref_gone (h : Inv U w) (hU : U ≤ 1000000) (x : Int) : f51_broughamref13_Gone w.1 w.2.1 w.2.2.1 w.2.2.2.1 w.2.2.2.2 x = some (goneOf x w) := by
  unfold f51_broughamref13_Gone
  rw [within0, Option.bind_some, within_is, Option.bind_some]
  have h1 := cn_in x; have h2 := h.u1; have h3 := h.u2
  unfold goneOf goneU
  rw [i64_id (by omega) (by omega)]
  rw [if_neg (show ¬ w.2.2.2.2 - cn x > w.2.2.2.2 by omega)]
theorem code_gone (x : Int) : f73_cwnd_Window_gone x w.1 w.2.1 w.2.2.1 w.2.2.2.1 w.2.2.2.2 = some (goneOf x w) := rfl
theorem code_forget (x : Int) : f50_cwnd_Window_Forget x w.1 w.2.1 w.2.2.1 w.2.2.2.1 w.2.2.2.2 = some (goneOf x w) := rfl
theorem code_sent (x : Int) : f47_cwnd_Window_Sent x w.1 w.2.1 w.2.2.1 w.2.2.2.1 w.2.2.2.2 = some (sentOf x w) := rfl
theorem ref_sent (x : Int) : f48_broughamref13_Sent w.1 w.2.1 w.2.2.1 w.2.2.2.1 w.2.2.2.2 x = some (sentOf x w) := by
  unfold f48_broughamref13_Sent; rw [within0]; rfl
theorem code_lost (x : Int) : f45_cwnd_Window_Lost x w.1 w.2.1 w.2.2.1 w.2.2.2.1 w.2.2.2.2 = some (lostOf x w) := rfl
theorem inv_gone (h : Inv U w) (hU : U ≤ 1000000) (x : Int) : Inv U (goneOf x w) := by
  have hg := goneU_in x h.u1 h.u2 hU; have := h.u2
  exact ⟨h.m1, h.m2, h.z1, h.z2, h.s1, h.s2, h.p1, h.p2, hg.1, by show goneU _ _ ≤ U; omega⟩
theorem inv_sent (h : Inv U w) (hU : U ≤ 1000000) (x : Int) : Inv (U + 1024) (sentOf x w) := by
  have := cn_in x; have := h.u1; have := h.u2
  have e : IntKind.wrap .i64 (w.2.2.2.2 + cn x) = w.2.2.2.2 + cn x := i64_id (by omega) (by omega)
  exact ⟨h.m1, h.m2, h.z1, h.z2, h.s1, h.s2, h.p1, h.p2, by show 0 ≤ IntKind.wrap .i64 _; omega, by show IntKind.wrap .i64 _ ≤ _; omega⟩
theorem lost_sl (h : Inv U w) : (if IntKind.wrap .i64 (Int.tdiv w.2.1 2) < IntKind.wrap .i64 (2 * w.1) then IntKind.wrap .i64 (2 * w.1) else IntKind.wrap .i64 (Int.tdiv w.2.1 2)) = if w.2.1 / 2 < 2 * w.1 then 2 * w.1 else w.2.1 / 2 := by
  have := h.m1; have := h.m2; have := h.z1; have := h.z2
  rw [tdiv_e (by omega), i64_id (e := w.2.1 / 2) (by omega) (by omega), i64_id (e := 2 * w.1) (by omega) (by omega)]
theorem inv_lost (h : Inv U w) (hU : U ≤ 1000000) (x : Int) : Inv U (lostOf x w) := by
  have := goneU_in x h.u1 h.u2 hU; have := h.u2; have := h.m1; have := h.m2; have := h.z1; have := h.z2
  unfold lostOf
  rw [lost_sl h]
  refine ⟨h.m1, h.m2, Int.le_refl _, by show w.1 ≤ 64 * w.1; omega, ?_, ?_, Int.le_refl _, by show (0 : Int) < 1024; decide, by show 0 ≤ goneU _ _; omega, by show goneU _ _ ≤ U; omega⟩
  · dsimp only; split <;> omega
  · dsimp only; split <;> omega
theorem ref_lost (h : Inv U w) (hU : U ≤ 1000000) (x : Int) : f49_broughamref13_Lost w.1 w.2.1 w.2.2.1 w.2.2.2.1 w.2.2.2.2 x = some (lostOf x w) := by
  unfold f49_broughamref13_Lost
  have := h.m1; have := h.m2; have := h.z1; have := h.z2
  have e : (if IntKind.wrap .i64 (Int.tdiv w.2.1 2) < IntKind.wrap .i64 (2 * w.1) then IntKind.wrap .i64 (2 * w.1) else if IntKind.wrap .i64 (Int.tdiv w.2.1 2) > IntKind.wrap .i64 (w.2.1 + IntKind.wrap .i64 (2 * w.1)) then IntKind.wrap .i64 (w.2.1 + IntKind.wrap .i64 (2 * w.1)) else IntKind.wrap .i64 (Int.tdiv w.2.1 2)) = if IntKind.wrap .i64 (Int.tdiv w.2.1 2) < IntKind.wrap .i64 (2 * w.1) then IntKind.wrap .i64 (2 * w.1) else IntKind.wrap .i64 (Int.tdiv w.2.1 2) := by
    rw [tdiv_e (by omega), i64_id (e := w.2.1 / 2) (by omega) (by omega), i64_id (e := 2 * w.1) (by omega) (by omega), i64_id (e := w.2.1 + 2 * w.1) (by omega) (by omega)]
    rw [if_neg (show ¬ w.2.1 / 2 > w.2.1 + 2 * w.1 by omega)]
  rw [within_is, Option.bind_some, e, lost_sl h]
  have hi : Inv U ((w.1, w.1, (if w.2.1 / 2 < 2 * w.1 then 2 * w.1 else w.2.1 / 2), 0, w.2.2.2.2) : W) :=
    ⟨h.m1, h.m2, Int.le_refl _, by show w.1 ≤ 64 * w.1; omega, by dsimp only; split <;> omega, by dsimp only; split <;> omega, Int.le_refl _, by show (0 : Int) < 1024; decide, h.u1, h.u2⟩
  have := ref_gone hi hU x
  dsimp only at this
  rw [this]
  unfold lostOf
  rw [lost_sl h]
  rfl
theorem ref_room (h : Inv U w) (hU : U ≤ 1000000) : f55_broughamref13_Room w.1 w.2.1 w.2.2.1 w.2.2.2.1 w.2.2.2.2 = some (if IntKind.wrap .i64 (w.2.1 - w.2.2.2.2) < 0 then 0 else IntKind.wrap .i64 (w.2.1 - w.2.2.2.2)) := by
  unfold f55_broughamref13_Room
  have := h.m1; have := h.m2; have := h.z1; have := h.z2; have := h.u1; have := h.u2
  rw [within_is, Option.bind_some, i64_id (by omega) (by omega), if_neg (show ¬ w.2.1 - w.2.2.2.2 > w.2.1 by omega)]

/-! acked -/
theorem ackLoop (l q : List P) (hq : q.length ≤ 64) (x mo : Int) (w : W) : ∀ (m i : Nat), i + m = q.length → ∀ (t : Int), Ev (fun n => f43_cwnd_Window_Acked_L7 n x l mo t q ((q.length : Nat) : Int) (i : Int) w.1 w.2.1 w.2.2.1 w.2.2.2.1 w.2.2.2.2) (fun r => r = (x, l, mo, foldT (q.drop i) t, w))
  | 0, i, hi, t => by
    apply Ev.succ
    simp only [f43_cwnd_Window_Acked_L7]
    rw [List.drop_eq_nil_of_le (by omega)]
    exact Ev.neg (by simp; omega) (Ev.some rfl)
  | m + 1, i, hi, t => by
    apply Ev.succ
    simp only [f43_cwnd_Window_Acked_L7]
    rw [drop_cons (show i < q.length by omega) (0, 0), Int.toNat_natCast]
    refine Ev.pos (by simp; omega) (Ev.guard (by omega) ?_)
    rw [show IntKind.wrap .i64 ((i : Int) + 1) = ((i + 1 : Nat) : Int) by rw [i64_id] <;> omega]
    exact ackLoop l q hq x mo w m (i + 1) (by omega) _
theorem tot_ge (l : List P) (z : Int) : z ≤ totOf l z := by unfold totOf; split <;> omega
theorem code_acked (h : Inv U w) (x : Int) (l : List P) : Ev (fun n => f43_cwnd_Window_Acked n x l w.1 w.2.1 w.2.2.1 w.2.2.2.1 w.2.2.2.2) (fun r => r = ackedOf x l w) := by
  unfold f43_cwnd_Window_Acked
  have hm := h.m1; have hz := h.z1
  refine Ev.bind (Ev.of (code_gone (w := w) (cn x)) rfl) ?_
  rintro _ rfl
  unfold ackedOf
  refine Ev.ite (fun a => ?_) (fun a => ?_)
  · have a2 : w.2.1 < w.2.2.1 := by simp only [decide_eq_true_eq] at a; exact a
    rw [if_pos a2]
    exact Ev.some rfl
  · have a2 : ¬ w.2.1 < w.2.2.1 := by simp only [decide_eq_true_eq] at a; exact a
    rw [if_neg a2]
    refine Ev.bind (Ev.of (first_is l) rfl) ?_
    rintro _ rfl
    refine Ev.bind (ackLoop l (l.take 64) (take_len l) (cn x) (IntKind.wrap .i64 (64 * w.1)) (goneOf (cn x) w) (l.take 64).length 0 (by omega) 0) ?_
    rintro _ rfl
    rw [List.drop_zero]
    refine Ev.bind (code_is l) ?_
    intro r hr
    rw [hr]
    refine Ev.guard ?_ (Ev.guard ?_ (Ev.some rfl))
    · have := tot_ge l w.2.1
      show totOf l w.2.1 ≠ 0
      omega
    · show w.2.1 ≠ 0
      omega
theorem cap_within {m a : Int} (hm : 1 ≤ m ∧ m ≤ 1024) (h1 : 0 ≤ a) (h2 : a < 9223372036854775808) : f71_broughamref13_within (IntKind.wrap .i64 a) 0 (IntKind.wrap .i64 (64 * m)) = some (capW m a) := by
  rw [within_is]
  unfold capW
  rw [i64_id (e := a) (by omega) (by omega), i64_id (e := 64 * m) (by omega) (by omega)]
  rw [if_neg (show ¬ a < 0 by omega)]
theorem pr {a b A B : Int} (h1 : 0 ≤ a ∧ a ≤ A) (h2 : 0 ≤ b ∧ b ≤ B) : 0 ≤ a * b ∧ a * b ≤ A * B :=
  ⟨Int.mul_nonneg h1.1 h2.1, Int.mul_le_mul h1.2 h2.2 h2.1 (by omega)⟩
theorem part_in {n A t m z : Int} (hn : 0 ≤ n ∧ n ≤ 1024) (hA : 1 ≤ A ∧ A ≤ 65536) (hm : 1 ≤ m ∧ m ≤ 1024) (hz : 1 ≤ z) (ht : 1 ≤ t) :
    (IntKind.wrap .i64 (Int.tdiv (IntKind.wrap .i64 ((IntKind.wrap .i64 (1024 * n)) * m)) z) = 1024 * n * m / z ∧ 0 ≤ 1024 * n * m / z ∧ 1024 * n * m / z ≤ 68719476736) ∧
    (IntKind.wrap .i64 (Int.tdiv (IntKind.wrap .i64 ((IntKind.wrap .i64 (A * n)) * m)) t) = A * n * m / t ∧ 0 ≤ A * n * m / t ∧ A * n * m / t ≤ 68719476736) := by
  have a1 := pr (A := 65536) (B := 1024) (show 0 ≤ A ∧ A ≤ 65536 by omega) hn
  have a2 := pr (A := 67108864) (B := 1024) (show 0 ≤ A * n ∧ A * n ≤ 67108864 by omega) (show 0 ≤ m ∧ m ≤ 1024 by omega)
  have b2 := pr (A := 1048576) (B := 1024) (show 0 ≤ 1024 * n ∧ 1024 * n ≤ 1048576 by omega) (show 0 ≤ m ∧ m ≤ 1024 by omega)
  constructor
  · rw [i64_id (e := 1024 * n) (by omega) (by omega), i64_id (e := 1024 * n * m) (by omega) (by omega), tdiv_e b2.1]
    have h3 : 0 ≤ 1024 * n * m / z := Int.ediv_nonneg b2.1 (by omega)
    have h4 : 1024 * n * m / z ≤ 1024 * n * m := Int.ediv_le_self _ b2.1
    rw [i64_id (by omega) (by omega)]; omega
  · rw [i64_id (e := A * n) (by omega) (by omega), i64_id (e := A * n * m) (by omega) (by omega), tdiv_e a2.1]
    have h3 : 0 ≤ A * n * m / t := Int.ediv_nonneg a2.1 (by omega)
    have h4 : A * n * m / t ≤ A * n * m := Int.ediv_le_self _ a2.1
    rw [i64_id (by omega) (by omega)]; omega
theorem grow_in {n A t m z : Int} (hn : 0 ≤ n ∧ n ≤ 1024) (hA : 1 ≤ A ∧ A ≤ 65536) (hm : 1 ≤ m ∧ m ≤ 1024) (hz : 1 ≤ z) (ht : 1 ≤ t) : 0 ≤ growOf n A t m z ∧ growOf n A t m z ≤ 68719476736 ∧ growOf n A t m z ≤ 1024 * n * m / z := by
  have h := part_in hn hA hm hz ht
  unfold growOf
  rw [h.1.1, h.2.1]
  split <;> omega
theorem grow_sum (h : Inv U w) (x : Int) (l : List P) :
    let g := growOf (cn x) (alphaOf l) (totOf l w.2.1) w.1 w.2.1
    0 ≤ g ∧ IntKind.wrap .i64 (w.2.2.2.1 + g) = w.2.2.2.1 + g ∧ IntKind.wrap .i64 (Int.tdiv (IntKind.wrap .i64 (w.2.2.2.1 + g)) 1024) = (w.2.2.2.1 + g) / 1024 ∧ w.2.2.2.1 + g ≤ 68719477760 := by
  have h1 := h.m1; have h2 := h.m2; have h3 := h.z1; have := h.p1; have := h.p2
  have ht := tot_ge l w.2.1
  have hg := grow_in (cn_in x) (alphaOf_in l) ⟨h1, h2⟩ (show 1 ≤ w.2.1 by omega) (show 1 ≤ totOf l w.2.1 by omega)
  dsimp only
  generalize growOf (cn x) (alphaOf l) (totOf l w.2.1) w.1 w.2.1 = g at hg ⊢
  have e : IntKind.wrap .i64 (w.2.2.2.1 + g) = w.2.2.2.1 + g := i64_id (by omega) (by omega)
  refine ⟨hg.1, e, ?_, by omega⟩
  rw [e, tdiv_e (by omega), i64_id (by omega) (by omega)]
theorem ref_acked (h : Inv U w) (hU : U ≤ 1000000) (x : Int) (l : List P) (hl : l.length ≤ 140737488351232) : Ev (fun n => f52_broughamref13_Acked n w.1 w.2.1 w.2.2.1 w.2.2.2.1 w.2.2.2.2 x l) (fun r => r = ackedOf x l w) := by
  unfold f52_broughamref13_Acked
  have hm := h.m1; have hm2 := h.m2; have hz := h.z1; have hz2 := h.z2; have hc := cn_in x
  have hgs := grow_sum h x l
  dsimp only at hgs
  refine Ev.bind (Ev.of (within0 x) rfl) ?_
  rintro _ rfl
  refine Ev.bind (Ev.of (ref_gone h hU (cn x)) rfl) ?_
  rintro _ rfl
  unfold ackedOf
  refine Ev.ite (fun a => ?_) (fun a => ?_)
  · have a2 : w.2.1 < w.2.2.1 := by simp only [decide_eq_true_eq] at a; exact a
    rw [if_pos a2]
    refine Ev.bind (Ev.of (cap_within (m := w.1) (a := w.2.1 + cn x) ⟨hm, hm2⟩ (by omega) (by omega)) rfl) ?_
    rintro _ rfl
    exact Ev.some rfl
  · have a2 : ¬ w.2.1 < w.2.2.1 := by simp only [decide_eq_true_eq] at a; exact a
    rw [if_neg a2]
    refine Ev.bind (paths_is l hl) ?_
    rintro _ rfl
    refine Ev.bind (total_is (l.take 64) (take_len l)) ?_
    rintro _ rfl
    have hcap : ∀ g, g = growOf (cn x) (alphaOf l) (totOf l w.2.1) w.1 w.2.1 → f71_broughamref13_within (IntKind.wrap .i64 (w.2.1 + IntKind.wrap .i64 (Int.tdiv (IntKind.wrap .i64 (w.2.2.2.1 + g)) 1024))) 0 (IntKind.wrap .i64 (64 * w.1)) = some (capW w.1 (w.2.1 + IntKind.wrap .i64 (Int.tdiv (IntKind.wrap .i64 (w.2.2.2.1 + growOf (cn x) (alphaOf l) (totOf l w.2.1) w.1 w.2.1)) 1024))) := by
      rintro _ rfl
      have := h.p1
      rw [hgs.2.2.1]
      exact cap_within ⟨hm, hm2⟩ (by omega) (by omega)
    refine Ev.ite (fun b => ?_) (fun b => ?_)
    · have b2 : foldT (l.take 64) 0 < w.2.1 := by simp only [decide_eq_true_eq] at b; exact b
      have ht : totOf l w.2.1 = w.2.1 := by unfold totOf; rw [if_pos b2]
      refine Ev.bind (ref_is l hl) ?_
      intro r hr
      rw [hr]
      refine Ev.guard (by show w.2.1 ≠ 0; omega) (Ev.guard (by show w.2.1 ≠ 0; omega) (Ev.ite (fun c => ?_) (fun c => ?_)))
      · simp only [decide_eq_true_eq] at c
        have hg : growOf (cn x) (alphaOf l) (totOf l w.2.1) w.1 w.2.1 = IntKind.wrap .i64 (Int.tdiv (IntKind.wrap .i64 ((IntKind.wrap .i64 (1024 * cn x)) * w.1)) w.2.1) := by
          unfold growOf; rw [ht]; exact if_pos c
        refine Ev.bind (Ev.of (hcap _ hg.symm) rfl) ?_
        rintro _ rfl
        rw [hg]
        exact Ev.some rfl
      · simp only [decide_eq_true_eq] at c
        have hg : growOf (cn x) (alphaOf l) (totOf l w.2.1) w.1 w.2.1 = IntKind.wrap .i64 (Int.tdiv (IntKind.wrap .i64 ((IntKind.wrap .i64 (alphaOf l * cn x)) * w.1)) w.2.1) := by
          unfold growOf; rw [ht]; exact if_neg c
        refine Ev.bind (Ev.of (hcap _ hg.symm) rfl) ?_
        rintro _ rfl
        rw [hg]
        exact Ev.some rfl
    · have b2 : ¬ foldT (l.take 64) 0 < w.2.1 := by simp only [decide_eq_true_eq] at b; exact b
      have ht : totOf l w.2.1 = foldT (l.take 64) 0 := by unfold totOf; rw [if_neg b2]
      refine Ev.bind (ref_is l hl) ?_
      intro r hr
      rw [hr]
      refine Ev.guard (by omega) (Ev.guard (by show w.2.1 ≠ 0; omega) (Ev.ite (fun c => ?_) (fun c => ?_)))
      · simp only [decide_eq_true_eq] at c
        have hg : growOf (cn x) (alphaOf l) (totOf l w.2.1) w.1 w.2.1 = IntKind.wrap .i64 (Int.tdiv (IntKind.wrap .i64 ((IntKind.wrap .i64 (1024 * cn x)) * w.1)) w.2.1) := by
          unfold growOf; rw [ht]; exact if_pos c
        refine Ev.bind (Ev.of (hcap _ hg.symm) rfl) ?_
        rintro _ rfl
        rw [hg]
        exact Ev.some rfl
      · simp only [decide_eq_true_eq] at c
        have hg : growOf (cn x) (alphaOf l) (totOf l w.2.1) w.1 w.2.1 = IntKind.wrap .i64 (Int.tdiv (IntKind.wrap .i64 ((IntKind.wrap .i64 (alphaOf l * cn x)) * w.1)) (foldT (l.take 64) 0)) := by
          unfold growOf; rw [ht]; exact if_neg c
        refine Ev.bind (Ev.of (hcap _ hg.symm) rfl) ?_
        rintro _ rfl
        rw [hg]
        exact Ev.some rfl
theorem cap_is {m a : Int} (hm : 1 ≤ m ∧ m ≤ 1024) (h1 : 0 ≤ a) (h2 : a < 9223372036854775808) : capW m a = if 64 * m < a then 64 * m else a := by
  unfold capW
  rw [i64_id (e := a) (by omega) (by omega), i64_id (e := 64 * m) (by omega) (by omega)]
theorem inv_acked (h : Inv U w) (hU : U ≤ 1000000) (x : Int) (l : List P) : Inv U (ackedOf x l w) := by
  have hm := h.m1; have hm2 := h.m2; have hz := h.z1; have hz2 := h.z2; have hc := cn_in x; have hp := h.p1
  have hg := goneU_in (cn x) h.u1 h.u2 hU; have hu := h.u2
  have hgs := grow_sum h x l
  dsimp only at hgs
  unfold ackedOf
  split
  · rw [cap_is ⟨hm, hm2⟩ (by omega) (by omega)]
    refine ⟨hm, hm2, ?_, ?_, h.s1, h.s2, h.p1, h.p2, hg.1, by show goneU _ _ ≤ U; omega⟩
    · dsimp only; split <;> omega
    · dsimp only; split <;> omega
  · rw [hgs.2.2.1, hgs.2.1, tmod_e (by omega), cap_is ⟨hm, hm2⟩ (by omega) (by omega)]
    refine ⟨hm, hm2, ?_, ?_, h.s1, h.s2, ?_, ?_, hg.1, by show goneU _ _ ≤ U; omega⟩
    · dsimp only; split <;> omega
    · dsimp only; split <;> omega
    · dsimp only; omega
    · dsimp only; omega
end

/-- What is asked behind each call. -/
theorem check {Q : Bool ⊕ Unit → Prop} {U : Int} {w : W} (h : Inv U w) (hU : U ≤ 1000000) (k : Nat → Int → Int → Int → Int → Int → Int → Int → Int → Int → Int → Option (Bool ⊕ Unit))
    (hk : Ev (fun n => k n w.1 w.2.1 w.2.2.1 w.2.2.2.1 w.2.2.2.2 w.1 w.2.1 w.2.2.1 w.2.2.2.1 w.2.2.2.2) Q) :
    Ev (fun n => (f44_cwnd_Window_Size w.1 w.2.1 w.2.2.1 w.2.2.2.1 w.2.2.2.2).bind fun a =>
      if ((a.1 : Int) != w.2.1) = true then some (.inl false) else
      (f53_cwnd_Window_Under a.2.1 a.2.2.1 a.2.2.2.1 a.2.2.2.2.1 a.2.2.2.2.2).bind fun b =>
      if ((b.1 : Int) != w.2.2.2.2) = true then some (.inl false) else
      (f54_cwnd_Window_Room b.2.1 b.2.2.1 b.2.2.2.1 b.2.2.2.2.1 b.2.2.2.2.2).bind fun c =>
      (f55_broughamref13_Room w.1 w.2.1 w.2.2.1 w.2.2.2.1 w.2.2.2.2).bind fun d =>
      if ((c.1 : Int) != d) = true then some (.inl false) else
      (f44_cwnd_Window_Size c.2.1 c.2.2.1 c.2.2.2.1 c.2.2.2.2.1 c.2.2.2.2.2).bind fun e =>
      if (decide ((e.1 : Int) < w.1)) = true then some (.inl false) else
      (f44_cwnd_Window_Size e.2.1 e.2.2.1 e.2.2.2.1 e.2.2.2.2.1 e.2.2.2.2.2).bind fun f =>
      if (decide ((f.1 : Int) > (IntKind.wrap .i64 (64 * w.1)))) = true then some (.inl false) else
      k n f.2.1 f.2.2.1 f.2.2.2.1 f.2.2.2.2.1 f.2.2.2.2.2 w.1 w.2.1 w.2.2.1 w.2.2.2.1 w.2.2.2.2) Q := by
  have := h.m1; have := h.m2; have := h.z1; have := h.z2
  refine Ev.bind (Ev.of (r := (w.2.1, w)) rfl rfl) ?_
  rintro _ rfl
  refine Ev.neg (by simp only [bne_self_eq_false]; decide) ?_
  refine Ev.bind (Ev.of (r := (w.2.2.2.2, w)) rfl rfl) ?_
  rintro _ rfl
  refine Ev.neg (by simp only [bne_self_eq_false]; decide) ?_
  refine Ev.bind (Ev.of (r := ((if IntKind.wrap .i64 (w.2.1 - w.2.2.2.2) < 0 then 0 else IntKind.wrap .i64 (w.2.1 - w.2.2.2.2)), w)) rfl rfl) ?_
  rintro _ rfl
  refine Ev.bind (Ev.of (ref_room h hU) rfl) ?_
  rintro _ rfl
  refine Ev.neg (by simp only [bne_self_eq_false]; decide) ?_
  refine Ev.bind (Ev.of (r := (w.2.1, w)) rfl rfl) ?_
  rintro _ rfl
  refine Ev.neg (by simp only [decide_eq_true_eq]; omega) ?_
  refine Ev.bind (Ev.of (r := (w.2.1, w)) rfl rfl) ?_
  rintro _ rfl
  refine Ev.neg (by simp only [decide_eq_true_eq]; rw [i64_id (e := 64 * w.1) (by omega) (by omega)]; omega) ?_
  exact hk

theorem Inv.mono {U V : Int} {w : W} (h : Inv U w) (hv : U ≤ V) : Inv V w := ⟨h.m1, h.m2, h.z1, h.z2, h.s1, h.s2, h.p1, h.p2, h.u1, by have := h.u2; omega⟩
set_option maxRecDepth 20000 in
theorem plays (l : List (Int × Int × List P)) (hl : l.length ≤ 200) : ∀ (m i : Nat), i + m = l.length → ∀ (w : W), Inv ((i : Int) * 1024) w →
    Ev (fun n => f9_broughamlaw13_CwndPlays_L8 n l (i : Int) w.1 w.2.1 w.2.2.1 w.2.2.2.1 w.2.2.2.2 w.1 w.2.1 w.2.2.1 w.2.2.2.1 w.2.2.2.2) (fun r => r = .inl true ∨ r = .inr ())
  | 0, i, hi, w, h => by
    apply Ev.succ
    simp only [f9_broughamlaw13_CwndPlays_L8]
    exact Ev.neg (by simp; omega) (Ev.some (.inr rfl))
  | m + 1, i, hi, w, h => by
    apply Ev.succ
    simp only [f9_broughamlaw13_CwndPlays_L8]
    have hg1 : (0 : Int) ≤ (i : Int) ∧ (i : Int) < ((l.length : Nat) : Int) := by omega
    have hU : (i : Int) * 1024 ≤ 1000000 := by omega
    have hU' : ((i + 1 : Nat) : Int) * 1024 ≤ 1000000 := by omega
    have hn : ((i + 1 : Nat) : Int) * 1024 = (i : Int) * 1024 + 1024 := by omega
    refine Ev.pos (by simp; omega) (Ev.guard hg1 (Ev.ite (fun _ => Ev.some (.inl rfl)) fun a => Ev.guard hg1 ?_))
    simp only [decide_eq_true_eq] at a
    rw [show IntKind.wrap .i64 ((i : Int) + 1) = ((i + 1 : Nat) : Int) by rw [i64_id] <;> omega]
    generalize l.getD ((i : Int)).toNat (0, 0, []) = o at a ⊢
    generalize Int.tmod (IntKind.wrap .i64 (Int.tmod o.1 7 + 7)) 7 = kd
    refine Ev.ite (fun c0 => Ev.pos c0 ?_) (fun _ => Ev.ite (fun _ => ?_) (fun _ => Ev.ite (fun _ => ?_) (fun _ => Ev.ite (fun _ => ?_) (fun _ => ?_))))
    · refine Ev.guard hg1 ?_
      refine Ev.bind (Ev.of (code_sent o.2.1) rfl) ?_
      rintro _ rfl
      refine Ev.guard hg1 ?_
      refine Ev.bind (Ev.of (ref_sent o.2.1) rfl) ?_
      rintro _ rfl
      have h' : Inv (((i + 1 : Nat) : Int) * 1024) (sentOf o.2.1 w) := by rw [hn]; exact inv_sent h hU _
      exact check h' hU' (fun n a b c d e a' b' c' d' e' => f9_broughamlaw13_CwndPlays_L8 n l ((i + 1 : Nat) : Int) a b c d e a' b' c' d' e') (plays l hl m (i + 1) (by omega) _ h')
    · refine Ev.guard hg1 ?_
      refine Ev.bind (Ev.of (code_sent o.2.1) rfl) ?_
      rintro _ rfl
      refine Ev.guard hg1 ?_
      refine Ev.bind (Ev.of (ref_sent o.2.1) rfl) ?_
      rintro _ rfl
      have h' : Inv (((i + 1 : Nat) : Int) * 1024) (sentOf o.2.1 w) := by rw [hn]; exact inv_sent h hU _
      exact check h' hU' (fun n a b c d e a' b' c' d' e' => f9_broughamlaw13_CwndPlays_L8 n l ((i + 1 : Nat) : Int) a b c d e a' b' c' d' e') (plays l hl m (i + 1) (by omega) _ h')
    · refine Ev.guard hg1 ?_
      refine Ev.bind (Ev.of (code_lost o.2.1) rfl) ?_
      rintro _ rfl
      refine Ev.guard hg1 ?_
      refine Ev.bind (Ev.of (ref_lost h hU o.2.1) rfl) ?_
      rintro _ rfl
      have h' : Inv (((i + 1 : Nat) : Int) * 1024) (lostOf o.2.1 w) := (inv_lost h hU _).mono (by omega)
      exact check h' hU' (fun n a b c d e a' b' c' d' e' => f9_broughamlaw13_CwndPlays_L8 n l ((i + 1 : Nat) : Int) a b c d e a' b' c' d' e') (plays l hl m (i + 1) (by omega) _ h')
    · refine Ev.guard hg1 ?_
      refine Ev.bind (Ev.of (code_forget o.2.1) rfl) ?_
      rintro _ rfl
      refine Ev.guard hg1 ?_
      refine Ev.bind (Ev.of (ref_gone h hU o.2.1) rfl) ?_
      rintro _ rfl
      have h' : Inv (((i + 1 : Nat) : Int) * 1024) (goneOf o.2.1 w) := (inv_gone h hU _).mono (by omega)
      exact check h' hU' (fun n a b c d e a' b' c' d' e' => f9_broughamlaw13_CwndPlays_L8 n l ((i + 1 : Nat) : Int) a b c d e a' b' c' d' e') (plays l hl m (i + 1) (by omega) _ h')
    · refine Ev.guard hg1 (Ev.guard hg1 ?_)
      refine Ev.bind (code_acked h o.2.1 o.2.2) ?_
      rintro _ rfl
      refine Ev.guard hg1 (Ev.guard hg1 ?_)
      refine Ev.bind (plain_is o.2.2 (by omega)) ?_
      intro r hr
      rw [hr]
      refine Ev.bind (ref_acked h hU o.2.1 o.2.2 (by omega)) ?_
      rintro _ rfl
      have h' : Inv (((i + 1 : Nat) : Int) * 1024) (ackedOf o.2.1 o.2.2 w) := (inv_acked h hU _ _).mono (by omega)
      exact check h' hU' (fun n a b c d e a' b' c' d' e' => f9_broughamlaw13_CwndPlays_L8 n l ((i + 1 : Nat) : Int) a b c d e a' b' c' d' e') (plays l hl m (i + 1) (by omega) _ h')

def newOf (x : Int) : W := (cz x 1024, IntKind.wrap .i64 (4 * cz x 1024), IntKind.wrap .i64 (64 * cz x 1024), 0, 0)
theorem new_is (x : Int) : newOf x = (cz x 1024, 4 * cz x 1024, 64 * cz x 1024, 0, 0) := by
  have := cz_in (x := x) (hi := 1024) (by omega)
  unfold newOf
  rw [i64_id (e := 4 * cz x 1024) (by omega) (by omega), i64_id (e := 64 * cz x 1024) (by omega) (by omega)]
theorem inv_new (x : Int) : Inv 0 (newOf x) := by
  have := cz_in (x := x) (hi := 1024) (by omega)
  rw [new_is]
  exact ⟨this.1, this.2, by dsimp only; omega, by dsimp only; omega, by dsimp only; omega, by dsimp only; omega, Int.le_refl _, by dsimp only; decide, Int.le_refl _, Int.le_refl _⟩

theorem CwndPlays (mss : Int) (h0 : K.ok (.int .i64) mss) (l : List (Int × Int × List P)) (h1 : K.ok (.slice (.pair (.int .i64) (.pair (.int .i64) (.slice (.pair (.int .i64) (.int .i64)))))) l) : ∃ n, f9_broughamlaw13_CwndPlays n mss l = some true := by
  apply Ev.true
  unfold f9_broughamlaw13_CwndPlays
  refine Ev.ite (fun _ => Ev.some rfl) fun a => ?_
  simp only [decide_eq_true_eq] at a
  refine Ev.bind (Ev.of (r := newOf mss) rfl rfl) ?_
  rintro _ rfl
  refine Ev.bind (Ev.of (r := newOf mss) (by unfold f46_broughamref13_New; rw [within1 (by omega)]; rfl) rfl) ?_
  rintro _ rfl
  refine Ev.bind (plays l (by omega) l.length 0 (by omega) (newOf mss) (inv_new mss)) ?_
  rintro _ (rfl | rfl)
  · exact Ev.some rfl
  · exact Ev.bind alive_ev (fun r hr => Ev.some hr)
end Go.Proofs.YtjimlfjhhmdcdaaF13
