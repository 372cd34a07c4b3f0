-- PRINTED BY print.sh 35421559b90ae4d0a3588c463048766b98c2df88dd9212a6774a882060cdf62d: not written by this session
import Derived.Test.YtjmebloeodcoaaaPSerialWidex0
namespace Go.Proofs.Ytjmebloeodcoaaa.PSerialWide
open Go.RowKit Go.Proofs.YtjmebloeodcoaaaW.PrintWords Go.Proofs.YtjmebloeodcoaaaW.PrintLast Go.Proofs.YtjmebloeodcoaaaW.PrintMore
attribute [local go_sem] max2_int min2_int max_two min_two max_three min_three max_four min_four   -- for this text's walks alone
set_option linter.unusedVariables false
set_option linter.unusedSimpArgs false

/-! ### serial_Diff: function 35 -/
def serial_Diff.f (a0 : Int) (a1 : Int) : Option (Int) := some (wrap64 (wrap32 ((a0 - a1) % 4294967296)))
set_option maxHeartbeats 8000000 in
set_option maxRecDepth 100000 in
theorem serial_Diff.calls (a0 : Int) (a1 : Int) (r : Int) (w : World) (h : serial_Diff.f a0 a1 = some r) :
    Calls Try.prog 35 #[.int .u32 a0, .int .u32 a1] w fun e w' => e = .returned (.int .i64 r) ∧ Drawn0 w w' := by
  have H : (some (wrap64 (wrap32 ((a0 - a1) % 4294967296)))) = some r := h
  clear h
  obtain rfl := Option.some.inj H
  go_enter Try.func35, Try.ntmps35
  go_wp2
  go_ret
  exact ⟨by first | rfl | (simp; done) | (simp [*]; done), by repeat (first | exact Drawn0.refl _ | apply Drawn0.step)⟩

/-! ### serial_Wide: function 29 -/
mutual
def serial_Wide.j0 : Nat → Int → Int → Bool → Option (Int)
  | 0, _, _, _ => none
  | k + 1, x0, x5, x18 => if x18 = true then (some (IntKind.u64.wrap (x0 + (IntKind.u64.wrap (4294967296 - (IntKind.u64.wrap (wrap64 (-x5)))))))) else (if x5 = (-2147483648) then (serial_Wide.j1 k x0 x5 (decide ((IntKind.u64.wrap (x0 + 2147483648)) > x0))) else (serial_Wide.j1 k x0 x5 false))
def serial_Wide.j1 : Nat → Int → Int → Bool → Option (Int)
  | 0, _, _, _ => none
  | k + 1, x0, x5, x32 => if x32 = true then (some (IntKind.u64.wrap (x0 + 2147483648))) else (if x5 > 0 then (if (IntKind.u64.wrap (x0 + (IntKind.u64.wrap (x5)))) < x0 then (some (IntKind.u64.wrap (x0 - (IntKind.u64.wrap (4294967296 - (IntKind.u64.wrap (x5))))))) else (some (IntKind.u64.wrap (x0 + (IntKind.u64.wrap (x5)))))) else (some (IntKind.u64.wrap (x0 + (IntKind.u64.wrap (x5))))))
end
def serial_Wide.f (k : Nat) (a0 : Int) (a1 : Int) : Option (Int) := (serial_Diff.f a1 ((a0) % 4294967296)).bind fun t101 => (if t101 < 0 then (serial_Wide.j0 k a0 t101 (decide ((IntKind.u64.wrap (wrap64 (-t101))) > a0))) else (serial_Wide.j0 k a0 t101 false))
theorem serial_Wide.mono_l : ∀ k, (∀ y0 y1 y2, LeO (serial_Wide.j0 k y0 y1 y2) (serial_Wide.j0 (k + 1) y0 y1 y2)) ∧ (∀ y0 y1 y2, LeO (serial_Wide.j1 k y0 y1 y2) (serial_Wide.j1 (k + 1) y0 y1 y2))
  | 0 => ⟨fun _ _ _ r h => by simp [serial_Wide.j0] at h, fun _ _ _ r h => by simp [serial_Wide.j1] at h⟩
  | k + 1 => by
    obtain ⟨ih0, ih1⟩ := serial_Wide.mono_l k
    refine ⟨?_, ?_⟩
    · intro y0 y1 y2
      unfold serial_Wide.j0
      repeat' first
      | (with_reducible exact ih0 _ _ _)
      | (with_reducible exact ih1 _ _ _)
      | (with_reducible exact LeO.refl _)
      | (with_reducible exact LeO.none _)
      | (with_reducible refine LeO.ite ?_ ?_)
      | (with_reducible refine LeO.bind ?_ (fun _ => ?_))
      | exact ih0 _ _ _
      | exact ih1 _ _ _
      | exact LeO.none _
      | refine LeO.ite ?_ ?_
      | refine LeO.bind ?_ (fun _ => ?_)
    · intro y0 y1 y2
      unfold serial_Wide.j1
      repeat' first
      | (with_reducible exact ih0 _ _ _)
      | (with_reducible exact ih1 _ _ _)
      | (with_reducible exact LeO.refl _)
      | (with_reducible exact LeO.none _)
      | (with_reducible refine LeO.ite ?_ ?_)
      | (with_reducible refine LeO.bind ?_ (fun _ => ?_))
      | exact ih0 _ _ _
      | exact ih1 _ _ _
      | exact LeO.none _
      | refine LeO.ite ?_ ?_
      | refine LeO.bind ?_ (fun _ => ?_)
theorem serial_Wide.mono : ∀ a0 a1 k, LeO (serial_Wide.f k a0 a1) (serial_Wide.f (k + 1) a0 a1) := by
  intro a0 a1 k
  obtain ⟨ih0, ih1⟩ := serial_Wide.mono_l k
  unfold serial_Wide.f
  repeat' first
      | (with_reducible exact ih0 _ _ _)
      | (with_reducible exact ih1 _ _ _)
      | (with_reducible exact LeO.refl _)
      | (with_reducible exact LeO.none _)
      | (with_reducible refine LeO.ite ?_ ?_)
      | (with_reducible refine LeO.bind ?_ (fun _ => ?_))
      | exact ih0 _ _ _
      | exact ih1 _ _ _
      | exact LeO.none _
      | refine LeO.ite ?_ ?_
      | refine LeO.bind ?_ (fun _ => ?_)
set_option maxHeartbeats 8000000 in
set_option maxRecDepth 100000 in
theorem serial_Wide.calls (k : Nat) (a0 : Int) (a1 : Int) (r : Int) (w : World) (h : serial_Wide.f k a0 a1 = some r) :
    Calls Try.prog 29 #[.int .u64 a0, .int .u32 a1] w fun e w' => e = .returned (.int .u64 r) ∧ Drawn0 w w' := by
  have H : ((serial_Diff.f a1 ((a0) % 4294967296)).bind fun t101 => (if t101 < 0 then (serial_Wide.j0 k a0 t101 (decide ((IntKind.u64.wrap (wrap64 (-t101))) > a0))) else (serial_Wide.j0 k a0 t101 false))) = some r := h
  clear h
  replace H := Option.bind_eq_some_iff.mp H
  obtain ⟨t101, A30, H⟩ := H
  replace H : (if t101 < 0 then (serial_Wide.j0 k a0 t101 (decide ((IntKind.u64.wrap (wrap64 (-t101))) > a0))) else (serial_Wide.j0 k a0 t101 false)) = some r := H
  have A3 := Aside0.mk A30
  clear A30
  have HC4 := Aside0.mk H
  clear H
  go_enter Try.func29, Try.ntmps29
  go_upto_region 2 with (first | ((with_reducible refine gate_callee (f := 35) rfl ?_); refine goesL_ (some 9) rfl rfl Try.func35 (by kernel_rfl) rfl #[.int .u32 a1, .int .u32 ((a0) % 4294967296)] rfl (by (try simp only [List.map_toArray, List.map_cons, List.map_nil]); first | done | rfl | (simp only [List.length_drop, List.length_take]; rfl)) ?_; (with_reducible refine (serial_Diff.calls a1 ((a0) % 4294967296) t101 _ A3.out).mono ?_); rintro e w' ⟨rfl, ⟨nd, rfl⟩⟩; refine ⟨_, rfl, ?_⟩))
  (try simp only [Act.put, List.setIfInBounds_toArray, List.set_cons_zero, List.set_cons_succ])
  go_cut [18] (fun v18 wc => ∃ (kq : Nat) (x18_3 : Bool), v18 = .bool x18_3 ∧ Aside0 (serial_Wide.j0 kq a0 t101 x18_3 = some r) ∧ Aside0 (kq ≤ k) ∧ Drawn0 w wc)
  case first =>
    have H := HC4.out
    clear HC4
    by_cases c5 : t101 < 0
    · rw [if_pos c5] at H
      have c5b0 : decide (t101 < 0) = true := decide_eq_true c5
      clear c5
      (first | rw [c5b0] | (simp only [i64_w, i32_w]; rw [c5b0]) | skip)
      have H' := Aside0.mk H
      clear H
      go_wp2
      go_meet
      case rel => exact ⟨_, (decide ((IntKind.u64.wrap (wrap64 (-t101))) > a0)), (by first | rfl | (simp; done) | (simp [*]; done)), H', ⟨by first | omega | exact Nat.le_refl _⟩, by repeat (first | exact Drawn0.refl _ | apply Drawn0.step)⟩
    · rw [if_neg c5] at H
      have c5b0 : decide (t101 < 0) = false := decide_eq_false c5
      clear c5
      (first | rw [c5b0] | (simp only [i64_w, i32_w]; rw [c5b0]) | skip)
      have H' := Aside0.mk H
      clear H
      go_wp2
      go_meet
      case rel => exact ⟨_, (false), (by first | rfl | (simp; done) | (simp [*]; done)), H', ⟨by first | omega | exact Nat.le_refl _⟩, by repeat (first | exact Drawn0.refl _ | apply Drawn0.step)⟩
  case rest =>
    clear HC4
    try clear c2
    try clear p2
    try clear c3
    try clear c5
    try clear c5b0
    obtain ⟨kq, x18_3, rfl, HA, HJ3, ⟨mc3, rfl⟩⟩ := hcut
    cases kq with
    | zero => exact absurd HA.out (by simp [serial_Wide.j0])
    | succ kj3 =>
      have H := HA.out
      clear HA
      simp only [serial_Wide.j0] at H
      by_cases c6 : x18_3 = true
      · subst c6
        have H1 : (some (IntKind.u64.wrap (a0 + (IntKind.u64.wrap (4294967296 - (IntKind.u64.wrap (wrap64 (-t101)))))))) = some r := by rw [if_pos rfl] at H; exact H
        clear H
        have H := H1
        clear H1
        obtain rfl := Option.some.inj H
        go_wp2
        go_ret
        exact ⟨by first | rfl | (simp; done) | (simp [*]; done), by repeat (first | exact Drawn0.refl _ | apply Drawn0.step)⟩
      · replace c6 := Bool.eq_false_iff.mpr c6
        subst c6
        have H1 : (if t101 = (-2147483648) then (serial_Wide.j1 kj3 a0 t101 (decide ((IntKind.u64.wrap (a0 + 2147483648)) > a0))) else (serial_Wide.j1 kj3 a0 t101 false)) = some r := by rw [if_neg (show ¬ (false = true) by decide)] at H; exact H
        clear H
        have H := H1
        clear H1
        have HC7 := Aside0.mk H
        clear H
        go_upto_region 4 with (fail)
        go_cut [32] (fun v32 wc => ∃ (kq : Nat) (x32_6 : Bool), v32 = .bool x32_6 ∧ Aside0 (serial_Wide.j1 kq a0 t101 x32_6 = some r) ∧ Aside0 (kq ≤ kj3) ∧ Drawn0 w wc)
        case first =>
          have H := HC7.out
          clear HC7
          by_cases c8 : t101 = (-2147483648)
          · rw [if_pos c8] at H
            have c8b0 : (t101 == (-2147483648)) = true := beq_iff_eq.mpr c8
            have c8b1 : (t101 != (-2147483648)) = false := bne_eq_false_iff_eq.mpr c8
            clear c8
            (first | rw [c8b0] | (simp only [i64_w, i32_w]; rw [c8b0]) | skip)
            have H' := Aside0.mk H
            clear H
            go_wp2
            go_meet
            case rel => exact ⟨_, (decide ((IntKind.u64.wrap (a0 + 2147483648)) > a0)), (by first | rfl | (simp; done) | (simp [*]; done)), H', ⟨by have := HJ3.out; first | omega | exact Nat.le_refl _⟩, by repeat (first | exact Drawn0.refl _ | apply Drawn0.step)⟩
          · rw [if_neg c8] at H
            have c8b0 : (t101 == (-2147483648)) = false := beq_eq_false_iff_ne.mpr c8
            have c8b1 : (t101 != (-2147483648)) = true := bne_iff_ne.mpr c8
            (first | rw [c8b0] | (simp only [i64_w, i32_w]; rw [c8b0]) | skip)
            have H' := Aside0.mk H
            clear H
            go_wp2
            go_meet
            case rel => exact ⟨_, (false), (by first | rfl | (simp; done) | (simp [*]; done)), H', ⟨by have := HJ3.out; first | omega | exact Nat.le_refl _⟩, by repeat (first | exact Drawn0.refl _ | apply Drawn0.step)⟩
        case rest =>
          clear HC7
          try clear c2
          try clear p2
          try clear c3
          try clear c5
          try clear c5b0
          try clear c6
          try clear p6
          try clear c8
          try clear c8b0
          try clear c8b1
          try clear p2
          obtain ⟨kq, x32_6, rfl, HA, HJ6, ⟨mc6, rfl⟩⟩ := hcut
          cases kq with
          | zero => exact absurd HA.out (by simp [serial_Wide.j1])
          | succ kj6 =>
            have H := HA.out
            clear HA
            simp only [serial_Wide.j1] at H
            by_cases c9 : x32_6 = true
            · subst c9
              have H1 : (some (IntKind.u64.wrap (a0 + 2147483648))) = some r := by rw [if_pos rfl] at H; exact H
              clear H
              have H := H1
              clear H1
              obtain rfl := Option.some.inj H
              go_wp2
              go_ret
              exact ⟨by first | rfl | (simp; done) | (simp [*]; done), by repeat (first | exact Drawn0.refl _ | apply Drawn0.step)⟩
            · replace c9 := Bool.eq_false_iff.mpr c9
              subst c9
              have H1 : (if t101 > 0 then (if (IntKind.u64.wrap (a0 + (IntKind.u64.wrap (t101)))) < a0 then (some (IntKind.u64.wrap (a0 - (IntKind.u64.wrap (4294967296 - (IntKind.u64.wrap (t101))))))) else (some (IntKind.u64.wrap (a0 + (IntKind.u64.wrap (t101)))))) else (some (IntKind.u64.wrap (a0 + (IntKind.u64.wrap (t101)))))) = some r := by rw [if_neg (show ¬ (false = true) by decide)] at H; exact H
              clear H
              have H := H1
              clear H1
              by_cases c10 : t101 > 0
              · rw [if_pos c10] at H
                have c10b0 : decide (0 < t101) = true := decide_eq_true c10
                clear c10
                by_cases c11 : (IntKind.u64.wrap (a0 + (IntKind.u64.wrap (t101)))) < a0
                · rw [if_pos c11] at H
                  have c11b0 : decide ((IntKind.u64.wrap (a0 + (IntKind.u64.wrap (t101)))) < a0) = true := decide_eq_true c11
                  clear c11
                  obtain rfl := Option.some.inj H
                  go_wp2
                  go_ret
                  exact ⟨by first | rfl | (simp; done) | (simp [*]; done), by repeat (first | exact Drawn0.refl _ | apply Drawn0.step)⟩
                · rw [if_neg c11] at H
                  have c11b0 : decide ((IntKind.u64.wrap (a0 + (IntKind.u64.wrap (t101)))) < a0) = false := decide_eq_false c11
                  clear c11
                  obtain rfl := Option.some.inj H
                  go_wp2
                  go_ret
                  exact ⟨by first | rfl | (simp; done) | (simp [*]; done), by repeat (first | exact Drawn0.refl _ | apply Drawn0.step)⟩
              · rw [if_neg c10] at H
                have c10b0 : decide (0 < t101) = false := decide_eq_false c10
                clear c10
                obtain rfl := Option.some.inj H
                go_wp2
                go_ret
                exact ⟨by first | rfl | (simp; done) | (simp [*]; done), by repeat (first | exact Drawn0.refl _ | apply Drawn0.step)⟩

/-! ### broughamref04_far: function 60 -/
def broughamref04_far.f (a0 : Int) (a1 : Int) : Option (Int) := if a0 > a1 then (some (IntKind.u64.wrap (a0 - a1))) else (some (IntKind.u64.wrap (a1 - a0)))
set_option maxHeartbeats 8000000 in
set_option maxRecDepth 100000 in
theorem broughamref04_far.calls (a0 : Int) (a1 : Int) (r : Int) (w : World) (h : broughamref04_far.f a0 a1 = some r) :
    Calls Try.prog 60 #[.int .u64 a0, .int .u64 a1] w fun e w' => e = .returned (.int .u64 r) ∧ Drawn0 w w' := by
  have H : (if a0 > a1 then (some (IntKind.u64.wrap (a0 - a1))) else (some (IntKind.u64.wrap (a1 - a0)))) = some r := h
  clear h
  by_cases c3 : a0 > a1
  · rw [if_pos c3] at H
    have c3b0 : decide (a1 < a0) = true := decide_eq_true c3
    clear c3
    obtain rfl := Option.some.inj H
    go_enter Try.func60, Try.ntmps60
    go_wp2
    go_ret
    exact ⟨by first | rfl | (simp; done) | (simp [*]; done), by repeat (first | exact Drawn0.refl _ | apply Drawn0.step)⟩
  · rw [if_neg c3] at H
    have c3b0 : decide (a1 < a0) = false := decide_eq_false c3
    clear c3
    obtain rfl := Option.some.inj H
    go_enter Try.func60, Try.ntmps60
    go_wp2
    go_ret
    exact ⟨by first | rfl | (simp; done) | (simp [*]; done), by repeat (first | exact Drawn0.refl _ | apply Drawn0.step)⟩

/-! ### broughamref04_Wide: function 30 -/
mutual
def broughamref04_Wide.l0 : Nat → Int → Int → Int → Int → Int → Option (Int)
  | 0, _, _, _, _, _ => none
  | k + 1, x0, x1, x5, x6, x7 => if x7 < 2 then (if x7 = 1 then (broughamref04_Wide.j1 k x0 x1 x5 x6 x7 (IntKind.u64.wrap (x5 - 1))) else (broughamref04_Wide.j1 k x0 x1 x5 x6 x7 (IntKind.u64.wrap (x5 + 1)))) else (some x6)
def broughamref04_Wide.j1 : Nat → Int → Int → Int → Int → Int → Int → Option (Int)
  | 0, _, _, _, _, _, _ => none
  | k + 1, x0, x1, x5, x6, x7, x8 => if x7 = 0 then (if x5 = 4294967295 then (broughamref04_Wide.j2 k x0 x1 x5 x6 x7 x8 true) else (if x7 = 1 then (broughamref04_Wide.j2 k x0 x1 x5 x6 x7 x8 (x5 == 0)) else (broughamref04_Wide.j2 k x0 x1 x5 x6 x7 x8 false))) else (if x7 = 1 then (broughamref04_Wide.j2 k x0 x1 x5 x6 x7 x8 (x5 == 0)) else (broughamref04_Wide.j2 k x0 x1 x5 x6 x7 x8 false))
def broughamref04_Wide.j2 : Nat → Int → Int → Int → Int → Int → Int → Bool → Option (Int)
  | 0, _, _, _, _, _, _, _ => none
  | k + 1, x0, x1, x5, x6, x7, x8, x40 => if x40 = true then (broughamref04_Wide.l0 k x0 x1 x5 x6 (wrap64 (x7 + 1))) else ((broughamref04_far.f (IntKind.u64.wrap ((IntKind.u64.wrap (x8 * 4294967296)) + (IntKind.u64.wrap (x1)))) x0).bind fun t102 => ((broughamref04_far.f x6 x0).bind fun t103 => (if t102 < t103 then (broughamref04_Wide.l0 k x0 x1 x5 (IntKind.u64.wrap ((IntKind.u64.wrap (x8 * 4294967296)) + (IntKind.u64.wrap (x1)))) (wrap64 (x7 + 1))) else ((broughamref04_far.f (IntKind.u64.wrap ((IntKind.u64.wrap (x8 * 4294967296)) + (IntKind.u64.wrap (x1)))) x0).bind fun t104 => ((broughamref04_far.f x6 x0).bind fun t105 => (if t104 = t105 then (if (IntKind.u64.wrap ((IntKind.u64.wrap (x8 * 4294967296)) + (IntKind.u64.wrap (x1)))) > x6 then (broughamref04_Wide.l0 k x0 x1 x5 (IntKind.u64.wrap ((IntKind.u64.wrap (x8 * 4294967296)) + (IntKind.u64.wrap (x1)))) (wrap64 (x7 + 1))) else (broughamref04_Wide.l0 k x0 x1 x5 x6 (wrap64 (x7 + 1)))) else (broughamref04_Wide.l0 k x0 x1 x5 x6 (wrap64 (x7 + 1)))))))))
end
def broughamref04_Wide.f (k : Nat) (a0 : Int) (a1 : Int) : Option (Int) := broughamref04_Wide.l0 k a0 a1 (IntKind.u64.wrap (Int.tdiv a0 4294967296)) (IntKind.u64.wrap ((IntKind.u64.wrap ((IntKind.u64.wrap (Int.tdiv a0 4294967296)) * 4294967296)) + (IntKind.u64.wrap (a1)))) 0
theorem broughamref04_Wide.mono_l : ∀ k, (∀ y0 y1 y2 y3 y4, LeO (broughamref04_Wide.l0 k y0 y1 y2 y3 y4) (broughamref04_Wide.l0 (k + 1) y0 y1 y2 y3 y4)) ∧ (∀ y0 y1 y2 y3 y4 y5, LeO (broughamref04_Wide.j1 k y0 y1 y2 y3 y4 y5) (broughamref04_Wide.j1 (k + 1) y0 y1 y2 y3 y4 y5)) ∧ (∀ y0 y1 y2 y3 y4 y5 y6, LeO (broughamref04_Wide.j2 k y0 y1 y2 y3 y4 y5 y6) (broughamref04_Wide.j2 (k + 1) y0 y1 y2 y3 y4 y5 y6))
  | 0 => ⟨fun _ _ _ _ _ r h => by simp [broughamref04_Wide.l0] at h, fun _ _ _ _ _ _ r h => by simp [broughamref04_Wide.j1] at h, fun _ _ _ _ _ _ _ r h => by simp [broughamref04_Wide.j2] at h⟩
  | k + 1 => by
    obtain ⟨ih0, ih1, ih2⟩ := broughamref04_Wide.mono_l k
    refine ⟨?_, ?_, ?_⟩
    · intro y0 y1 y2 y3 y4
      unfold broughamref04_Wide.l0
      repeat' first
      | (with_reducible exact ih0 _ _ _ _ _)
      | (with_reducible exact ih1 _ _ _ _ _ _)
      | (with_reducible exact ih2 _ _ _ _ _ _ _)
      | (with_reducible exact LeO.refl _)
      | (with_reducible exact LeO.none _)
      | (with_reducible refine LeO.ite ?_ ?_)
      | (with_reducible refine LeO.bind ?_ (fun _ => ?_))
      | exact ih0 _ _ _ _ _
      | exact ih1 _ _ _ _ _ _
      | exact ih2 _ _ _ _ _ _ _
      | exact LeO.none _
      | refine LeO.ite ?_ ?_
      | refine LeO.bind ?_ (fun _ => ?_)
    · intro y0 y1 y2 y3 y4 y5
      unfold broughamref04_Wide.j1
      repeat' first
      | (with_reducible exact ih0 _ _ _ _ _)
      | (with_reducible exact ih1 _ _ _ _ _ _)
      | (with_reducible exact ih2 _ _ _ _ _ _ _)
      | (with_reducible exact LeO.refl _)
      | (with_reducible exact LeO.none _)
      | (with_reducible refine LeO.ite ?_ ?_)
      | (with_reducible refine LeO.bind ?_ (fun _ => ?_))
      | exact ih0 _ _ _ _ _
      | exact ih1 _ _ _ _ _ _
      | exact ih2 _ _ _ _ _ _ _
      | exact LeO.none _
      | refine LeO.ite ?_ ?_
      | refine LeO.bind ?_ (fun _ => ?_)
    · intro y0 y1 y2 y3 y4 y5 y6
      unfold broughamref04_Wide.j2
      repeat' first
      | (with_reducible exact ih0 _ _ _ _ _)
      | (with_reducible exact ih1 _ _ _ _ _ _)
      | (with_reducible exact ih2 _ _ _ _ _ _ _)
      | (with_reducible exact LeO.refl _)
      | (with_reducible exact LeO.none _)
      | (with_reducible refine LeO.ite ?_ ?_)
      | (with_reducible refine LeO.bind ?_ (fun _ => ?_))
      | exact ih0 _ _ _ _ _
      | exact ih1 _ _ _ _ _ _
      | exact ih2 _ _ _ _ _ _ _
      | exact LeO.none _
      | refine LeO.ite ?_ ?_
      | refine LeO.bind ?_ (fun _ => ?_)
theorem broughamref04_Wide.mono : ∀ a0 a1 k, LeO (broughamref04_Wide.f k a0 a1) (broughamref04_Wide.f (k + 1) a0 a1) := by
  intro a0 a1 k
  obtain ⟨ih0, ih1, ih2⟩ := broughamref04_Wide.mono_l k
  unfold broughamref04_Wide.f
  repeat' first
      | (with_reducible exact ih0 _ _ _ _ _)
      | (with_reducible exact ih1 _ _ _ _ _ _)
      | (with_reducible exact ih2 _ _ _ _ _ _ _)
      | (with_reducible exact LeO.refl _)
      | (with_reducible exact LeO.none _)
      | (with_reducible refine LeO.ite ?_ ?_)
      | (with_reducible refine LeO.bind ?_ (fun _ => ?_))
      | exact ih0 _ _ _ _ _
      | exact ih1 _ _ _ _ _ _
      | exact ih2 _ _ _ _ _ _ _
      | exact LeO.none _
      | refine LeO.ite ?_ ?_
      | refine LeO.bind ?_ (fun _ => ?_)
set_option maxHeartbeats 8000000 in
set_option maxRecDepth 100000 in
theorem broughamref04_Wide.calls (k : Nat) (a0 : Int) (a1 : Int) (r : Int) (w : World) (h : broughamref04_Wide.f k a0 a1 = some r) :
    Calls Try.prog 30 #[.int .u64 a0, .int .u32 a1] w fun e w' => e = .returned (.int .u64 r) ∧ Drawn0 w w' := by
  have H : (broughamref04_Wide.l0 k a0 a1 (IntKind.u64.wrap (Int.tdiv a0 4294967296)) (IntKind.u64.wrap ((IntKind.u64.wrap ((IntKind.u64.wrap (Int.tdiv a0 4294967296)) * 4294967296)) + (IntKind.u64.wrap (a1)))) 0) = some r := h
  clear h
  have H' := Aside0.mk H
  clear H
  go_enter Try.func30, Try.ntmps30
  go_wp2
  go_loopg [6, 7] k (fun kq v6 v7 w' => ∃ (x6_1 : Int) (x7_1 : Int), v6 = .int .u64 x6_1 ∧ v7 = .int .i64 x7_1 ∧ Aside0 (broughamref04_Wide.l0 kq a0 a1 (IntKind.u64.wrap (Int.tdiv a0 4294967296)) x6_1 x7_1 = some r) ∧ Aside0 (kq ≤ k) ∧ Drawn0 w w')
  case atStart => exact ⟨(IntKind.u64.wrap ((IntKind.u64.wrap ((IntKind.u64.wrap (Int.tdiv a0 4294967296)) * 4294967296)) + (IntKind.u64.wrap (a1)))), (0), (by first | rfl | (simp; done) | (simp [*]; done)), (by first | rfl | (simp; done) | (simp [*]; done)), H', ⟨Nat.le_refl _⟩, by repeat (first | exact Drawn0.refl _ | apply Drawn0.step)⟩
  case round =>
    clear H'
    try clear p2
    obtain ⟨x6_1, x7_1, rfl, rfl, HA, HK1, ⟨m1, rfl⟩⟩ := hrel
    cases gk with
    | zero => exact absurd HA.out (by simp [broughamref04_Wide.l0])
    | succ k1 =>
      have H := HA.out
      clear HA
      simp only [broughamref04_Wide.l0] at H
      by_cases c3 : x7_1 < 2
      · rw [if_pos c3] at H
        have c3b0 : decide (x7_1 < 2) = true := decide_eq_true c3
        clear c3
        have HC4 := Aside0.mk H
        clear H
        go_upto_if 24 with (fail)
        go_cut [8] (fun v8 wc => ∃ (kq : Nat) (x8_3 : Int), v8 = .int .u64 x8_3 ∧ Aside0 (broughamref04_Wide.j1 kq a0 a1 (IntKind.u64.wrap (Int.tdiv a0 4294967296)) x6_1 x7_1 x8_3 = some r) ∧ Aside0 (kq ≤ k1) ∧ Drawn0 w wc)
        case first =>
          have H := HC4.out
          clear HC4
          by_cases c5 : x7_1 = 1
          · rw [if_pos c5] at H
            have c5b0 : (x7_1 == 1) = true := beq_iff_eq.mpr c5
            have c5b1 : (x7_1 != 1) = false := bne_eq_false_iff_eq.mpr c5
            clear c5
            (first | rw [c5b0] | (simp only [i64_w, i32_w]; rw [c5b0]) | skip)
            have H' := Aside0.mk H
            clear H
            go_wp2
            go_meet
            case rel => exact ⟨_, (IntKind.u64.wrap ((IntKind.u64.wrap (Int.tdiv a0 4294967296)) - 1)), (by first | rfl | (simp; done) | (simp [*]; done)), H', ⟨by have := HK1.out; first | omega | exact Nat.le_refl _⟩, by repeat (first | exact Drawn0.refl _ | apply Drawn0.step)⟩
          · rw [if_neg c5] at H
            have c5b0 : (x7_1 == 1) = false := beq_eq_false_iff_ne.mpr c5
            have c5b1 : (x7_1 != 1) = true := bne_iff_ne.mpr c5
            (first | rw [c5b0] | (simp only [i64_w, i32_w]; rw [c5b0]) | skip)
            have H' := Aside0.mk H
            clear H
            go_wp2
            go_meet
            case rel => exact ⟨_, (IntKind.u64.wrap ((IntKind.u64.wrap (Int.tdiv a0 4294967296)) + 1)), (by first | rfl | (simp; done) | (simp [*]; done)), H', ⟨by have := HK1.out; first | omega | exact Nat.le_refl _⟩, by repeat (first | exact Drawn0.refl _ | apply Drawn0.step)⟩
        case rest =>
          clear HC4
          try clear p2
          try clear c3
          try clear c3b0
          try clear c5
          try clear c5b0
          try clear c5b1
          try clear p2
          obtain ⟨kq, x8_3, rfl, HA, HJ3, ⟨mc3, rfl⟩⟩ := hcut
          cases kq with
          | zero => exact absurd HA.out (by simp [broughamref04_Wide.j1])
          | succ kj3 =>
            have H := HA.out
            clear HA
            simp only [broughamref04_Wide.j1] at H
            have HC6 := Aside0.mk H
            clear H
            go_upto_region 9 with (fail)
            go_cut [40] (fun v40 wc => ∃ (kq : Nat) (x40_5 : Bool), v40 = .bool x40_5 ∧ Aside0 (broughamref04_Wide.j2 kq a0 a1 (IntKind.u64.wrap (Int.tdiv a0 4294967296)) x6_1 x7_1 x8_3 x40_5 = some r) ∧ Aside0 (kq ≤ kj3) ∧ Drawn0 w wc)
            case first =>
              have H := HC6.out
              clear HC6
              by_cases c7 : x7_1 = 0
              · rw [if_pos c7] at H
                have c7b0 : (x7_1 == 0) = true := beq_iff_eq.mpr c7
                have c7b1 : (x7_1 != 0) = false := bne_eq_false_iff_eq.mpr c7
                clear c7
                (first | rw [c7b0] | (simp only [i64_w, i32_w]; rw [c7b0]) | skip)
                by_cases c8 : (IntKind.u64.wrap (Int.tdiv a0 4294967296)) = 4294967295
                · rw [if_pos c8] at H
                  have c8b0 : ((IntKind.u64.wrap (Int.tdiv a0 4294967296)) == 4294967295) = true := beq_iff_eq.mpr c8
                  have c8b1 : ((IntKind.u64.wrap (Int.tdiv a0 4294967296)) != 4294967295) = false := bne_eq_false_iff_eq.mpr c8
                  clear c8
                  have H' := Aside0.mk H
                  clear H
                  go_wp2
                  go_meet
                  case rel => exact ⟨_, (true), (by first | rfl | (simp; done) | (simp [*]; done)), H', ⟨by have := HK1.out; have := HJ3.out; first | omega | exact Nat.le_refl _⟩, by repeat (first | exact Drawn0.refl _ | apply Drawn0.step)⟩
                · rw [if_neg c8] at H
                  have c8b0 : ((IntKind.u64.wrap (Int.tdiv a0 4294967296)) == 4294967295) = false := beq_eq_false_iff_ne.mpr c8
                  have c8b1 : ((IntKind.u64.wrap (Int.tdiv a0 4294967296)) != 4294967295) = true := bne_iff_ne.mpr c8
                  by_cases c9 : x7_1 = 1
                  · rw [if_pos c9] at H
                    have c9b0 : (x7_1 == 1) = true := beq_iff_eq.mpr c9
                    have c9b1 : (x7_1 != 1) = false := bne_eq_false_iff_eq.mpr c9
                    clear c9
                    have H' := Aside0.mk H
                    clear H
                    go_wp2
                    go_meet
                    case rel => exact ⟨_, (((IntKind.u64.wrap (Int.tdiv a0 4294967296)) == 0)), (by first | rfl | (simp; done) | (simp [*]; done)), H', ⟨by have := HK1.out; have := HJ3.out; first | omega | exact Nat.le_refl _⟩, by repeat (first | exact Drawn0.refl _ | apply Drawn0.step)⟩
                  · rw [if_neg c9] at H
                    have c9b0 : (x7_1 == 1) = false := beq_eq_false_iff_ne.mpr c9
                    have c9b1 : (x7_1 != 1) = true := bne_iff_ne.mpr c9
                    have H' := Aside0.mk H
                    clear H
                    go_wp2
                    go_meet
                    case rel => exact ⟨_, (false), (by first | rfl | (simp; done) | (simp [*]; done)), H', ⟨by have := HK1.out; have := HJ3.out; first | omega | exact Nat.le_refl _⟩, by repeat (first | exact Drawn0.refl _ | apply Drawn0.step)⟩
              · rw [if_neg c7] at H
                have c7b0 : (x7_1 == 0) = false := beq_eq_false_iff_ne.mpr c7
                have c7b1 : (x7_1 != 0) = true := bne_iff_ne.mpr c7
                (first | rw [c7b0] | (simp only [i64_w, i32_w]; rw [c7b0]) | skip)
                by_cases c10 : x7_1 = 1
                · rw [if_pos c10] at H
                  have c10b0 : (x7_1 == 1) = true := beq_iff_eq.mpr c10
                  have c10b1 : (x7_1 != 1) = false := bne_eq_false_iff_eq.mpr c10
                  clear c10
                  have H' := Aside0.mk H
                  clear H
                  go_wp2
                  go_meet
                  case rel => exact ⟨_, (((IntKind.u64.wrap (Int.tdiv a0 4294967296)) == 0)), (by first | rfl | (simp; done) | (simp [*]; done)), H', ⟨by have := HK1.out; have := HJ3.out; first | omega | exact Nat.le_refl _⟩, by repeat (first | exact Drawn0.refl _ | apply Drawn0.step)⟩
                · rw [if_neg c10] at H
                  have c10b0 : (x7_1 == 1) = false := beq_eq_false_iff_ne.mpr c10
                  have c10b1 : (x7_1 != 1) = true := bne_iff_ne.mpr c10
                  have H' := Aside0.mk H
                  clear H
                  go_wp2
                  go_meet
                  case rel => exact ⟨_, (false), (by first | rfl | (simp; done) | (simp [*]; done)), H', ⟨by have := HK1.out; have := HJ3.out; first | omega | exact Nat.le_refl _⟩, by repeat (first | exact Drawn0.refl _ | apply Drawn0.step)⟩
            case rest =>
              clear HC6
              try clear c1
              try clear p2
              try clear c3
              try clear c3b0
              try clear c5
              try clear c5b0
              try clear c5b1
              try clear c7
              try clear c7b0
              try clear c7b1
              try clear c8
              try clear c8b0
              try clear c8b1
              try clear c9
              try clear c9b0
              try clear c9b1
              try clear c10
              try clear c10b0
              try clear c10b1
              try clear p2
              obtain ⟨kq, x40_5, rfl, HA, HJ5, ⟨mc5, rfl⟩⟩ := hcut
              cases kq with
              | zero => exact absurd HA.out (by simp [broughamref04_Wide.j2])
              | succ kj5 =>
                have H := HA.out
                clear HA
                simp only [broughamref04_Wide.j2] at H
                by_cases c11 : x40_5 = true
                · subst c11
                  have H1 : (broughamref04_Wide.l0 kj5 a0 a1 (IntKind.u64.wrap (Int.tdiv a0 4294967296)) x6_1 (wrap64 (x7_1 + 1))) = some r := by rw [if_pos rfl] at H; exact H
                  clear H
                  have H := H1
                  clear H1
                  have H' := Aside0.mk H
                  clear H
                  go_wp2
                  go_roundg kj5
                  case measure => have := HK1.out; have := HJ3.out; have := HJ5.out; omega
                  case rel => exact ⟨(x6_1), (wrap64 (x7_1 + 1)), (by first | rfl | (simp; done) | (simp [*]; done)), (by first | rfl | (simp; done) | (simp [*]; done)), H', ⟨by have := HK1.out; have := HJ3.out; have := HJ5.out; omega⟩, by repeat (first | exact Drawn0.refl _ | apply Drawn0.step)⟩
                · replace c11 := Bool.eq_false_iff.mpr c11
                  subst c11
                  have H1 : ((broughamref04_far.f (IntKind.u64.wrap ((IntKind.u64.wrap (x8_3 * 4294967296)) + (IntKind.u64.wrap (a1)))) a0).bind fun t102 => ((broughamref04_far.f x6_1 a0).bind fun t103 => (if t102 < t103 then (broughamref04_Wide.l0 kj5 a0 a1 (IntKind.u64.wrap (Int.tdiv a0 4294967296)) (IntKind.u64.wrap ((IntKind.u64.wrap (x8_3 * 4294967296)) + (IntKind.u64.wrap (a1)))) (wrap64 (x7_1 + 1))) else ((broughamref04_far.f (IntKind.u64.wrap ((IntKind.u64.wrap (x8_3 * 4294967296)) + (IntKind.u64.wrap (a1)))) a0).bind fun t104 => ((broughamref04_far.f x6_1 a0).bind fun t105 => (if t104 = t105 then (if (IntKind.u64.wrap ((IntKind.u64.wrap (x8_3 * 4294967296)) + (IntKind.u64.wrap (a1)))) > x6_1 then (broughamref04_Wide.l0 kj5 a0 a1 (IntKind.u64.wrap (Int.tdiv a0 4294967296)) (IntKind.u64.wrap ((IntKind.u64.wrap (x8_3 * 4294967296)) + (IntKind.u64.wrap (a1)))) (wrap64 (x7_1 + 1))) else (broughamref04_Wide.l0 kj5 a0 a1 (IntKind.u64.wrap (Int.tdiv a0 4294967296)) x6_1 (wrap64 (x7_1 + 1)))) else (broughamref04_Wide.l0 kj5 a0 a1 (IntKind.u64.wrap (Int.tdiv a0 4294967296)) x6_1 (wrap64 (x7_1 + 1))))))))) = some r := by rw [if_neg (show ¬ (false = true) by decide)] at H; exact H
                  clear H
                  have H := H1
                  clear H1
                  replace H := Option.bind_eq_some_iff.mp H
                  obtain ⟨t102, A120, H⟩ := H
                  replace H : ((broughamref04_far.f x6_1 a0).bind fun t103 => (if t102 < t103 then (broughamref04_Wide.l0 kj5 a0 a1 (IntKind.u64.wrap (Int.tdiv a0 4294967296)) (IntKind.u64.wrap ((IntKind.u64.wrap (x8_3 * 4294967296)) + (IntKind.u64.wrap (a1)))) (wrap64 (x7_1 + 1))) else ((broughamref04_far.f (IntKind.u64.wrap ((IntKind.u64.wrap (x8_3 * 4294967296)) + (IntKind.u64.wrap (a1)))) a0).bind fun t104 => ((broughamref04_far.f x6_1 a0).bind fun t105 => (if t104 = t105 then (if (IntKind.u64.wrap ((IntKind.u64.wrap (x8_3 * 4294967296)) + (IntKind.u64.wrap (a1)))) > x6_1 then (broughamref04_Wide.l0 kj5 a0 a1 (IntKind.u64.wrap (Int.tdiv a0 4294967296)) (IntKind.u64.wrap ((IntKind.u64.wrap (x8_3 * 4294967296)) + (IntKind.u64.wrap (a1)))) (wrap64 (x7_1 + 1))) else (broughamref04_Wide.l0 kj5 a0 a1 (IntKind.u64.wrap (Int.tdiv a0 4294967296)) x6_1 (wrap64 (x7_1 + 1)))) else (broughamref04_Wide.l0 kj5 a0 a1 (IntKind.u64.wrap (Int.tdiv a0 4294967296)) x6_1 (wrap64 (x7_1 + 1)))))))) = some r := H
                  have A12 := Aside0.mk A120
                  clear A120
                  replace H := Option.bind_eq_some_iff.mp H
                  obtain ⟨t103, A130, H⟩ := H
                  replace H : (if t102 < t103 then (broughamref04_Wide.l0 kj5 a0 a1 (IntKind.u64.wrap (Int.tdiv a0 4294967296)) (IntKind.u64.wrap ((IntKind.u64.wrap (x8_3 * 4294967296)) + (IntKind.u64.wrap (a1)))) (wrap64 (x7_1 + 1))) else ((broughamref04_far.f (IntKind.u64.wrap ((IntKind.u64.wrap (x8_3 * 4294967296)) + (IntKind.u64.wrap (a1)))) a0).bind fun t104 => ((broughamref04_far.f x6_1 a0).bind fun t105 => (if t104 = t105 then (if (IntKind.u64.wrap ((IntKind.u64.wrap (x8_3 * 4294967296)) + (IntKind.u64.wrap (a1)))) > x6_1 then (broughamref04_Wide.l0 kj5 a0 a1 (IntKind.u64.wrap (Int.tdiv a0 4294967296)) (IntKind.u64.wrap ((IntKind.u64.wrap (x8_3 * 4294967296)) + (IntKind.u64.wrap (a1)))) (wrap64 (x7_1 + 1))) else (broughamref04_Wide.l0 kj5 a0 a1 (IntKind.u64.wrap (Int.tdiv a0 4294967296)) x6_1 (wrap64 (x7_1 + 1)))) else (broughamref04_Wide.l0 kj5 a0 a1 (IntKind.u64.wrap (Int.tdiv a0 4294967296)) x6_1 (wrap64 (x7_1 + 1))))))) = some r := H
                  have A13 := Aside0.mk A130
                  clear A130
                  by_cases c14 : t102 < t103
                  · rw [if_pos c14] at H
                    have c14b0 : decide (t102 < t103) = true := decide_eq_true c14
                    clear c14
                    have H' := Aside0.mk H
                    clear H
                    go_wp2_with (first | ((with_reducible refine gate_callee (f := 60) rfl ?_); refine goesL_ (some 48) rfl rfl Try.func60 (by kernel_rfl) rfl #[.int .u64 (IntKind.u64.wrap ((IntKind.u64.wrap (x8_3 * 4294967296)) + (IntKind.u64.wrap (a1)))), .int .u64 a0] rfl (by (try simp only [List.map_toArray, List.map_cons, List.map_nil]); first | done | rfl | (simp only [List.length_drop, List.length_take]; rfl)) ?_; (with_reducible refine (broughamref04_far.calls (IntKind.u64.wrap ((IntKind.u64.wrap (x8_3 * 4294967296)) + (IntKind.u64.wrap (a1)))) a0 t102 _ A12.out).mono ?_); rintro e w' ⟨rfl, ⟨nd, rfl⟩⟩; refine ⟨_, rfl, ?_⟩) | ((with_reducible refine gate_callee (f := 60) rfl ?_); refine goesL_ (some 51) rfl rfl Try.func60 (by kernel_rfl) rfl #[.int .u64 x6_1, .int .u64 a0] rfl (by (try simp only [List.map_toArray, List.map_cons, List.map_nil]); first | done | rfl | (simp only [List.length_drop, List.length_take]; rfl)) ?_; (with_reducible refine (broughamref04_far.calls x6_1 a0 t103 _ A13.out).mono ?_); rintro e w' ⟨rfl, ⟨nd, rfl⟩⟩; refine ⟨_, rfl, ?_⟩))
                    go_roundg kj5
                    case measure => have := HK1.out; have := HJ3.out; have := HJ5.out; omega
                    case rel => exact ⟨(IntKind.u64.wrap ((IntKind.u64.wrap (x8_3 * 4294967296)) + (IntKind.u64.wrap (a1)))), (wrap64 (x7_1 + 1)), (by first | rfl | (simp; done) | (simp [*]; done)), (by first | rfl | (simp; done) | (simp [*]; done)), H', ⟨by have := HK1.out; have := HJ3.out; have := HJ5.out; omega⟩, by repeat (first | exact Drawn0.refl _ | apply Drawn0.step)⟩
                  · rw [if_neg c14] at H
                    have c14b0 : decide (t102 < t103) = false := decide_eq_false c14
                    clear c14
                    replace H := Option.bind_eq_some_iff.mp H
                    obtain ⟨t104, A150, H⟩ := H
                    replace H : ((broughamref04_far.f x6_1 a0).bind fun t105 => (if t104 = t105 then (if (IntKind.u64.wrap ((IntKind.u64.wrap (x8_3 * 4294967296)) + (IntKind.u64.wrap (a1)))) > x6_1 then (broughamref04_Wide.l0 kj5 a0 a1 (IntKind.u64.wrap (Int.tdiv a0 4294967296)) (IntKind.u64.wrap ((IntKind.u64.wrap (x8_3 * 4294967296)) + (IntKind.u64.wrap (a1)))) (wrap64 (x7_1 + 1))) else (broughamref04_Wide.l0 kj5 a0 a1 (IntKind.u64.wrap (Int.tdiv a0 4294967296)) x6_1 (wrap64 (x7_1 + 1)))) else (broughamref04_Wide.l0 kj5 a0 a1 (IntKind.u64.wrap (Int.tdiv a0 4294967296)) x6_1 (wrap64 (x7_1 + 1))))) = some r := H
                    have A15 := Aside0.mk A150
                    clear A150
                    replace H := Option.bind_eq_some_iff.mp H
                    obtain ⟨t105, A160, H⟩ := H
                    replace H : (if t104 = t105 then (if (IntKind.u64.wrap ((IntKind.u64.wrap (x8_3 * 4294967296)) + (IntKind.u64.wrap (a1)))) > x6_1 then (broughamref04_Wide.l0 kj5 a0 a1 (IntKind.u64.wrap (Int.tdiv a0 4294967296)) (IntKind.u64.wrap ((IntKind.u64.wrap (x8_3 * 4294967296)) + (IntKind.u64.wrap (a1)))) (wrap64 (x7_1 + 1))) else (broughamref04_Wide.l0 kj5 a0 a1 (IntKind.u64.wrap (Int.tdiv a0 4294967296)) x6_1 (wrap64 (x7_1 + 1)))) else (broughamref04_Wide.l0 kj5 a0 a1 (IntKind.u64.wrap (Int.tdiv a0 4294967296)) x6_1 (wrap64 (x7_1 + 1)))) = some r := H
                    have A16 := Aside0.mk A160
                    clear A160
                    by_cases c17 : t104 = t105
                    · rw [if_pos c17] at H
                      have c17b0 : (t104 == t105) = true := beq_iff_eq.mpr c17
                      have c17b1 : (t104 != t105) = false := bne_eq_false_iff_eq.mpr c17
                      clear c17
                      by_cases c18 : (IntKind.u64.wrap ((IntKind.u64.wrap (x8_3 * 4294967296)) + (IntKind.u64.wrap (a1)))) > x6_1
                      · rw [if_pos c18] at H
                        have c18b0 : decide (x6_1 < (IntKind.u64.wrap ((IntKind.u64.wrap (x8_3 * 4294967296)) + (IntKind.u64.wrap (a1))))) = true := decide_eq_true c18
                        clear c18
                        have H' := Aside0.mk H
                        clear H
                        go_wp2_with (first | ((with_reducible refine gate_callee (f := 60) rfl ?_); refine goesL_ (some 48) rfl rfl Try.func60 (by kernel_rfl) rfl #[.int .u64 (IntKind.u64.wrap ((IntKind.u64.wrap (x8_3 * 4294967296)) + (IntKind.u64.wrap (a1)))), .int .u64 a0] rfl (by (try simp only [List.map_toArray, List.map_cons, List.map_nil]); first | done | rfl | (simp only [List.length_drop, List.length_take]; rfl)) ?_; (with_reducible refine (broughamref04_far.calls (IntKind.u64.wrap ((IntKind.u64.wrap (x8_3 * 4294967296)) + (IntKind.u64.wrap (a1)))) a0 t102 _ A12.out).mono ?_); rintro e w' ⟨rfl, ⟨nd, rfl⟩⟩; refine ⟨_, rfl, ?_⟩) | ((with_reducible refine gate_callee (f := 60) rfl ?_); refine goesL_ (some 51) rfl rfl Try.func60 (by kernel_rfl) rfl #[.int .u64 x6_1, .int .u64 a0] rfl (by (try simp only [List.map_toArray, List.map_cons, List.map_nil]); first | done | rfl | (simp only [List.length_drop, List.length_take]; rfl)) ?_; (with_reducible refine (broughamref04_far.calls x6_1 a0 t103 _ A13.out).mono ?_); rintro e w' ⟨rfl, ⟨nd, rfl⟩⟩; refine ⟨_, rfl, ?_⟩) | (go_at_call 60; (with_reducible refine (broughamref04_far.calls (IntKind.u64.wrap ((IntKind.u64.wrap (x8_3 * 4294967296)) + (IntKind.u64.wrap (a1)))) a0 t104 _ A15.out).mono ?_); rintro e w' ⟨rfl, ⟨nd, rfl⟩⟩) | (go_at_call 60; (with_reducible refine (broughamref04_far.calls x6_1 a0 t105 _ A16.out).mono ?_); rintro e w' ⟨rfl, ⟨nd, rfl⟩⟩))
                        go_roundg kj5
                        case measure => have := HK1.out; have := HJ3.out; have := HJ5.out; omega
                        case rel => exact ⟨(IntKind.u64.wrap ((IntKind.u64.wrap (x8_3 * 4294967296)) + (IntKind.u64.wrap (a1)))), (wrap64 (x7_1 + 1)), (by first | rfl | (simp; done) | (simp [*]; done)), (by first | rfl | (simp; done) | (simp [*]; done)), H', ⟨by have := HK1.out; have := HJ3.out; have := HJ5.out; omega⟩, by repeat (first | exact Drawn0.refl _ | apply Drawn0.step)⟩
                      · rw [if_neg c18] at H
                        have c18b0 : decide (x6_1 < (IntKind.u64.wrap ((IntKind.u64.wrap (x8_3 * 4294967296)) + (IntKind.u64.wrap (a1))))) = false := decide_eq_false c18
                        clear c18
                        have H' := Aside0.mk H
                        clear H
                        go_wp2_with (first | ((with_reducible refine gate_callee (f := 60) rfl ?_); refine goesL_ (some 48) rfl rfl Try.func60 (by kernel_rfl) rfl #[.int .u64 (IntKind.u64.wrap ((IntKind.u64.wrap (x8_3 * 4294967296)) + (IntKind.u64.wrap (a1)))), .int .u64 a0] rfl (by (try simp only [List.map_toArray, List.map_cons, List.map_nil]); first | done | rfl | (simp only [List.length_drop, List.length_take]; rfl)) ?_; (with_reducible refine (broughamref04_far.calls (IntKind.u64.wrap ((IntKind.u64.wrap (x8_3 * 4294967296)) + (IntKind.u64.wrap (a1)))) a0 t102 _ A12.out).mono ?_); rintro e w' ⟨rfl, ⟨nd, rfl⟩⟩; refine ⟨_, rfl, ?_⟩) | ((with_reducible refine gate_callee (f := 60) rfl ?_); refine goesL_ (some 51) rfl rfl Try.func60 (by kernel_rfl) rfl #[.int .u64 x6_1, .int .u64 a0] rfl (by (try simp only [List.map_toArray, List.map_cons, List.map_nil]); first | done | rfl | (simp only [List.length_drop, List.length_take]; rfl)) ?_; (with_reducible refine (broughamref04_far.calls x6_1 a0 t103 _ A13.out).mono ?_); rintro e w' ⟨rfl, ⟨nd, rfl⟩⟩; refine ⟨_, rfl, ?_⟩) | (go_at_call 60; (with_reducible refine (broughamref04_far.calls (IntKind.u64.wrap ((IntKind.u64.wrap (x8_3 * 4294967296)) + (IntKind.u64.wrap (a1)))) a0 t104 _ A15.out).mono ?_); rintro e w' ⟨rfl, ⟨nd, rfl⟩⟩) | (go_at_call 60; (with_reducible refine (broughamref04_far.calls x6_1 a0 t105 _ A16.out).mono ?_); rintro e w' ⟨rfl, ⟨nd, rfl⟩⟩))
                        go_roundg kj5
                        case measure => have := HK1.out; have := HJ3.out; have := HJ5.out; omega
                        case rel => exact ⟨(x6_1), (wrap64 (x7_1 + 1)), (by first | rfl | (simp; done) | (simp [*]; done)), (by first | rfl | (simp; done) | (simp [*]; done)), H', ⟨by have := HK1.out; have := HJ3.out; have := HJ5.out; omega⟩, by repeat (first | exact Drawn0.refl _ | apply Drawn0.step)⟩
                    · rw [if_neg c17] at H
                      have c17b0 : (t104 == t105) = false := beq_eq_false_iff_ne.mpr c17
                      have c17b1 : (t104 != t105) = true := bne_iff_ne.mpr c17
                      have H' := Aside0.mk H
                      clear H
                      go_wp2_with (first | ((with_reducible refine gate_callee (f := 60) rfl ?_); refine goesL_ (some 48) rfl rfl Try.func60 (by kernel_rfl) rfl #[.int .u64 (IntKind.u64.wrap ((IntKind.u64.wrap (x8_3 * 4294967296)) + (IntKind.u64.wrap (a1)))), .int .u64 a0] rfl (by (try simp only [List.map_toArray, List.map_cons, List.map_nil]); first | done | rfl | (simp only [List.length_drop, List.length_take]; rfl)) ?_; (with_reducible refine (broughamref04_far.calls (IntKind.u64.wrap ((IntKind.u64.wrap (x8_3 * 4294967296)) + (IntKind.u64.wrap (a1)))) a0 t102 _ A12.out).mono ?_); rintro e w' ⟨rfl, ⟨nd, rfl⟩⟩; refine ⟨_, rfl, ?_⟩) | ((with_reducible refine gate_callee (f := 60) rfl ?_); refine goesL_ (some 51) rfl rfl Try.func60 (by kernel_rfl) rfl #[.int .u64 x6_1, .int .u64 a0] rfl (by (try simp only [List.map_toArray, List.map_cons, List.map_nil]); first | done | rfl | (simp only [List.length_drop, List.length_take]; rfl)) ?_; (with_reducible refine (broughamref04_far.calls x6_1 a0 t103 _ A13.out).mono ?_); rintro e w' ⟨rfl, ⟨nd, rfl⟩⟩; refine ⟨_, rfl, ?_⟩) | (go_at_call 60; (with_reducible refine (broughamref04_far.calls (IntKind.u64.wrap ((IntKind.u64.wrap (x8_3 * 4294967296)) + (IntKind.u64.wrap (a1)))) a0 t104 _ A15.out).mono ?_); rintro e w' ⟨rfl, ⟨nd, rfl⟩⟩) | (go_at_call 60; (with_reducible refine (broughamref04_far.calls x6_1 a0 t105 _ A16.out).mono ?_); rintro e w' ⟨rfl, ⟨nd, rfl⟩⟩))
                      go_roundg kj5
                      case measure => have := HK1.out; have := HJ3.out; have := HJ5.out; omega
                      case rel => exact ⟨(x6_1), (wrap64 (x7_1 + 1)), (by first | rfl | (simp; done) | (simp [*]; done)), (by first | rfl | (simp; done) | (simp [*]; done)), H', ⟨by have := HK1.out; have := HJ3.out; have := HJ5.out; omega⟩, by repeat (first | exact Drawn0.refl _ | apply Drawn0.step)⟩
      · rw [if_neg c3] at H
        have c3b0 : decide (x7_1 < 2) = false := decide_eq_false c3
        clear c3
        obtain rfl := Option.some.inj H
        go_wp2
        go_ret
        exact ⟨by first | rfl | (simp; done) | (simp [*]; done), by repeat (first | exact Drawn0.refl _ | apply Drawn0.step)⟩

/-! ### serial_Less: function 32 -/
def serial_Less.f (a0 : Int) (a1 : Int) : Option (Bool) := some (decide ((wrap32 ((a0 - a1) % 4294967296)) < 0))
set_option maxHeartbeats 8000000 in
set_option maxRecDepth 100000 in
theorem serial_Less.calls (a0 : Int) (a1 : Int) (r : Bool) (w : World) (h : serial_Less.f a0 a1 = some r) :
    Calls Try.prog 32 #[.int .u32 a0, .int .u32 a1] w fun e w' => e = .returned (.bool r) ∧ Drawn0 w w' := by
  have H : (some (decide ((wrap32 ((a0 - a1) % 4294967296)) < 0))) = some r := h
  clear h
  obtain rfl := Option.some.inj H
  go_enter Try.func32, Try.ntmps32
  go_wp2
  go_ret
  exact ⟨by first | rfl | (simp; done) | (simp [*]; done), by repeat (first | exact Drawn0.refl _ | apply Drawn0.step)⟩

/-! ### serial_Between: function 33 -/
def serial_Between.f (a0 : Int) (a1 : Int) (a2 : Int) : Option (Bool) := if a0 = a1 then (some false) else (if ((a0 - a1) % 4294967296) ≤ ((a2 - a1) % 4294967296) then ((serial_Less.f a2 a1).bind fun t106 => (some (!t106))) else (some false))
set_option maxHeartbeats 8000000 in
set_option maxRecDepth 100000 in
theorem serial_Between.calls (a0 : Int) (a1 : Int) (a2 : Int) (r : Bool) (w : World) (h : serial_Between.f a0 a1 a2 = some r) :
    Calls Try.prog 33 #[.int .u32 a0, .int .u32 a1, .int .u32 a2] w fun e w' => e = .returned (.bool r) ∧ Drawn0 w w' := by
  have H : (if a0 = a1 then (some false) else (if ((a0 - a1) % 4294967296) ≤ ((a2 - a1) % 4294967296) then ((serial_Less.f a2 a1).bind fun t106 => (some (!t106))) else (some false))) = some r := h
  clear h
  by_cases c4 : a0 = a1
  · rw [if_pos c4] at H
    have c4b0 : (a0 == a1) = true := beq_iff_eq.mpr c4
    have c4b1 : (a0 != a1) = false := bne_eq_false_iff_eq.mpr c4
    clear c4
    obtain rfl := Option.some.inj H
    go_enter Try.func33, Try.ntmps33
    go_wp2
    go_ret
    exact ⟨by first | rfl | (simp; done) | (simp [*]; done), by repeat (first | exact Drawn0.refl _ | apply Drawn0.step)⟩
  · rw [if_neg c4] at H
    have c4b0 : (a0 == a1) = false := beq_eq_false_iff_ne.mpr c4
    have c4b1 : (a0 != a1) = true := bne_iff_ne.mpr c4
    by_cases c5 : ((a0 - a1) % 4294967296) ≤ ((a2 - a1) % 4294967296)
    · rw [if_pos c5] at H
      have c5b0 : decide (((a0 - a1) % 4294967296) ≤ ((a2 - a1) % 4294967296)) = true := decide_eq_true c5
      clear c5
      replace H := Option.bind_eq_some_iff.mp H
      obtain ⟨t106, A60, H⟩ := H
      replace H : (some (!t106)) = some r := H
      have A6 := Aside0.mk A60
      clear A60
      obtain rfl := Option.some.inj H
      go_enter Try.func33, Try.ntmps33
      go_wp2_with (first | (go_at_call 32; (with_reducible refine (serial_Less.calls a2 a1 t106 _ A6.out).mono ?_); rintro e w' ⟨rfl, ⟨nd, rfl⟩⟩))
      go_ret
      exact ⟨by first | rfl | (simp; done) | (simp [*]; done), by repeat (first | exact Drawn0.refl _ | apply Drawn0.step)⟩
    · rw [if_neg c5] at H
      have c5b0 : decide (((a0 - a1) % 4294967296) ≤ ((a2 - a1) % 4294967296)) = false := decide_eq_false c5
      clear c5
      obtain rfl := Option.some.inj H
      go_enter Try.func33, Try.ntmps33
      go_wp2
      go_ret
      exact ⟨by first | rfl | (simp; done) | (simp [*]; done), by repeat (first | exact Drawn0.refl _ | apply Drawn0.step)⟩

/-! ### serial_Max: function 34 -/
def serial_Max.f (a0 : Int) (a1 : Int) : Option (Int) := (serial_Less.f a0 a1).bind fun t107 => (if t107 = true then (some a1) else (some a0))
set_option maxHeartbeats 8000000 in
set_option maxRecDepth 100000 in
theorem serial_Max.calls (a0 : Int) (a1 : Int) (r : Int) (w : World) (h : serial_Max.f a0 a1 = some r) :
    Calls Try.prog 34 #[.int .u32 a0, .int .u32 a1] w fun e w' => e = .returned (.int .u32 r) ∧ Drawn0 w w' := by
  have H : ((serial_Less.f a0 a1).bind fun t107 => (if t107 = true then (some a1) else (some a0))) = some r := h
  clear h
  replace H := Option.bind_eq_some_iff.mp H
  obtain ⟨t107, A30, H⟩ := H
  replace H : (if t107 = true then (some a1) else (some a0)) = some r := H
  have A3 := Aside0.mk A30
  clear A30
  by_cases c4 : t107 = true
  · subst c4
    have H1 : (some a1) = some r := by rw [if_pos rfl] at H; exact H
    clear H
    have H := H1
    clear H1
    obtain rfl := Option.some.inj H
    go_enter Try.func34, Try.ntmps34
    go_wp2_with (first | ((with_reducible refine gate_callee (f := 32) rfl ?_); refine goesL_ (some 7) rfl rfl Try.func32 (by kernel_rfl) rfl #[.int .u32 a0, .int .u32 a1] rfl (by (try simp only [List.map_toArray, List.map_cons, List.map_nil]); first | done | rfl | (simp only [List.length_drop, List.length_take]; rfl)) ?_; (with_reducible refine (serial_Less.calls a0 a1 true _ A3.out).mono ?_); rintro e w' ⟨rfl, ⟨nd, rfl⟩⟩; refine ⟨_, rfl, ?_⟩))
    go_ret
    exact ⟨by first | rfl | (simp; done) | (simp [*]; done), by repeat (first | exact Drawn0.refl _ | apply Drawn0.step)⟩
  · replace c4 := Bool.eq_false_iff.mpr c4
    subst c4
    have H1 : (some a0) = some r := by rw [if_neg (show ¬ (false = true) by decide)] at H; exact H
    clear H
    have H := H1
    clear H1
    obtain rfl := Option.some.inj H
    go_enter Try.func34, Try.ntmps34
    go_wp2_with (first | ((with_reducible refine gate_callee (f := 32) rfl ?_); refine goesL_ (some 7) rfl rfl Try.func32 (by kernel_rfl) rfl #[.int .u32 a0, .int .u32 a1] rfl (by (try simp only [List.map_toArray, List.map_cons, List.map_nil]); first | done | rfl | (simp only [List.length_drop, List.length_take]; rfl)) ?_; (with_reducible refine (serial_Less.calls a0 a1 false _ A3.out).mono ?_); rintro e w' ⟨rfl, ⟨nd, rfl⟩⟩; refine ⟨_, rfl, ?_⟩))
    go_ret
    exact ⟨by first | rfl | (simp; done) | (simp [*]; done), by repeat (first | exact Drawn0.refl _ | apply Drawn0.step)⟩

/-! ### broughamlaw04_alive: function 31 -/
def broughamlaw04_alive.f (k : Nat)  : Option (Bool) := (serial_Less.f 4294967295 0).bind fun t108 => (if t108 = true then ((serial_Less.f 0 4294967295).bind fun t109 => (if t109 = true then (some false) else ((serial_Wide.f k 4294967296 4294967295).bind fun t110 => (if t110 = 4294967295 then ((serial_Max.f 3 5).bind fun t111 => (if t111 = 5 then ((serial_Between.f 2 1 2).bind fun t112 => (some t112)) else (some false))) else (some false))))) else (some false))
theorem broughamlaw04_alive.mono : ∀ k, LeO (broughamlaw04_alive.f k ) (broughamlaw04_alive.f (k + 1) ) := by
  intro  k
  unfold broughamlaw04_alive.f
  repeat' first
      | (with_reducible exact serial_Wide.mono _ _ _)
      | (with_reducible exact LeO.refl _)
      | (with_reducible exact LeO.none _)
      | (with_reducible refine LeO.ite ?_ ?_)
      | (with_reducible refine LeO.bind ?_ (fun _ => ?_))
      | exact serial_Wide.mono _ _ _
      | exact LeO.none _
      | refine LeO.ite ?_ ?_
      | refine LeO.bind ?_ (fun _ => ?_)
set_option maxHeartbeats 8000000 in
set_option maxRecDepth 100000 in
theorem broughamlaw04_alive.calls (k : Nat)  (r : Bool) (w : World) (h : broughamlaw04_alive.f k  = some r) :
    Calls Try.prog 31 #[] w fun e w' => e = .returned (.bool r) ∧ Drawn0 w w' := by
  have H : ((serial_Less.f 4294967295 0).bind fun t108 => (if t108 = true then ((serial_Less.f 0 4294967295).bind fun t109 => (if t109 = true then (some false) else ((serial_Wide.f k 4294967296 4294967295).bind fun t110 => (if t110 = 4294967295 then ((serial_Max.f 3 5).bind fun t111 => (if t111 = 5 then ((serial_Between.f 2 1 2).bind fun t112 => (some t112)) else (some false))) else (some false))))) else (some false))) = some r := h
  clear h
  replace H := Option.bind_eq_some_iff.mp H
  obtain ⟨t108, A10, H⟩ := H
  replace H : (if t108 = true then ((serial_Less.f 0 4294967295).bind fun t109 => (if t109 = true then (some false) else ((serial_Wide.f k 4294967296 4294967295).bind fun t110 => (if t110 = 4294967295 then ((serial_Max.f 3 5).bind fun t111 => (if t111 = 5 then ((serial_Between.f 2 1 2).bind fun t112 => (some t112)) else (some false))) else (some false))))) else (some false)) = some r := H
  have A1 := Aside0.mk A10
  clear A10
  by_cases c2 : t108 = true
  · subst c2
    have H1 : ((serial_Less.f 0 4294967295).bind fun t109 => (if t109 = true then (some false) else ((serial_Wide.f k 4294967296 4294967295).bind fun t110 => (if t110 = 4294967295 then ((serial_Max.f 3 5).bind fun t111 => (if t111 = 5 then ((serial_Between.f 2 1 2).bind fun t112 => (some t112)) else (some false))) else (some false))))) = some r := by rw [if_pos rfl] at H; exact H
    clear H
    have H := H1
    clear H1
    replace H := Option.bind_eq_some_iff.mp H
    obtain ⟨t109, A30, H⟩ := H
    replace H : (if t109 = true then (some false) else ((serial_Wide.f k 4294967296 4294967295).bind fun t110 => (if t110 = 4294967295 then ((serial_Max.f 3 5).bind fun t111 => (if t111 = 5 then ((serial_Between.f 2 1 2).bind fun t112 => (some t112)) else (some false))) else (some false)))) = some r := H
    have A3 := Aside0.mk A30
    clear A30
    by_cases c4 : t109 = true
    · subst c4
      have H1 : (some false) = some r := by rw [if_pos rfl] at H; exact H
      clear H
      have H := H1
      clear H1
      obtain rfl := Option.some.inj H
      go_enter Try.func31, Try.ntmps31
      go_wp2_with (first | ((with_reducible refine gate_callee (f := 32) rfl ?_); refine goesL_ (some 1) rfl rfl Try.func32 (by kernel_rfl) rfl #[.int .u32 4294967295, .int .u32 0] rfl (by (try simp only [List.map_toArray, List.map_cons, List.map_nil]); first | done | rfl | (simp only [List.length_drop, List.length_take]; rfl)) ?_; (with_reducible refine (serial_Less.calls 4294967295 0 true _ A1.out).mono ?_); rintro e w' ⟨rfl, ⟨nd, rfl⟩⟩; refine ⟨_, rfl, ?_⟩) | (go_at_call 32; (with_reducible refine (serial_Less.calls 0 4294967295 true _ A3.out).mono ?_); rintro e w' ⟨rfl, ⟨nd, rfl⟩⟩))
      go_ret
      exact ⟨by first | rfl | (simp; done) | (simp [*]; done), by repeat (first | exact Drawn0.refl _ | apply Drawn0.step)⟩
    · replace c4 := Bool.eq_false_iff.mpr c4
      subst c4
      have H1 : ((serial_Wide.f k 4294967296 4294967295).bind fun t110 => (if t110 = 4294967295 then ((serial_Max.f 3 5).bind fun t111 => (if t111 = 5 then ((serial_Between.f 2 1 2).bind fun t112 => (some t112)) else (some false))) else (some false))) = some r := by rw [if_neg (show ¬ (false = true) by decide)] at H; exact H
      clear H
      have H := H1
      clear H1
      replace H := Option.bind_eq_some_iff.mp H
      obtain ⟨t110, A50, H⟩ := H
      replace H : (if t110 = 4294967295 then ((serial_Max.f 3 5).bind fun t111 => (if t111 = 5 then ((serial_Between.f 2 1 2).bind fun t112 => (some t112)) else (some false))) else (some false)) = some r := H
      have A5 := Aside0.mk A50
      clear A50
      by_cases c6 : t110 = 4294967295
      · rw [if_pos c6] at H
        have c6b0 : (t110 == 4294967295) = true := beq_iff_eq.mpr c6
        have c6b1 : (t110 != 4294967295) = false := bne_eq_false_iff_eq.mpr c6
        clear c6
        replace H := Option.bind_eq_some_iff.mp H
        obtain ⟨t111, A70, H⟩ := H
        replace H : (if t111 = 5 then ((serial_Between.f 2 1 2).bind fun t112 => (some t112)) else (some false)) = some r := H
        have A7 := Aside0.mk A70
        clear A70
        by_cases c8 : t111 = 5
        · rw [if_pos c8] at H
          have c8b0 : (t111 == 5) = true := beq_iff_eq.mpr c8
          have c8b1 : (t111 != 5) = false := bne_eq_false_iff_eq.mpr c8
          clear c8
          replace H := Option.bind_eq_some_iff.mp H
          obtain ⟨t112, A90, H⟩ := H
          replace H : (some t112) = some r := H
          have A9 := Aside0.mk A90
          clear A90
          obtain rfl := Option.some.inj H
          go_enter Try.func31, Try.ntmps31
          go_wp2_with (first | ((with_reducible refine gate_callee (f := 32) rfl ?_); refine goesL_ (some 1) rfl rfl Try.func32 (by kernel_rfl) rfl #[.int .u32 4294967295, .int .u32 0] rfl (by (try simp only [List.map_toArray, List.map_cons, List.map_nil]); first | done | rfl | (simp only [List.length_drop, List.length_take]; rfl)) ?_; (with_reducible refine (serial_Less.calls 4294967295 0 true _ A1.out).mono ?_); rintro e w' ⟨rfl, ⟨nd, rfl⟩⟩; refine ⟨_, rfl, ?_⟩) | (go_at_call 32; (with_reducible refine (serial_Less.calls 0 4294967295 false _ A3.out).mono ?_); rintro e w' ⟨rfl, ⟨nd, rfl⟩⟩) | (go_at_call 29; (with_reducible refine (serial_Wide.calls k 4294967296 4294967295 t110 _ A5.out).mono ?_); rintro e w' ⟨rfl, ⟨nd, rfl⟩⟩) | (go_at_call 34; (with_reducible refine (serial_Max.calls 3 5 t111 _ A7.out).mono ?_); rintro e w' ⟨rfl, ⟨nd, rfl⟩⟩) | (go_at_call 33; (with_reducible refine (serial_Between.calls 2 1 2 t112 _ A9.out).mono ?_); rintro e w' ⟨rfl, ⟨nd, rfl⟩⟩))
          go_ret
          exact ⟨by first | rfl | (simp; done) | (simp [*]; done), by repeat (first | exact Drawn0.refl _ | apply Drawn0.step)⟩
        · rw [if_neg c8] at H
          have c8b0 : (t111 == 5) = false := beq_eq_false_iff_ne.mpr c8
          have c8b1 : (t111 != 5) = true := bne_iff_ne.mpr c8
          obtain rfl := Option.some.inj H
          go_enter Try.func31, Try.ntmps31
          go_wp2_with (first | ((with_reducible refine gate_callee (f := 32) rfl ?_); refine goesL_ (some 1) rfl rfl Try.func32 (by kernel_rfl) rfl #[.int .u32 4294967295, .int .u32 0] rfl (by (try simp only [List.map_toArray, List.map_cons, List.map_nil]); first | done | rfl | (simp only [List.length_drop, List.length_take]; rfl)) ?_; (with_reducible refine (serial_Less.calls 4294967295 0 true _ A1.out).mono ?_); rintro e w' ⟨rfl, ⟨nd, rfl⟩⟩; refine ⟨_, rfl, ?_⟩) | (go_at_call 32; (with_reducible refine (serial_Less.calls 0 4294967295 false _ A3.out).mono ?_); rintro e w' ⟨rfl, ⟨nd, rfl⟩⟩) | (go_at_call 29; (with_reducible refine (serial_Wide.calls k 4294967296 4294967295 t110 _ A5.out).mono ?_); rintro e w' ⟨rfl, ⟨nd, rfl⟩⟩) | (go_at_call 34; (with_reducible refine (serial_Max.calls 3 5 t111 _ A7.out).mono ?_); rintro e w' ⟨rfl, ⟨nd, rfl⟩⟩))
          go_ret
          exact ⟨by first | rfl | (simp; done) | (simp [*]; done), by repeat (first | exact Drawn0.refl _ | apply Drawn0.step)⟩
      · rw [if_neg c6] at H
        have c6b0 : (t110 == 4294967295) = false := beq_eq_false_iff_ne.mpr c6
        have c6b1 : (t110 != 4294967295) = true := bne_iff_ne.mpr c6
        obtain rfl := Option.some.inj H
        go_enter Try.func31, Try.ntmps31
        go_wp2_with (first | ((with_reducible refine gate_callee (f := 32) rfl ?_); refine goesL_ (some 1) rfl rfl Try.func32 (by kernel_rfl) rfl #[.int .u32 4294967295, .int .u32 0] rfl (by (try simp only [List.map_toArray, List.map_cons, List.map_nil]); first | done | rfl | (simp only [List.length_drop, List.length_take]; rfl)) ?_; (with_reducible refine (serial_Less.calls 4294967295 0 true _ A1.out).mono ?_); rintro e w' ⟨rfl, ⟨nd, rfl⟩⟩; refine ⟨_, rfl, ?_⟩) | (go_at_call 32; (with_reducible refine (serial_Less.calls 0 4294967295 false _ A3.out).mono ?_); rintro e w' ⟨rfl, ⟨nd, rfl⟩⟩) | (go_at_call 29; (with_reducible refine (serial_Wide.calls k 4294967296 4294967295 t110 _ A5.out).mono ?_); rintro e w' ⟨rfl, ⟨nd, rfl⟩⟩))
        go_ret
        exact ⟨by first | rfl | (simp; done) | (simp [*]; done), by repeat (first | exact Drawn0.refl _ | apply Drawn0.step)⟩
  · replace c2 := Bool.eq_false_iff.mpr c2
    subst c2
    have H1 : (some false) = some r := by rw [if_neg (show ¬ (false = true) by decide)] at H; exact H
    clear H
    have H := H1
    clear H1
    obtain rfl := Option.some.inj H
    go_enter Try.func31, Try.ntmps31
    go_wp2_with (first | ((with_reducible refine gate_callee (f := 32) rfl ?_); refine goesL_ (some 1) rfl rfl Try.func32 (by kernel_rfl) rfl #[.int .u32 4294967295, .int .u32 0] rfl (by (try simp only [List.map_toArray, List.map_cons, List.map_nil]); first | done | rfl | (simp only [List.length_drop, List.length_take]; rfl)) ?_; (with_reducible refine (serial_Less.calls 4294967295 0 false _ A1.out).mono ?_); rintro e w' ⟨rfl, ⟨nd, rfl⟩⟩; refine ⟨_, rfl, ?_⟩))
    go_ret
    exact ⟨by first | rfl | (simp; done) | (simp [*]; done), by repeat (first | exact Drawn0.refl _ | apply Drawn0.step)⟩

/-! ### broughamlaw04_SerialWide: function 6 -/
def broughamlaw04_SerialWide.f (k : Nat) (a0 : Int) (a1 : Int) : Option (Bool) := (serial_Wide.f k a0 a1).bind fun t113 => ((broughamref04_Wide.f k a0 a1).bind fun t114 => (if t113 = t114 then (if ((t113) % 4294967296) = a1 then ((broughamlaw04_alive.f k).bind fun t115 => (some t115)) else (some false)) else (some false)))
theorem broughamlaw04_SerialWide.mono : ∀ a0 a1 k, LeO (broughamlaw04_SerialWide.f k a0 a1) (broughamlaw04_SerialWide.f (k + 1) a0 a1) := by
  intro a0 a1 k
  unfold broughamlaw04_SerialWide.f
  repeat' first
      | (with_reducible exact broughamlaw04_alive.mono _)
      | (with_reducible exact broughamref04_Wide.mono _ _ _)
      | (with_reducible exact serial_Wide.mono _ _ _)
      | (with_reducible exact LeO.refl _)
      | (with_reducible exact LeO.none _)
      | (with_reducible refine LeO.ite ?_ ?_)
      | (with_reducible refine LeO.bind ?_ (fun _ => ?_))
      | exact broughamlaw04_alive.mono _
      | exact broughamref04_Wide.mono _ _ _
      | exact serial_Wide.mono _ _ _
      | exact LeO.none _
      | refine LeO.ite ?_ ?_
      | refine LeO.bind ?_ (fun _ => ?_)
set_option maxHeartbeats 8000000 in
set_option maxRecDepth 100000 in
theorem broughamlaw04_SerialWide.calls (k : Nat) (a0 : Int) (a1 : Int) (r : Bool) (w : World) (h : broughamlaw04_SerialWide.f k a0 a1 = some r) :
    Calls Try.prog 6 #[.int .u64 a0, .int .u32 a1] w fun e w' => e = .returned (.bool r) ∧ Drawn0 w w' := by
  have H : ((serial_Wide.f k a0 a1).bind fun t113 => ((broughamref04_Wide.f k a0 a1).bind fun t114 => (if t113 = t114 then (if ((t113) % 4294967296) = a1 then ((broughamlaw04_alive.f k).bind fun t115 => (some t115)) else (some false)) else (some false)))) = some r := h
  clear h
  replace H := Option.bind_eq_some_iff.mp H
  obtain ⟨t113, A30, H⟩ := H
  replace H : ((broughamref04_Wide.f k a0 a1).bind fun t114 => (if t113 = t114 then (if ((t113) % 4294967296) = a1 then ((broughamlaw04_alive.f k).bind fun t115 => (some t115)) else (some false)) else (some false))) = some r := H
  have A3 := Aside0.mk A30
  clear A30
  replace H := Option.bind_eq_some_iff.mp H
  obtain ⟨t114, A40, H⟩ := H
  replace H : (if t113 = t114 then (if ((t113) % 4294967296) = a1 then ((broughamlaw04_alive.f k).bind fun t115 => (some t115)) else (some false)) else (some false)) = some r := H
  have A4 := Aside0.mk A40
  clear A40
  by_cases c5 : t113 = t114
  · rw [if_pos c5] at H
    have c5b0 : (t113 == t114) = true := beq_iff_eq.mpr c5
    have c5b1 : (t113 != t114) = false := bne_eq_false_iff_eq.mpr c5
    clear c5
    by_cases c6 : ((t113) % 4294967296) = a1
    · rw [if_pos c6] at H
      have c6b0 : (((t113) % 4294967296) == a1) = true := beq_iff_eq.mpr c6
      have c6b1 : (((t113) % 4294967296) != a1) = false := bne_eq_false_iff_eq.mpr c6
      clear c6
      replace H := Option.bind_eq_some_iff.mp H
      obtain ⟨t115, A70, H⟩ := H
      replace H : (some t115) = some r := H
      have A7 := Aside0.mk A70
      clear A70
      obtain rfl := Option.some.inj H
      go_enter Try.func6, Try.ntmps6
      go_wp2_with (first | ((with_reducible refine gate_callee (f := 29) rfl ?_); refine goesL_ (some 8) rfl rfl Try.func29 (by kernel_rfl) rfl #[.int .u64 a0, .int .u32 a1] rfl (by (try simp only [List.map_toArray, List.map_cons, List.map_nil]); first | done | rfl | (simp only [List.length_drop, List.length_take]; rfl)) ?_; (with_reducible refine (serial_Wide.calls k a0 a1 t113 _ A3.out).mono ?_); rintro e w' ⟨rfl, ⟨nd, rfl⟩⟩; refine ⟨_, rfl, ?_⟩) | ((with_reducible refine gate_callee (f := 30) rfl ?_); refine goesL_ (some 12) rfl rfl Try.func30 (by kernel_rfl) rfl #[.int .u64 a0, .int .u32 a1] rfl (by (try simp only [List.map_toArray, List.map_cons, List.map_nil]); first | done | rfl | (simp only [List.length_drop, List.length_take]; rfl)) ?_; (with_reducible refine (broughamref04_Wide.calls k a0 a1 t114 _ A4.out).mono ?_); rintro e w' ⟨rfl, ⟨nd, rfl⟩⟩; refine ⟨_, rfl, ?_⟩) | (go_at_call 31; (with_reducible refine (broughamlaw04_alive.calls k  t115 _ A7.out).mono ?_); rintro e w' ⟨rfl, ⟨nd, rfl⟩⟩))
      go_ret
      exact ⟨by first | rfl | (simp; done) | (simp [*]; done), by repeat (first | exact Drawn0.refl _ | apply Drawn0.step)⟩
    · rw [if_neg c6] at H
      have c6b0 : (((t113) % 4294967296) == a1) = false := beq_eq_false_iff_ne.mpr c6
      have c6b1 : (((t113) % 4294967296) != a1) = true := bne_iff_ne.mpr c6
      obtain rfl := Option.some.inj H
      go_enter Try.func6, Try.ntmps6
      go_wp2_with (first | ((with_reducible refine gate_callee (f := 29) rfl ?_); refine goesL_ (some 8) rfl rfl Try.func29 (by kernel_rfl) rfl #[.int .u64 a0, .int .u32 a1] rfl (by (try simp only [List.map_toArray, List.map_cons, List.map_nil]); first | done | rfl | (simp only [List.length_drop, List.length_take]; rfl)) ?_; (with_reducible refine (serial_Wide.calls k a0 a1 t113 _ A3.out).mono ?_); rintro e w' ⟨rfl, ⟨nd, rfl⟩⟩; refine ⟨_, rfl, ?_⟩) | ((with_reducible refine gate_callee (f := 30) rfl ?_); refine goesL_ (some 12) rfl rfl Try.func30 (by kernel_rfl) rfl #[.int .u64 a0, .int .u32 a1] rfl (by (try simp only [List.map_toArray, List.map_cons, List.map_nil]); first | done | rfl | (simp only [List.length_drop, List.length_take]; rfl)) ?_; (with_reducible refine (broughamref04_Wide.calls k a0 a1 t114 _ A4.out).mono ?_); rintro e w' ⟨rfl, ⟨nd, rfl⟩⟩; refine ⟨_, rfl, ?_⟩))
      go_ret
      exact ⟨by first | rfl | (simp; done) | (simp [*]; done), by repeat (first | exact Drawn0.refl _ | apply Drawn0.step)⟩
  · rw [if_neg c5] at H
    have c5b0 : (t113 == t114) = false := beq_eq_false_iff_ne.mpr c5
    have c5b1 : (t113 != t114) = true := bne_iff_ne.mpr c5
    obtain rfl := Option.some.inj H
    go_enter Try.func6, Try.ntmps6
    go_wp2_with (first | ((with_reducible refine gate_callee (f := 29) rfl ?_); refine goesL_ (some 8) rfl rfl Try.func29 (by kernel_rfl) rfl #[.int .u64 a0, .int .u32 a1] rfl (by (try simp only [List.map_toArray, List.map_cons, List.map_nil]); first | done | rfl | (simp only [List.length_drop, List.length_take]; rfl)) ?_; (with_reducible refine (serial_Wide.calls k a0 a1 t113 _ A3.out).mono ?_); rintro e w' ⟨rfl, ⟨nd, rfl⟩⟩; refine ⟨_, rfl, ?_⟩) | ((with_reducible refine gate_callee (f := 30) rfl ?_); refine goesL_ (some 12) rfl rfl Try.func30 (by kernel_rfl) rfl #[.int .u64 a0, .int .u32 a1] rfl (by (try simp only [List.map_toArray, List.map_cons, List.map_nil]); first | done | rfl | (simp only [List.length_drop, List.length_take]; rfl)) ?_; (with_reducible refine (broughamref04_Wide.calls k a0 a1 t114 _ A4.out).mono ?_); rintro e w' ⟨rfl, ⟨nd, rfl⟩⟩; refine ⟨_, rfl, ?_⟩))
    go_ret
    exact ⟨by first | rfl | (simp; done) | (simp [*]; done), by repeat (first | exact Drawn0.refl _ | apply Drawn0.step)⟩

/-- THE ONE PURE STATEMENT of broughamlaw04_SerialWide: yours. -/
def broughamlaw04_SerialWide.Pure : Prop := ∀ (a0 : Int) (a1 : Int), (Lit.int .u64 a0).wf = true → (Lit.int .u32 a1).wf = true → ∃ k, broughamlaw04_SerialWide.f k a0 a1 = some true
theorem broughamlaw04_SerialWide.walk (P : broughamlaw04_SerialWide.Pure) (a0 : Int) (a1 : Int) (w : World) (w0 : (Lit.int .u64 a0).wf = true) (w1 : (Lit.int .u32 a1).wf = true) :
    Calls Try.prog 6 #[.int .u64 a0, .int .u32 a1] w fun e w' => e = .returned (.bool true) ∧ Below w.heap.size w w' := by
  obtain ⟨k, h⟩ := P a0 a1 w0 w1
  refine (broughamlaw04_SerialWide.calls k a0 a1 true w h).mono ?_
  rintro e w' ⟨rfl, hd⟩
  exact ⟨rfl, hd.below⟩

end Go.Proofs.Ytjmebloeodcoaaa.PSerialWide
