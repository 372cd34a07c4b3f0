-- PRINTED BY print.sh 35421559b90ae4d0a3588c463048766b98c2df88dd9212a6774a882060cdf62d: not written by this session
import Derived.Test.YtjmebloeodcoaaaPSerialOrdersx0
import Derived.Test.YtjmebloeodcoaaaPSerialOrdersx1
namespace Go.Proofs.Ytjmebloeodcoaaa.PSerialOrders
open Go.RowKit Go.Proofs.YtjmebloeodcoaaaW.PrintWords Go.Proofs.YtjmebloeodcoaaaW.PrintLast Go.Proofs.YtjmebloeodcoaaaW.PrintMore
attribute [local go_sem] max2_int min2_int max_two min_two max_three min_three max_four min_four   -- for this text's walks alone
set_option linter.unusedVariables false
set_option linter.unusedSimpArgs false

/-! ### broughamlaw04_SerialOrders: function 11 -/
mutual
def broughamlaw04_SerialOrders.j0 : Nat → Int → Int → Int → Int → Int → Option (Bool)
  | 0, _, _, _, _, _ => none
  | k + 1, x0, x1, x2, x7, x8 => (broughamref04_Within.f x0 x1 x2).bind fun t116 => (if t116 = true then (broughamlaw04_SerialOrders.j1 k x0 x1 x2 x7 x8 true) else ((broughamref04_Within.f x1 x0 x2).bind fun t117 => (broughamlaw04_SerialOrders.j1 k x0 x1 x2 x7 x8 t117)))
def broughamlaw04_SerialOrders.j1 : Nat → Int → Int → Int → Int → Int → Bool → Option (Bool)
  | 0, _, _, _, _, _, _ => none
  | k + 1, x0, x1, x2, x7, x8, x9 => (serial_Diff.f x0 x1).bind fun t118 => (if t118 = x7 then ((serial_Less.f x0 x1).bind fun t119 => (if (t119 == (decide (x7 < 0))) = true then ((serial_Max.f x0 x1).bind fun t120 => (if t120 = x8 then ((serial_Within.f x0 x1 x2).bind fun t121 => ((broughamref04_Within.f x0 x1 x2).bind fun t122 => (if (t121 == t122) = true then ((serial_Near.f x0 x1 x2).bind fun t123 => (if (t123 == x9) = true then ((serial_Between.f x0 x1 x2).bind fun t124 => ((broughamref04_Between.f x0 x1 x2).bind fun t125 => (if (t124 == t125) = true then ((broughamlaw04_alive.f k).bind fun t126 => (some t126)) else (some false)))) else (some false))) else (some false)))) else (some false))) else (some false))) else (some false))
end
def broughamlaw04_SerialOrders.f (k : Nat) (a0 : Int) (a1 : Int) (a2 : Int) : Option (Bool) := (broughamref04_Diff.f a0 a1).bind fun t115 => (if t115 < 0 then (broughamlaw04_SerialOrders.j0 k a0 a1 a2 t115 a1) else (broughamlaw04_SerialOrders.j0 k a0 a1 a2 t115 a0))
theorem broughamlaw04_SerialOrders.mono_l : ∀ k, (∀ y0 y1 y2 y3 y4, LeO (broughamlaw04_SerialOrders.j0 k y0 y1 y2 y3 y4) (broughamlaw04_SerialOrders.j0 (k + 1) y0 y1 y2 y3 y4)) ∧ (∀ y0 y1 y2 y3 y4 y5, LeO (broughamlaw04_SerialOrders.j1 k y0 y1 y2 y3 y4 y5) (broughamlaw04_SerialOrders.j1 (k + 1) y0 y1 y2 y3 y4 y5))
  | 0 => ⟨fun _ _ _ _ _ r h => by simp [broughamlaw04_SerialOrders.j0] at h, fun _ _ _ _ _ _ r h => by simp [broughamlaw04_SerialOrders.j1] at h⟩
  | k + 1 => by
    obtain ⟨ih0, ih1⟩ := broughamlaw04_SerialOrders.mono_l k
    refine ⟨?_, ?_⟩
    · intro y0 y1 y2 y3 y4
      unfold broughamlaw04_SerialOrders.j0
      repeat' first
      | (with_reducible exact ih0 _ _ _ _ _)
      | (with_reducible exact ih1 _ _ _ _ _ _)
      | (with_reducible exact broughamlaw04_alive.mono _)
      | (with_reducible exact LeO.refl _)
      | (with_reducible exact LeO.none _)
      | (with_reducible refine LeO.ite ?_ ?_)
      | (with_reducible refine LeO.bind ?_ (fun _ => ?_))
      | exact ih0 _ _ _ _ _
      | exact ih1 _ _ _ _ _ _
      | exact broughamlaw04_alive.mono _
      | exact LeO.none _
      | refine LeO.ite ?_ ?_
      | refine LeO.bind ?_ (fun _ => ?_)
    · intro y0 y1 y2 y3 y4 y5
      unfold broughamlaw04_SerialOrders.j1
      repeat' first
      | (with_reducible exact ih0 _ _ _ _ _)
      | (with_reducible exact ih1 _ _ _ _ _ _)
      | (with_reducible exact broughamlaw04_alive.mono _)
      | (with_reducible exact LeO.refl _)
      | (with_reducible exact LeO.none _)
      | (with_reducible refine LeO.ite ?_ ?_)
      | (with_reducible refine LeO.bind ?_ (fun _ => ?_))
      | exact ih0 _ _ _ _ _
      | exact ih1 _ _ _ _ _ _
      | exact broughamlaw04_alive.mono _
      | exact LeO.none _
      | refine LeO.ite ?_ ?_
      | refine LeO.bind ?_ (fun _ => ?_)
theorem broughamlaw04_SerialOrders.mono : ∀ a0 a1 a2 k, LeO (broughamlaw04_SerialOrders.f k a0 a1 a2) (broughamlaw04_SerialOrders.f (k + 1) a0 a1 a2) := by
  intro a0 a1 a2 k
  obtain ⟨ih0, ih1⟩ := broughamlaw04_SerialOrders.mono_l k
  unfold broughamlaw04_SerialOrders.f
  repeat' first
      | (with_reducible exact ih0 _ _ _ _ _)
      | (with_reducible exact ih1 _ _ _ _ _ _)
      | (with_reducible exact broughamlaw04_alive.mono _)
      | (with_reducible exact LeO.refl _)
      | (with_reducible exact LeO.none _)
      | (with_reducible refine LeO.ite ?_ ?_)
      | (with_reducible refine LeO.bind ?_ (fun _ => ?_))
      | exact ih0 _ _ _ _ _
      | exact ih1 _ _ _ _ _ _
      | exact broughamlaw04_alive.mono _
      | exact LeO.none _
      | refine LeO.ite ?_ ?_
      | refine LeO.bind ?_ (fun _ => ?_)
set_option maxHeartbeats 8000000 in
set_option maxRecDepth 100000 in
theorem broughamlaw04_SerialOrders.calls (k : Nat) (a0 : Int) (a1 : Int) (a2 : Int) (r : Bool) (w : World) (h : broughamlaw04_SerialOrders.f k a0 a1 a2 = some r) :
    Calls Try.prog 11 #[.int .u32 a0, .int .u32 a1, .int .u32 a2] w fun e w' => e = .returned (.bool r) ∧ Drawn0 w w' := by
  have H : ((broughamref04_Diff.f a0 a1).bind fun t115 => (if t115 < 0 then (broughamlaw04_SerialOrders.j0 k a0 a1 a2 t115 a1) else (broughamlaw04_SerialOrders.j0 k a0 a1 a2 t115 a0))) = some r := h
  clear h
  replace H := Option.bind_eq_some_iff.mp H
  obtain ⟨t115, A40, H⟩ := H
  replace H : (if t115 < 0 then (broughamlaw04_SerialOrders.j0 k a0 a1 a2 t115 a1) else (broughamlaw04_SerialOrders.j0 k a0 a1 a2 t115 a0)) = some r := H
  have A4 := Aside0.mk A40
  clear A40
  have HC5 := Aside0.mk H
  clear H
  go_enter Try.func11, Try.ntmps11
  go_upto_if 15 with (first | ((with_reducible refine gate_callee (f := 42) rfl ?_); refine goesL_ (some 12) rfl rfl Try.func42 (by kernel_rfl) rfl #[.int .u32 a0, .int .u32 a1] rfl (by (try simp only [List.map_toArray, List.map_cons, List.map_nil]); first | done | rfl | (simp only [List.length_drop, List.length_take]; rfl)) ?_; (with_reducible refine (broughamref04_Diff.calls a0 a1 t115 _ A4.out).mono ?_); rintro e w' ⟨rfl, ⟨nd, rfl⟩⟩; refine ⟨_, rfl, ?_⟩))
  (try simp only [Act.put, List.setIfInBounds_toArray, List.set_cons_zero, List.set_cons_succ])
  go_cut [8] (fun v8 wc => ∃ (kq : Nat) (x8_4 : Int), v8 = .int .u32 x8_4 ∧ Aside0 (broughamlaw04_SerialOrders.j0 kq a0 a1 a2 t115 x8_4 = some r) ∧ Aside0 (kq ≤ k) ∧ Drawn0 w wc)
  case first =>
    have H := HC5.out
    clear HC5
    by_cases c6 : t115 < 0
    · rw [if_pos c6] at H
      have c6b0 : decide (t115 < 0) = true := decide_eq_true c6
      clear c6
      (first | rw [c6b0] | (simp only [i64_w, i32_w]; rw [c6b0]) | skip)
      have H' := Aside0.mk H
      clear H
      go_wp2
      go_meet
      case rel => exact ⟨_, (a1), (by first | rfl | (simp; done) | (simp [*]; done)), H', ⟨by first | omega | exact Nat.le_refl _⟩, by repeat (first | exact Drawn0.refl _ | apply Drawn0.step)⟩
    · rw [if_neg c6] at H
      have c6b0 : decide (t115 < 0) = false := decide_eq_false c6
      clear c6
      (first | rw [c6b0] | (simp only [i64_w, i32_w]; rw [c6b0]) | skip)
      have H' := Aside0.mk H
      clear H
      go_wp2
      go_meet
      case rel => exact ⟨_, (a0), (by first | rfl | (simp; done) | (simp [*]; done)), H', ⟨by first | omega | exact Nat.le_refl _⟩, by repeat (first | exact Drawn0.refl _ | apply Drawn0.step)⟩
  case rest =>
    clear HC5
    try clear c1
    try clear p2
    try clear c4
    try clear c6
    try clear c6b0
    obtain ⟨kq, x8_4, rfl, HA, HJ4, ⟨mc4, rfl⟩⟩ := hcut
    cases kq with
    | zero => exact absurd HA.out (by simp [broughamlaw04_SerialOrders.j0])
    | succ kj4 =>
      have H := HA.out
      clear HA
      simp only [broughamlaw04_SerialOrders.j0] at H
      have HC7 := Aside0.mk H
      clear H
      go_upto_region 5 with (fail)
      go_cut [9] (fun v9 wc => ∃ (kq : Nat) (x9_6 : Bool), v9 = .bool x9_6 ∧ Aside0 (broughamlaw04_SerialOrders.j1 kq a0 a1 a2 t115 x8_4 x9_6 = some r) ∧ Aside0 (kq ≤ kj4) ∧ Drawn0 w wc)
      case first =>
        have H := HC7.out
        clear HC7
        replace H := Option.bind_eq_some_iff.mp H
        obtain ⟨t116, A80, H⟩ := H
        replace H : (if t116 = true then (broughamlaw04_SerialOrders.j1 kj4 a0 a1 a2 t115 x8_4 true) else ((broughamref04_Within.f a1 a0 a2).bind fun t117 => (broughamlaw04_SerialOrders.j1 kj4 a0 a1 a2 t115 x8_4 t117))) = some r := H
        have A8 := Aside0.mk A80
        clear A80
        by_cases c9 : t116 = true
        · subst c9
          have H1 : (broughamlaw04_SerialOrders.j1 kj4 a0 a1 a2 t115 x8_4 true) = some r := by rw [if_pos rfl] at H; exact H
          clear H
          have H := H1
          clear H1
          have H' := Aside0.mk H
          clear H
          go_wp2_with (first | ((with_reducible refine gate_callee (f := 43) rfl ?_); refine goesL_ (some 20) rfl rfl Try.func43 (by kernel_rfl) rfl #[.int .u32 a0, .int .u32 a1, .int .u32 a2] rfl (by (try simp only [List.map_toArray, List.map_cons, List.map_nil]); first | done | rfl | (simp only [List.length_drop, List.length_take]; rfl)) ?_; (with_reducible refine (broughamref04_Within.calls a0 a1 a2 true _ A8.out).mono ?_); rintro e w' ⟨rfl, ⟨nd, rfl⟩⟩; refine ⟨_, rfl, ?_⟩))
          go_meet
          case rel => exact ⟨_, (true), (by first | rfl | (simp; done) | (simp [*]; done)), H', ⟨by have := HJ4.out; first | omega | exact Nat.le_refl _⟩, by repeat (first | exact Drawn0.refl _ | apply Drawn0.step)⟩
        · replace c9 := Bool.eq_false_iff.mpr c9
          subst c9
          have H1 : ((broughamref04_Within.f a1 a0 a2).bind fun t117 => (broughamlaw04_SerialOrders.j1 kj4 a0 a1 a2 t115 x8_4 t117)) = some r := by rw [if_neg (show ¬ (false = true) by decide)] at H; exact H
          clear H
          have H := H1
          clear H1
          replace H := Option.bind_eq_some_iff.mp H
          obtain ⟨t117, A100, H⟩ := H
          replace H : (broughamlaw04_SerialOrders.j1 kj4 a0 a1 a2 t115 x8_4 t117) = some r := H
          have A10 := Aside0.mk A100
          clear A100
          have H' := Aside0.mk H
          clear H
          go_wp2_with (first | ((with_reducible refine gate_callee (f := 43) rfl ?_); refine goesL_ (some 20) rfl rfl Try.func43 (by kernel_rfl) rfl #[.int .u32 a0, .int .u32 a1, .int .u32 a2] rfl (by (try simp only [List.map_toArray, List.map_cons, List.map_nil]); first | done | rfl | (simp only [List.length_drop, List.length_take]; rfl)) ?_; (with_reducible refine (broughamref04_Within.calls a0 a1 a2 false _ A8.out).mono ?_); rintro e w' ⟨rfl, ⟨nd, rfl⟩⟩; refine ⟨_, rfl, ?_⟩) | (go_at_call 43; (with_reducible refine (broughamref04_Within.calls a1 a0 a2 t117 _ A10.out).mono ?_); rintro e w' ⟨rfl, ⟨nd, rfl⟩⟩))
          go_meet
          case rel => exact ⟨_, (t117), (by first | rfl | (simp; done) | (simp [*]; done)), H', ⟨by have := HJ4.out; first | omega | exact Nat.le_refl _⟩, by repeat (first | exact Drawn0.refl _ | apply Drawn0.step)⟩
      case rest =>
        clear HC7
        try clear c1
        try clear p2
        try clear c4
        try clear c6
        try clear c6b0
        try clear c9
        try clear p2
        obtain ⟨kq, x9_6, rfl, HA, HJ6, ⟨mc6, rfl⟩⟩ := hcut
        cases kq with
        | zero => exact absurd HA.out (by simp [broughamlaw04_SerialOrders.j1])
        | succ kj6 =>
          have H := HA.out
          clear HA
          simp only [broughamlaw04_SerialOrders.j1] at H
          replace H := Option.bind_eq_some_iff.mp H
          obtain ⟨t118, A110, H⟩ := H
          replace H : (if t118 = t115 then ((serial_Less.f a0 a1).bind fun t119 => (if (t119 == (decide (t115 < 0))) = true then ((serial_Max.f a0 a1).bind fun t120 => (if t120 = x8_4 then ((serial_Within.f a0 a1 a2).bind fun t121 => ((broughamref04_Within.f a0 a1 a2).bind fun t122 => (if (t121 == t122) = true then ((serial_Near.f a0 a1 a2).bind fun t123 => (if (t123 == x9_6) = true then ((serial_Between.f a0 a1 a2).bind fun t124 => ((broughamref04_Between.f a0 a1 a2).bind fun t125 => (if (t124 == t125) = true then ((broughamlaw04_alive.f kj6).bind fun t126 => (some t126)) else (some false)))) else (some false))) else (some false)))) else (some false))) else (some false))) else (some false)) = some r := H
          have A11 := Aside0.mk A110
          clear A110
          by_cases c12 : t118 = t115
          · rw [if_pos c12] at H
            have c12b0 : (t118 == t115) = true := beq_iff_eq.mpr c12
            have c12b1 : (t118 != t115) = false := bne_eq_false_iff_eq.mpr c12
            clear c12
            replace H := Option.bind_eq_some_iff.mp H
            obtain ⟨t119, A130, H⟩ := H
            replace H : (if (t119 == (decide (t115 < 0))) = true then ((serial_Max.f a0 a1).bind fun t120 => (if t120 = x8_4 then ((serial_Within.f a0 a1 a2).bind fun t121 => ((broughamref04_Within.f a0 a1 a2).bind fun t122 => (if (t121 == t122) = true then ((serial_Near.f a0 a1 a2).bind fun t123 => (if (t123 == x9_6) = true then ((serial_Between.f a0 a1 a2).bind fun t124 => ((broughamref04_Between.f a0 a1 a2).bind fun t125 => (if (t124 == t125) = true then ((broughamlaw04_alive.f kj6).bind fun t126 => (some t126)) else (some false)))) else (some false))) else (some false)))) else (some false))) else (some false)) = some r := H
            have A13 := Aside0.mk A130
            clear A130
            by_cases c14 : (t119 == (decide (t115 < 0))) = true
            · rw [if_pos c14] at H
              have c14b0 : (t119 == (decide (t115 < 0))) = true := c14
              (try (have c14b1 : decide (t119 = (decide (t115 < 0))) = true := by simpa using c14))
              (try (have c14b2 : (t119 == (decide (t115 < 0))) = true := by simpa using c14))
              clear c14
              replace H := Option.bind_eq_some_iff.mp H
              obtain ⟨t120, A150, H⟩ := H
              replace H : (if t120 = x8_4 then ((serial_Within.f a0 a1 a2).bind fun t121 => ((broughamref04_Within.f a0 a1 a2).bind fun t122 => (if (t121 == t122) = true then ((serial_Near.f a0 a1 a2).bind fun t123 => (if (t123 == x9_6) = true then ((serial_Between.f a0 a1 a2).bind fun t124 => ((broughamref04_Between.f a0 a1 a2).bind fun t125 => (if (t124 == t125) = true then ((broughamlaw04_alive.f kj6).bind fun t126 => (some t126)) else (some false)))) else (some false))) else (some false)))) else (some false)) = some r := H
              have A15 := Aside0.mk A150
              clear A150
              by_cases c16 : t120 = x8_4
              · rw [if_pos c16] at H
                have c16b0 : (t120 == x8_4) = true := beq_iff_eq.mpr c16
                have c16b1 : (t120 != x8_4) = false := bne_eq_false_iff_eq.mpr c16
                clear c16
                replace H := Option.bind_eq_some_iff.mp H
                obtain ⟨t121, A170, H⟩ := H
                replace H : ((broughamref04_Within.f a0 a1 a2).bind fun t122 => (if (t121 == t122) = true then ((serial_Near.f a0 a1 a2).bind fun t123 => (if (t123 == x9_6) = true then ((serial_Between.f a0 a1 a2).bind fun t124 => ((broughamref04_Between.f a0 a1 a2).bind fun t125 => (if (t124 == t125) = true then ((broughamlaw04_alive.f kj6).bind fun t126 => (some t126)) else (some false)))) else (some false))) else (some false))) = some r := H
                have A17 := Aside0.mk A170
                clear A170
                replace H := Option.bind_eq_some_iff.mp H
                obtain ⟨t122, A180, H⟩ := H
                replace H : (if (t121 == t122) = true then ((serial_Near.f a0 a1 a2).bind fun t123 => (if (t123 == x9_6) = true then ((serial_Between.f a0 a1 a2).bind fun t124 => ((broughamref04_Between.f a0 a1 a2).bind fun t125 => (if (t124 == t125) = true then ((broughamlaw04_alive.f kj6).bind fun t126 => (some t126)) else (some false)))) else (some false))) else (some false)) = some r := H
                have A18 := Aside0.mk A180
                clear A180
                by_cases c19 : (t121 == t122) = true
                · rw [if_pos c19] at H
                  have c19b0 : (t121 == t122) = true := c19
                  (try (have c19b1 : decide (t121 = t122) = true := by simpa using c19))
                  (try (have c19b2 : (t121 == t122) = true := by simpa using c19))
                  clear c19
                  replace H := Option.bind_eq_some_iff.mp H
                  obtain ⟨t123, A200, H⟩ := H
                  replace H : (if (t123 == x9_6) = true then ((serial_Between.f a0 a1 a2).bind fun t124 => ((broughamref04_Between.f a0 a1 a2).bind fun t125 => (if (t124 == t125) = true then ((broughamlaw04_alive.f kj6).bind fun t126 => (some t126)) else (some false)))) else (some false)) = some r := H
                  have A20 := Aside0.mk A200
                  clear A200
                  by_cases c21 : (t123 == x9_6) = true
                  · rw [if_pos c21] at H
                    have c21b0 : (t123 == x9_6) = true := c21
                    (try (have c21b1 : decide (t123 = x9_6) = true := by simpa using c21))
                    (try (have c21b2 : (t123 == x9_6) = true := by simpa using c21))
                    clear c21
                    replace H := Option.bind_eq_some_iff.mp H
                    obtain ⟨t124, A220, H⟩ := H
                    replace H : ((broughamref04_Between.f a0 a1 a2).bind fun t125 => (if (t124 == t125) = true then ((broughamlaw04_alive.f kj6).bind fun t126 => (some t126)) else (some false))) = some r := H
                    have A22 := Aside0.mk A220
                    clear A220
                    replace H := Option.bind_eq_some_iff.mp H
                    obtain ⟨t125, A230, H⟩ := H
                    replace H : (if (t124 == t125) = true then ((broughamlaw04_alive.f kj6).bind fun t126 => (some t126)) else (some false)) = some r := H
                    have A23 := Aside0.mk A230
                    clear A230
                    by_cases c24 : (t124 == t125) = true
                    · rw [if_pos c24] at H
                      have c24b0 : (t124 == t125) = true := c24
                      (try (have c24b1 : decide (t124 = t125) = true := by simpa using c24))
                      (try (have c24b2 : (t124 == t125) = true := by simpa using c24))
                      clear c24
                      replace H := Option.bind_eq_some_iff.mp H
                      obtain ⟨t126, A250, H⟩ := H
                      replace H : (some t126) = some r := H
                      have A25 := Aside0.mk A250
                      clear A250
                      obtain rfl := Option.some.inj H
                      go_wp2_with (first | ((with_reducible refine gate_callee (f := 35) rfl ?_); refine goesL_ (some 29) rfl rfl Try.func35 (by kernel_rfl) rfl #[.int .u32 a0, .int .u32 a1] rfl (by (try simp only [List.map_toArray, List.map_cons, List.map_nil]); first | done | rfl | (simp only [List.length_drop, List.length_take]; rfl)) ?_; (with_reducible refine (serial_Diff.calls a0 a1 t118 _ A11.out).mono ?_); rintro e w' ⟨rfl, ⟨nd, rfl⟩⟩; refine ⟨_, rfl, ?_⟩) | (go_at_call 32; (with_reducible refine (serial_Less.calls a0 a1 t119 _ A13.out).mono ?_); rintro e w' ⟨rfl, ⟨nd, rfl⟩⟩) | (go_at_call 34; (with_reducible refine (serial_Max.calls a0 a1 t120 _ A15.out).mono ?_); rintro e w' ⟨rfl, ⟨nd, rfl⟩⟩) | (go_at_call 36; (with_reducible refine (serial_Within.calls a0 a1 a2 t121 _ A17.out).mono ?_); rintro e w' ⟨rfl, ⟨nd, rfl⟩⟩) | (go_at_call 43; (with_reducible refine (broughamref04_Within.calls a0 a1 a2 t122 _ A18.out).mono ?_); rintro e w' ⟨rfl, ⟨nd, rfl⟩⟩) | (go_at_call 44; (with_reducible refine (serial_Near.calls a0 a1 a2 t123 _ A20.out).mono ?_); rintro e w' ⟨rfl, ⟨nd, rfl⟩⟩) | (go_at_call 33; (with_reducible refine (serial_Between.calls a0 a1 a2 t124 _ A22.out).mono ?_); rintro e w' ⟨rfl, ⟨nd, rfl⟩⟩) | (go_at_call 45; (with_reducible refine (broughamref04_Between.calls a0 a1 a2 t125 _ A23.out).mono ?_); rintro e w' ⟨rfl, ⟨nd, rfl⟩⟩) | (go_at_call 31; (with_reducible refine (broughamlaw04_alive.calls kj6  t126 _ A25.out).mono ?_); rintro e w' ⟨rfl, ⟨nd, rfl⟩⟩))
                      go_ret
                      exact ⟨by first | rfl | (simp; done) | (simp [*]; done), by repeat (first | exact Drawn0.refl _ | apply Drawn0.step)⟩
                    · rw [if_neg c24] at H
                      have c24b0 : (t124 == t125) = false := by simpa using c24
                      (try (have c24b1 : decide (t124 = t125) = false := by simpa using c24))
                      (try (have c24b2 : (t124 == t125) = false := by simpa using c24))
                      (try (have c24b3 : ¬ (t124 = t125) := by simpa using c24))
                      clear c24
                      obtain rfl := Option.some.inj H
                      go_wp2_with (first | ((with_reducible refine gate_callee (f := 35) rfl ?_); refine goesL_ (some 29) rfl rfl Try.func35 (by kernel_rfl) rfl #[.int .u32 a0, .int .u32 a1] rfl (by (try simp only [List.map_toArray, List.map_cons, List.map_nil]); first | done | rfl | (simp only [List.length_drop, List.length_take]; rfl)) ?_; (with_reducible refine (serial_Diff.calls a0 a1 t118 _ A11.out).mono ?_); rintro e w' ⟨rfl, ⟨nd, rfl⟩⟩; refine ⟨_, rfl, ?_⟩) | (go_at_call 32; (with_reducible refine (serial_Less.calls a0 a1 t119 _ A13.out).mono ?_); rintro e w' ⟨rfl, ⟨nd, rfl⟩⟩) | (go_at_call 34; (with_reducible refine (serial_Max.calls a0 a1 t120 _ A15.out).mono ?_); rintro e w' ⟨rfl, ⟨nd, rfl⟩⟩) | (go_at_call 36; (with_reducible refine (serial_Within.calls a0 a1 a2 t121 _ A17.out).mono ?_); rintro e w' ⟨rfl, ⟨nd, rfl⟩⟩) | (go_at_call 43; (with_reducible refine (broughamref04_Within.calls a0 a1 a2 t122 _ A18.out).mono ?_); rintro e w' ⟨rfl, ⟨nd, rfl⟩⟩) | (go_at_call 44; (with_reducible refine (serial_Near.calls a0 a1 a2 t123 _ A20.out).mono ?_); rintro e w' ⟨rfl, ⟨nd, rfl⟩⟩) | (go_at_call 33; (with_reducible refine (serial_Between.calls a0 a1 a2 t124 _ A22.out).mono ?_); rintro e w' ⟨rfl, ⟨nd, rfl⟩⟩) | (go_at_call 45; (with_reducible refine (broughamref04_Between.calls a0 a1 a2 t125 _ A23.out).mono ?_); rintro e w' ⟨rfl, ⟨nd, rfl⟩⟩))
                      go_ret
                      exact ⟨by first | rfl | (simp; done) | (simp [*]; done), by repeat (first | exact Drawn0.refl _ | apply Drawn0.step)⟩
                  · rw [if_neg c21] at H
                    have c21b0 : (t123 == x9_6) = false := by simpa using c21
                    (try (have c21b1 : decide (t123 = x9_6) = false := by simpa using c21))
                    (try (have c21b2 : (t123 == x9_6) = false := by simpa using c21))
                    (try (have c21b3 : ¬ (t123 = x9_6) := by simpa using c21))
                    clear c21
                    obtain rfl := Option.some.inj H
                    go_wp2_with (first | ((with_reducible refine gate_callee (f := 35) rfl ?_); refine goesL_ (some 29) rfl rfl Try.func35 (by kernel_rfl) rfl #[.int .u32 a0, .int .u32 a1] rfl (by (try simp only [List.map_toArray, List.map_cons, List.map_nil]); first | done | rfl | (simp only [List.length_drop, List.length_take]; rfl)) ?_; (with_reducible refine (serial_Diff.calls a0 a1 t118 _ A11.out).mono ?_); rintro e w' ⟨rfl, ⟨nd, rfl⟩⟩; refine ⟨_, rfl, ?_⟩) | (go_at_call 32; (with_reducible refine (serial_Less.calls a0 a1 t119 _ A13.out).mono ?_); rintro e w' ⟨rfl, ⟨nd, rfl⟩⟩) | (go_at_call 34; (with_reducible refine (serial_Max.calls a0 a1 t120 _ A15.out).mono ?_); rintro e w' ⟨rfl, ⟨nd, rfl⟩⟩) | (go_at_call 36; (with_reducible refine (serial_Within.calls a0 a1 a2 t121 _ A17.out).mono ?_); rintro e w' ⟨rfl, ⟨nd, rfl⟩⟩) | (go_at_call 43; (with_reducible refine (broughamref04_Within.calls a0 a1 a2 t122 _ A18.out).mono ?_); rintro e w' ⟨rfl, ⟨nd, rfl⟩⟩) | (go_at_call 44; (with_reducible refine (serial_Near.calls a0 a1 a2 t123 _ A20.out).mono ?_); rintro e w' ⟨rfl, ⟨nd, rfl⟩⟩))
                    go_ret
                    exact ⟨by first | rfl | (simp; done) | (simp [*]; done), by repeat (first | exact Drawn0.refl _ | apply Drawn0.step)⟩
                · rw [if_neg c19] at H
                  have c19b0 : (t121 == t122) = false := by simpa using c19
                  (try (have c19b1 : decide (t121 = t122) = false := by simpa using c19))
                  (try (have c19b2 : (t121 == t122) = false := by simpa using c19))
                  (try (have c19b3 : ¬ (t121 = t122) := by simpa using c19))
                  clear c19
                  obtain rfl := Option.some.inj H
                  go_wp2_with (first | ((with_reducible refine gate_callee (f := 35) rfl ?_); refine goesL_ (some 29) rfl rfl Try.func35 (by kernel_rfl) rfl #[.int .u32 a0, .int .u32 a1] rfl (by (try simp only [List.map_toArray, List.map_cons, List.map_nil]); first | done | rfl | (simp only [List.length_drop, List.length_take]; rfl)) ?_; (with_reducible refine (serial_Diff.calls a0 a1 t118 _ A11.out).mono ?_); rintro e w' ⟨rfl, ⟨nd, rfl⟩⟩; refine ⟨_, rfl, ?_⟩) | (go_at_call 32; (with_reducible refine (serial_Less.calls a0 a1 t119 _ A13.out).mono ?_); rintro e w' ⟨rfl, ⟨nd, rfl⟩⟩) | (go_at_call 34; (with_reducible refine (serial_Max.calls a0 a1 t120 _ A15.out).mono ?_); rintro e w' ⟨rfl, ⟨nd, rfl⟩⟩) | (go_at_call 36; (with_reducible refine (serial_Within.calls a0 a1 a2 t121 _ A17.out).mono ?_); rintro e w' ⟨rfl, ⟨nd, rfl⟩⟩) | (go_at_call 43; (with_reducible refine (broughamref04_Within.calls a0 a1 a2 t122 _ A18.out).mono ?_); rintro e w' ⟨rfl, ⟨nd, rfl⟩⟩))
                  go_ret
                  exact ⟨by first | rfl | (simp; done) | (simp [*]; done), by repeat (first | exact Drawn0.refl _ | apply Drawn0.step)⟩
              · rw [if_neg c16] at H
                have c16b0 : (t120 == x8_4) = false := beq_eq_false_iff_ne.mpr c16
                have c16b1 : (t120 != x8_4) = true := bne_iff_ne.mpr c16
                obtain rfl := Option.some.inj H
                go_wp2_with (first | ((with_reducible refine gate_callee (f := 35) rfl ?_); refine goesL_ (some 29) rfl rfl Try.func35 (by kernel_rfl) rfl #[.int .u32 a0, .int .u32 a1] rfl (by (try simp only [List.map_toArray, List.map_cons, List.map_nil]); first | done | rfl | (simp only [List.length_drop, List.length_take]; rfl)) ?_; (with_reducible refine (serial_Diff.calls a0 a1 t118 _ A11.out).mono ?_); rintro e w' ⟨rfl, ⟨nd, rfl⟩⟩; refine ⟨_, rfl, ?_⟩) | (go_at_call 32; (with_reducible refine (serial_Less.calls a0 a1 t119 _ A13.out).mono ?_); rintro e w' ⟨rfl, ⟨nd, rfl⟩⟩) | (go_at_call 34; (with_reducible refine (serial_Max.calls a0 a1 t120 _ A15.out).mono ?_); rintro e w' ⟨rfl, ⟨nd, rfl⟩⟩))
                go_ret
                exact ⟨by first | rfl | (simp; done) | (simp [*]; done), by repeat (first | exact Drawn0.refl _ | apply Drawn0.step)⟩
            · rw [if_neg c14] at H
              have c14b0 : (t119 == (decide (t115 < 0))) = false := by simpa using c14
              (try (have c14b1 : decide (t119 = (decide (t115 < 0))) = false := by simpa using c14))
              (try (have c14b2 : (t119 == (decide (t115 < 0))) = false := by simpa using c14))
              (try (have c14b3 : ¬ (t119 = (decide (t115 < 0))) := by simpa using c14))
              clear c14
              obtain rfl := Option.some.inj H
              go_wp2_with (first | ((with_reducible refine gate_callee (f := 35) rfl ?_); refine goesL_ (some 29) rfl rfl Try.func35 (by kernel_rfl) rfl #[.int .u32 a0, .int .u32 a1] rfl (by (try simp only [List.map_toArray, List.map_cons, List.map_nil]); first | done | rfl | (simp only [List.length_drop, List.length_take]; rfl)) ?_; (with_reducible refine (serial_Diff.calls a0 a1 t118 _ A11.out).mono ?_); rintro e w' ⟨rfl, ⟨nd, rfl⟩⟩; refine ⟨_, rfl, ?_⟩) | (go_at_call 32; (with_reducible refine (serial_Less.calls a0 a1 t119 _ A13.out).mono ?_); rintro e w' ⟨rfl, ⟨nd, rfl⟩⟩))
              go_ret
              exact ⟨by first | rfl | (simp; done) | (simp [*]; done), by repeat (first | exact Drawn0.refl _ | apply Drawn0.step)⟩
          · rw [if_neg c12] at H
            have c12b0 : (t118 == t115) = false := beq_eq_false_iff_ne.mpr c12
            have c12b1 : (t118 != t115) = true := bne_iff_ne.mpr c12
            obtain rfl := Option.some.inj H
            go_wp2_with (first | ((with_reducible refine gate_callee (f := 35) rfl ?_); refine goesL_ (some 29) rfl rfl Try.func35 (by kernel_rfl) rfl #[.int .u32 a0, .int .u32 a1] rfl (by (try simp only [List.map_toArray, List.map_cons, List.map_nil]); first | done | rfl | (simp only [List.length_drop, List.length_take]; rfl)) ?_; (with_reducible refine (serial_Diff.calls a0 a1 t118 _ A11.out).mono ?_); rintro e w' ⟨rfl, ⟨nd, rfl⟩⟩; refine ⟨_, rfl, ?_⟩))
            go_ret
            exact ⟨by first | rfl | (simp; done) | (simp [*]; done), by repeat (first | exact Drawn0.refl _ | apply Drawn0.step)⟩

/-- THE ONE PURE STATEMENT of broughamlaw04_SerialOrders: yours. -/
def broughamlaw04_SerialOrders.Pure : Prop := ∀ (a0 : Int) (a1 : Int) (a2 : Int), (Lit.int .u32 a0).wf = true → (Lit.int .u32 a1).wf = true → (Lit.int .u32 a2).wf = true → ∃ k, broughamlaw04_SerialOrders.f k a0 a1 a2 = some true
theorem broughamlaw04_SerialOrders.walk (P : broughamlaw04_SerialOrders.Pure) (a0 : Int) (a1 : Int) (a2 : Int) (w : World) (w0 : (Lit.int .u32 a0).wf = true) (w1 : (Lit.int .u32 a1).wf = true) (w2 : (Lit.int .u32 a2).wf = true) :
    Calls Try.prog 11 #[.int .u32 a0, .int .u32 a1, .int .u32 a2] w fun e w' => e = .returned (.bool true) ∧ Below w.heap.size w w' := by
  obtain ⟨k, h⟩ := P a0 a1 a2 w0 w1 w2
  refine (broughamlaw04_SerialOrders.calls k a0 a1 a2 true w h).mono ?_
  rintro e w' ⟨rfl, hd⟩
  exact ⟨rfl, hd.below⟩

end Go.Proofs.Ytjmebloeodcoaaa.PSerialOrders
