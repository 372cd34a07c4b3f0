/- KeysRoles: what one role sends under comes to the other one under the same key: of the functions that text F09 prints. Conditions: none. -/
import Derived.Test.YtdcnjkjgmagjmaaPureSip
namespace Go.Proofs.YtdcnjkjgmagjmaaF09
open Go Zed
set_option linter.unusedVariables false
set_option linter.unusedSimpArgs false

theorem pair1 (a b : Int) (l : List Int) (h : l.length ≤ 20000) : Ev (fun n => f79_sip_Pair n a b [l]) (fun r => r = (sum a b (1 :: l), sum a b (2 :: l))) :=
  (pair_is a b [l] (by simp) (fun x hx => by simp at hx; subst hx; exact h)).mono fun r hr => by rw [hr]; simp
theorem sum1 (a b : Int) (l : List Int) (h : l.length ≤ 20000) : Ev (fun n => f80_sip_Sum n a b [l]) (fun r => r = sum a b l) :=
  (sum_is a b [l] (by simp) (fun x hx => by simp at hx; subst hx; exact h)).mono fun r hr => by rw [hr]; simp

theorem session_is (a b : Int) : Ev (fun n => f44_keys_Session n a b) (fun r => r = (sum a b [1, 105, 100], sum a b [2, 105, 100], sum a b [1, 99, 108, 105, 101, 110, 116], sum a b [2, 99, 108, 105, 101, 110, 116], sum a b [1, 115, 101, 114, 118, 101, 114], sum a b [2, 115, 101, 114, 118, 101, 114], sum a b [1, 106, 111, 105, 110], sum a b [2, 106, 111, 105, 110], IntKind.wrap .u32 (sum a b [116, 111, 107, 101, 110]))) := by
  simp only [f44_keys_Session]
  refine Ev.bind (pair1 a b _ (by simp)) ?_
  rintro _ rfl
  refine Ev.bind (pair1 a b _ (by simp)) ?_
  rintro _ rfl
  refine Ev.bind (pair1 a b _ (by simp)) ?_
  rintro _ rfl
  refine Ev.bind (pair1 a b _ (by simp)) ?_
  rintro _ rfl
  refine Ev.bind (sum1 a b _ (by simp)) ?_
  rintro _ rfl
  exact Ev.some rfl

theorem alive_is : Ev (fun n => f43_broughamlaw09_alive n) (fun r => r = true) := by
  simp only [f43_broughamlaw09_alive]
  refine Ev.bind (session_is 1 2) ?_
  intro k hk
  simp only [f41_keys_Keys_Out, f42_keys_Keys_In, show ((1 : Int) == 1) = true by decide, show ((2 : Int) == 1) = false by decide, if_true, Bool.false_eq_true, if_false, Option.bind_some, beq_self_eq_true, Bool.and_self]
  have h1 : (!((k.2.2.1 == k.2.2.2.2.1) && (k.2.2.2.1 == k.2.2.2.2.2.1))) = true := by rw [hk]; decide +kernel
  refine Ev.pos h1 (Ev.bind (session_is 2 1) ?_)
  intro m hm
  refine Ev.some ?_
  rw [hk, hm]; decide +kernel

theorem KeysRoles (k : (Int × Int) × (Int × Int) × (Int × Int) × (Int × Int) × Int) (h0 : K.ok (.pair (.pair (.int .u64) (.int .u64)) (.pair (.pair (.int .u64) (.int .u64)) (.pair (.pair (.int .u64) (.int .u64)) (.pair (.pair (.int .u64) (.int .u64)) (.int .u32))))) k) (r : Int) (h1 : K.ok (.int .i64) r) :
    ∃ n, f10_broughamlaw09_KeysRoles n k.1.1 k.1.2 k.2.1.1 k.2.1.2 k.2.2.1.1 k.2.2.1.2 k.2.2.2.1.1 k.2.2.2.1.2 k.2.2.2.2 r = some true := by
  apply Ev.true
  have fin : Ev (fun n => (f43_broughamlaw09_alive n).bind fun r => some r) (fun r => r = true) := Ev.bind alive_is (fun r hr => Ev.some hr)
  simp only [f10_broughamlaw09_KeysRoles, f40_keys_Other, f41_keys_Keys_Out, f42_keys_Keys_In, bne]
  by_cases h1 : r = 1
  · subst h1
    simp only [show ((1 : Int) == 1) = true by decide, show ((2 : Int) == 1) = false by decide, if_true, Bool.false_eq_true, if_false, Option.bind_some, beq_self_eq_true, Bool.and_self, Bool.not_true]
    exact fin
  · have e1 : (r == 1) = false := by simpa using h1
    simp only [e1, show ((1 : Int) == 1) = true by decide, if_true, Bool.false_eq_true, if_false, Option.bind_some, beq_self_eq_true, Bool.and_self, Bool.not_false]
    by_cases h2 : r = 2
    · subst h2
      simp only [show ((2 : Int) == 2) = true by decide, if_true]
      exact fin
    · have e2 : (r == 2) = false := by simpa using h2
      have e2' : ((2 : Int) == r) = false := by simp; omega
      simp only [e2, e2', if_true, Bool.false_eq_true, if_false, Bool.not_false]
      exact fin
end Go.Proofs.YtdcnjkjgmagjmaaF09
