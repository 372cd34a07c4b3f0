/- What functions of this text leave, in plain numbers: proved for another text, and for this one by the same steps. Conditions: none. -/
import Derived.Test.YtjoibacjpapncaaF30
import Derived.Test.YtjoibacjpapncaaZedPb
namespace Go.Proofs.YtjoibacjpapncaaF30
open Go Zed
set_option linter.unusedVariables false
set_option linter.unusedSimpArgs false

def st (x c : Int) : Int := (x * 256 + c) % 18446744073709551616
def num (l : List Int) : Int := l.foldl st 0
def go (b : List Int) : List Int → Option (List Int × List Int)
  | [] => some ([], b)
  | s :: r => if 1 ≤ s ∧ s ≤ 8 ∧ s ≤ b.length then (go (b.drop s.toNat) r).map fun p => (num (b.take s.toNat) :: p.1, p.2) else none
/-- What both leave. -/
def left (out : List Int) : Option (List Int × List Int) → (List Int × List Int × Bool) ⊕ (List Int × List Int)
  | none => .inl ([], [], false)
  | some p => .inr (p.2, out ++ p.1)

theorem left_map (out : List Int) (x : Int) (o : Option (List Int × List Int)) : left (out ++ [x]) o = left out (o.map fun p => (x :: p.1, p.2)) := by
  cases o <;> simp [left]

def ans (o : Option (List Int × List Int)) : List Int × List Int × Bool := match o with
  | none => ([], [], false)
  | some p => (p.1, p.2, true)

theorem go_len : ∀ (l b : List Int) (p : List Int × List Int), go b l = some p → p.2.length ≤ b.length ∧ p.1.length = l.length
  | [], b, p, h => by simp [go] at h; subst h; simp
  | s :: r, b, p, h => by
    simp only [go] at h
    split at h
    · obtain ⟨q, h1, rfl⟩ := Option.map_eq_some_iff.1 h
      have := go_len r _ q h1
      simp at this ⊢; omega
    · cases h

/-- The lowest bytes of a number, the highest first. -/
def be : Nat → Int → List Int
  | 0, _ => []
  | s + 1, v => be s (v / 256) ++ [v % 256]
theorem be_len : ∀ (s : Nat) (v : Int), (be s v).length = s
  | 0, _ => rfl
  | s + 1, v => by simp [be, be_len s]
theorem be_cons : ∀ (s : Nat) (v : Int), be (s + 1) v = (v / 256 ^ s % 256) :: be s v
  | 0, v => by simp [be]
  | s + 1, v => by
    rw [be, be_cons s (v / 256)]
    have : v / 256 / 256 ^ s = v / 256 ^ (s + 1) := by
      rw [Int.ediv_ediv_of_nonneg (by decide), Int.pow_succ, Int.mul_comm]
    rw [this]
    rfl
def fieldB (f : Int × Int) : List Int := if 1 ≤ f.1 ∧ f.1 ≤ 8 then be f.1.toNat f.2 else []
def enc (l : List (Int × Int)) : List Int := l.flatMap fieldB
theorem fieldB_len (f : Int × Int) : (fieldB f).length ≤ 8 := by
  unfold fieldB; split
  · rw [be_len]; omega
  · simp
theorem enc_len (l : List (Int × Int)) : (enc l).length ≤ 8 * l.length := by
  induction l with
  | nil => simp [enc]
  | cons f l ih => simp only [enc, List.flatMap_cons, List.length_append, List.length_cons] at ih ⊢; have := fieldB_len f; omega
theorem pow256 (s : Nat) : (2 : Int) ^ (8 * s) = 256 ^ s := by rw [Int.pow_mul]; rfl

theorem puts1 (t11 : List (Int × Int)) (t12 t13 f0 v : Int) (hv : 0 ≤ v) : ∀ (s : Nat) (out : List Int), s ≤ 8 → out.length + s ≤ 10000 →
    Ev (fun n => f78_pack_Put_L7 n out ((s : Int) - 1) t11 t12 t13 f0 v) (fun r => r = (out ++ be s v, t11, t12, t13))
  | 0, out, hs, hl => by
    apply Ev.succ
    simp only [f78_pack_Put_L7]
    exact Ev.neg (by simp) (Ev.some (by simp [be]))
  | s + 1, out, hs, hl => by
    apply Ev.succ
    simp only [f78_pack_Put_L7]
    have e : ((s + 1 : Nat) : Int) - 1 = s := by omega
    rw [e, i64_id (show -9223372036854775808 ≤ 8 * (s : Int) by omega) (by omega), i64_id (show -9223372036854775808 ≤ (s : Int) - 1 by omega) (by omega)]
    have e2 : min (8 * (s : Int)).toNat (IntKind.bits .u64) = 8 * s := by simp [IntKind.bits]; omega
    have e3 : IntKind.wrap .u8 (Int.fdiv v (2 ^ (8 * s))) = v / 256 ^ s % 256 := by rw [pow256, fdiv_e (Int.pow_nonneg (by decide)), w_u8]
    rw [e2, e3]
    refine Ev.pos (by simp) (Ev.guard (by omega) (Ev.guard (by simp [maxLen]; omega) ?_))
    refine (puts1 t11 t12 t13 f0 v hv s _ (by omega) (by simp; omega)).mono ?_
    rintro _ rfl
    rw [be_cons]; simp

theorem puts (l : List (Int × Int)) (hl : l.length ≤ 200) (hv : ∀ f ∈ l, 0 ≤ f.2) : ∀ (k i : Nat) (out : List Int), i + k = l.length → out.length ≤ 5000 + 8 * i →
    Ev (fun n => f78_pack_Put_L3 n out l ((l.length : Nat) : Int) i) (fun r => r = out ++ enc (l.drop i))
  | 0, i, out, h, ho => by
    apply Ev.succ
    simp only [f78_pack_Put_L3]
    exact Ev.neg (by simp; omega) (Ev.some (by rw [List.drop_eq_nil_of_le (by omega)]; simp [enc]))
  | k + 1, i, out, h, ho => by
    apply Ev.succ
    simp only [f78_pack_Put_L3]
    have hi : i < l.length := by omega
    have hf := hv _ (getD_mem hi (0, 0))
    rw [drop_cons hi (0, 0), Int.toNat_natCast]
    generalize l.getD i (0, 0) = f at hf
    obtain ⟨s, v⟩ := f
    dsimp only at hf ⊢
    have hfl := fieldB_len (s, v)
    have ih := fun (out' : List Int) ho' => puts l hl hv k (i + 1) out' (by omega) ho'
    have e : enc ((s, v) :: l.drop (i + 1)) = fieldB (s, v) ++ enc (l.drop (i + 1)) := by simp [enc]
    rw [e, i64_id (show -9223372036854775808 ≤ (i : Int) + 1 by omega) (by omega), show (i : Int) + 1 = ((i + 1 : Nat) : Int) by omega]
    refine Ev.pos (by simp; omega) (Ev.guard (by omega) (Ev.ite (fun h1 => ?_) (fun h1 => Ev.ite (fun h2 => ?_) (fun h2 => ?_))))
    · simp only [decide_eq_true_eq] at h1
      refine (ih out (by omega)).mono ?_
      rintro _ rfl
      rw [fieldB, if_neg (by simp; omega)]; rfl
    · simp only [decide_eq_true_eq] at h1 h2
      refine (ih out (by omega)).mono ?_
      rintro _ rfl
      rw [fieldB, if_neg (by simp; omega)]; rfl
    · simp only [decide_eq_true_eq] at h1 h2
      have := puts1 l ((l.length : Nat) : Int) i s v hf s.toNat out (by omega) (by omega)
      rw [show ((s.toNat : Nat) : Int) = s by omega] at this
      rw [i64_id (show -9223372036854775808 ≤ s - 1 by omega) (by omega)]
      refine Ev.bind this ?_
      rintro _ rfl
      dsimp only
      have e4 : fieldB (s, v) = be s.toNat v := by rw [fieldB, if_pos (by simp; omega)]
      rw [i64_id (show -9223372036854775808 ≤ (i : Int) + 1 by omega) (by omega), show (i : Int) + 1 = ((i + 1 : Nat) : Int) by omega]
      refine (ih (out ++ be s.toNat v) (by rw [List.length_append, be_len]; omega)).mono ?_
      rintro _ rfl
      rw [e4, List.append_assoc]

theorem put_is (b : List Int) (l : List (Int × Int)) (hb : b.length ≤ 4096) (hl : l.length ≤ 200) (hv : ∀ f ∈ l, 0 ≤ f.2) : Ev (fun n => f78_pack_Put n b l) (fun r => r = b ++ enc l) := by
  simp only [f78_pack_Put]
  refine Ev.guard (by simp [maxLen]; omega) (Ev.bind (puts l hl hv l.length 0 b (by omega) (by omega)) ?_)
  rintro _ rfl
  exact Ev.some rfl
end Go.Proofs.YtjoibacjpapncaaF30
