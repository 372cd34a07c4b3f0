/- VarintWrites: the bytes of numbers, behind others, as the document says: of the functions that text F43 prints. Conditions: none. -/
import Derived.Test.YtjimlfjhhmdcdaaF43
import Derived.Test.YtjimlfjhhmdcdaaZedPb
namespace Go.Proofs.YtjimlfjhhmdcdaaF43
open Go Zed
set_option linter.unusedVariables false
set_option linter.unusedSimpArgs false

/-- A number's bytes. -/
def enc (x : Nat) : List Int := if x < 128 then [(x : Int)] else ((x % 128 + 128 : Nat) : Int) :: enc (x / 128)
termination_by x
theorem enc_low {x : Nat} (h : x < 128) : enc x = [(x : Int)] := by rw [enc, if_pos h]
theorem enc_high {x : Nat} (h : ¬ x < 128) : enc x = ((x % 128 + 128 : Nat) : Int) :: enc (x / 128) := by rw [enc, if_neg h]
theorem div_lt {x k : Nat} (h : x < 128 ^ (k + 1)) : x / 128 < 128 ^ k := by
  rw [Nat.pow_succ] at h
  exact Nat.div_lt_of_lt_mul (by rw [Nat.mul_comm]; exact h)
theorem enc_len : ∀ (k x : Nat), x < 128 ^ (k + 1) → 1 ≤ (enc x).length ∧ (enc x).length ≤ k + 1
  | 0, x, h => by rw [enc_low (by simpa using h)]; simp
  | k + 1, x, h => by
    by_cases hx : x < 128
    · rw [enc_low hx]; simp
    · rw [enc_high hx]
      have := enc_len k (x / 128) (div_lt h)
      simp; omega
theorem lt10 {x : Nat} (h : x < 18446744073709551616) : x < 128 ^ (9 + 1) := Nat.lt_of_lt_of_le h (by decide)
theorem enc_len10 {x : Nat} (h : x < 18446744073709551616) : 1 ≤ (enc x).length ∧ (enc x).length ≤ 10 := enc_len 9 x (lt10 h)

theorem refPut : ∀ (k x : Nat), x < 128 ^ (k + 1) → x < 18446744073709551616 → Ev (fun n => f20_broughamref43_Put n (x : Int)) (fun r => r = enc x)
  | 0, x, h, hx => by
    apply Ev.succ
    simp only [f20_broughamref43_Put]
    have h : x < 128 := by simpa using h
    rw [enc_low h]
    exact Ev.pos (by simp; omega) (Ev.some (by rw [u8_id (by omega) (by omega)]))
  | k + 1, x, h, hx => by
    apply Ev.succ
    simp only [f20_broughamref43_Put]
    refine Ev.ite (fun h1 => ?_) (fun h1 => ?_)
    · simp only [decide_eq_true_eq] at h1
      rw [enc_low (by omega)]
      exact Ev.some (by rw [u8_id (by omega) (by omega)])
    · simp only [decide_eq_true_eq] at h1
      rw [enc_high (by omega), tdiv_e (by omega), tmod_e (by omega), u64_id (by omega) (by omega), u64_id (by omega) (by omega), u8_id (by omega) (by omega)]
      have e : (x : Int) / 128 = ((x / 128 : Nat) : Int) := by omega
      rw [e]
      refine Ev.bind (refPut k (x / 128) (div_lt h) (by omega)) ?_
      rintro _ rfl
      have := enc_len10 (x := x / 128) (by omega)
      exact Ev.guard (by simp [maxLen]; omega) (Ev.some (by simp))

theorem size1 : ∀ (k x : Nat) (c : Int), x < 128 ^ (k + 1) → x < 18446744073709551616 → 0 ≤ c ∧ c ≤ 100 - k → Ev (fun n => f21_varint_Size_L2 n (x : Int) c) (fun r => r = c - 1 + ((enc x).length : Int))
  | 0, x, c, h, hx, hc => by
    apply Ev.succ
    simp only [f21_varint_Size_L2]
    have h : x < 128 := by simpa using h
    rw [enc_low h]
    exact Ev.neg (by simp; omega) (Ev.some (by simp))
  | k + 1, x, c, h, hx, hc => by
    apply Ev.succ
    simp only [f21_varint_Size_L2]
    refine Ev.ite (fun h1 => ?_) (fun h1 => ?_)
    · simp only [ge_iff_le, decide_eq_true_eq] at h1
      rw [enc_high (by omega), fdiv_e (by decide), i64_id (by omega) (by omega)]
      have e : (x : Int) / 2 ^ 7 = ((x / 128 : Nat) : Int) := by omega
      rw [e]
      refine (size1 k (x / 128) (c + 1) (div_lt h) (by omega) (by omega)).mono ?_
      rintro _ rfl
      simp; omega
    · simp only [ge_iff_le, decide_eq_true_eq] at h1
      rw [enc_low (by omega)]
      exact Ev.some (by simp)
theorem size_is (x : Nat) (hx : x < 18446744073709551616) : Ev (fun n => f21_varint_Size n (x : Int)) (fun r => r = ((enc x).length : Int)) := by
  simp only [f21_varint_Size]
  refine Ev.bind (size1 9 x 1 (lt10 hx) hx (by omega)) ?_
  rintro _ rfl
  exact Ev.some (by omega)

theorem put1 (t10 : List Int) (t11 t12 : Int) : ∀ (k x : Nat) (out : List Int), x < 128 ^ (k + 1) → x < 18446744073709551616 → out.length + k ≤ 100000 →
    Ev (fun n => f22_varint_Put_L5 n out (x : Int) t10 t11 t12) (fun r => ∃ p y, p ++ [y] = enc x ∧ 0 ≤ y ∧ y < 128 ∧ r = (out ++ p, y, t10, t11, t12))
  | 0, x, out, h, hx, ho => by
    apply Ev.succ
    simp only [f22_varint_Put_L5]
    have h : x < 128 := by simpa using h
    rw [enc_low h]
    exact Ev.neg (by simp; omega) (Ev.some ⟨[], x, rfl, by omega, by omega, by simp⟩)
  | k + 1, x, out, h, hx, ho => by
    apply Ev.succ
    simp only [f22_varint_Put_L5]
    refine Ev.ite (fun h1 => ?_) (fun h1 => ?_)
    · simp only [ge_iff_le, decide_eq_true_eq] at h1
      rw [enc_high (by omega), fdiv_e (by decide), w_u8, or_u8_128 (by omega)]
      have e : (x : Int) / 2 ^ 7 = ((x / 128 : Nat) : Int) := by omega
      rw [e]
      refine Ev.guard (by simp [maxLen]; omega) ((put1 t10 t11 t12 k (x / 128) _ (div_lt h) (by omega) (by simp; omega)).mono ?_)
      rintro _ ⟨p, y, h2, h3, h4, rfl⟩
      refine ⟨((x % 128 + 128 : Nat) : Int) :: p, y, by rw [← h2]; rfl, h3, h4, ?_⟩
      have : (x : Int) % 256 % 128 + 128 = ((x % 128 + 128 : Nat) : Int) := by omega
      rw [this]; simp
    · simp only [ge_iff_le, decide_eq_true_eq] at h1
      rw [enc_low (by omega)]
      exact Ev.some ⟨[], x, rfl, by omega, by omega, by simp⟩

def encs (l : List Int) : List Int := l.flatMap fun x => enc x.toNat
def U64 (l : List Int) : Prop := ∀ x ∈ l, 0 ≤ x ∧ x < 18446744073709551616

theorem puts (l : List Int) (hl : l.length ≤ 2000) (hv : U64 l) : ∀ (k i : Nat) (out : List Int), i + k = l.length → out.length ≤ 25000 + 10 * i →
    Ev (fun n => f22_varint_Put_L3 n out l ((l.length : Nat) : Int) i) (fun r => r = out ++ encs (l.drop i))
  | 0, i, out, h, ho => by
    apply Ev.succ
    simp only [f22_varint_Put_L3]
    exact Ev.neg (by simp; omega) (Ev.some (by rw [List.drop_eq_nil_of_le (by omega)]; simp [encs]))
  | k + 1, i, out, h, ho => by
    apply Ev.succ
    simp only [f22_varint_Put_L3]
    have hi : i < l.length := by omega
    have hf := hv _ (getD_mem hi 0)
    rw [drop_cons hi 0, Int.toNat_natCast]
    generalize l.getD i 0 = x at hf
    obtain ⟨x, rfl⟩ := Int.eq_ofNat_of_zero_le hf.1
    have hx : x < 18446744073709551616 := by omega
    have hxl := enc_len10 hx
    refine Ev.pos (by simp; omega) (Ev.guard (by omega) (Ev.bind (put1 l _ i 9 x out (lt10 hx) hx (by omega)) ?_))
    rintro _ ⟨p, y, h2, h3, h4, rfl⟩
    dsimp only
    have hp : p.length + 1 = (enc x).length := by rw [← h2]; simp
    rw [i64_id (show -9223372036854775808 ≤ (i : Int) + 1 by omega) (by omega), show (i : Int) + 1 = ((i + 1 : Nat) : Int) by omega, u8_id (by omega) (by omega)]
    refine Ev.guard (by simp [maxLen]; omega) ((puts l hl hv k (i + 1) _ (by omega) (by simp; omega)).mono ?_)
    rintro _ rfl
    simp [encs, ← h2]

theorem put_isB (b l : List Int) (hb : b.length ≤ 25000) (hl : l.length ≤ 2000) (hv : U64 l) : Ev (fun n => f22_varint_Put n b l) (fun r => r = b ++ encs l) := by
  simp only [f22_varint_Put]
  refine Ev.guard (by simp [maxLen]; omega) (Ev.bind (puts l hl hv l.length 0 b (by omega) (by omega)) ?_)
  rintro _ rfl
  exact Ev.some rfl

theorem put_is (b l : List Int) (hb : b.length ≤ 5000) (hl : l.length ≤ 300) (hv : U64 l) : Ev (fun n => f22_varint_Put n b l) (fun r => r = b ++ encs l) := put_isB b l (by omega) (by omega) hv

theorem writes (b l : List Int) (hl : l.length ≤ 300) (hv : U64 l) : ∀ (k i : Nat) (want : List Int), i + k = l.length → want.length ≤ 5000 + 10 * i →
    Ev (fun n => f4_broughamlaw43_VarintWrites_L5 n b l want i) (fun r => r = .inr (b, l, want ++ encs (l.drop i)))
  | 0, i, want, h, ho => by
    apply Ev.succ
    simp only [f4_broughamlaw43_VarintWrites_L5]
    exact Ev.neg (by simp; omega) (Ev.some (by rw [List.drop_eq_nil_of_le (by omega)]; simp [encs]))
  | k + 1, i, want, h, ho => by
    apply Ev.succ
    simp only [f4_broughamlaw43_VarintWrites_L5]
    have hi : i < l.length := by omega
    have hf := hv _ (getD_mem hi 0)
    rw [drop_cons hi 0, Int.toNat_natCast]
    generalize l.getD i 0 = x at hf
    obtain ⟨x, rfl⟩ := Int.eq_ofNat_of_zero_le hf.1
    have hx : x < 18446744073709551616 := by omega
    have hxl := enc_len10 hx
    refine Ev.pos (by simp; omega) (Ev.guard (by omega) (Ev.bind (refPut 9 x (lt10 hx) hx) ?_))
    rintro _ rfl
    refine Ev.guard (by omega) (Ev.bind (size_is x hx) ?_)
    rintro _ rfl
    rw [i64_id (show -9223372036854775808 ≤ (i : Int) + 1 by omega) (by omega), show (i : Int) + 1 = ((i + 1 : Nat) : Int) by omega]
    refine Ev.neg (by simp) (Ev.guard (by simp [maxLen]; omega) ((writes b l hl hv k (i + 1) _ (by omega) (by simp; omega)).mono ?_))
    rintro _ rfl
    simp [encs]

theorem alive_is : Ev (fun n => f23_broughamlaw43_alive n) (fun r => r = true) := by
  refine Ev.at 12 (fun m => ?_) rfl
  have h1 : f24_varint_Get (m + 12) [172, 2] = some (300, 2) := by kernel_rfl
  have h2 : f22_varint_Put (m + 12) [] [300] = some [172, 2] := by kernel_rfl
  have h3 : f62_varint_Fold (-1) = some 1 := by kernel_rfl
  have h4 : f61_varint_Unfold 1 = some (-1) := by kernel_rfl
  simp only [f23_broughamlaw43_alive, h1, h2, h3, h4, Option.bind_some, ByteArray.toList_eq, strOfNums_data]
  decide +kernel

theorem VarintWrites (b : List Int) (h0 : K.ok (.slice (.int .u8)) b) (l : List Int) (h1 : K.ok (.slice (.int .u64)) l) : ∃ n, f4_broughamlaw43_VarintWrites n b l = some true := by
  have hv : U64 l := fun x hx => ok_u64 (h1.2 x hx)
  apply Ev.true
  simp only [f4_broughamlaw43_VarintWrites]
  refine Ev.ite (fun _ => Ev.some rfl) fun a1 => Ev.ite (fun _ => Ev.some rfl) fun a2 => ?_
  simp only [decide_eq_true_eq] at a1 a2
  refine Ev.guard (by simp [maxLen]; omega) ?_
  rw [List.nil_append]
  refine Ev.bind (writes b l (by omega) hv l.length 0 b (by omega) (by omega)) ?_
  rintro _ rfl
  dsimp only
  refine Ev.bind (put_is b l (by omega) (by omega) hv) ?_
  rintro _ rfl
  rw [List.drop_zero]
  exact Ev.pos (by simp) (Ev.bind alive_is (fun r hr => Ev.some hr))
end Go.Proofs.YtjimlfjhhmdcdaaF43
