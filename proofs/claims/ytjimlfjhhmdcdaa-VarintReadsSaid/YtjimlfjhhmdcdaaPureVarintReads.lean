/- VarintReads: the numbers of any bytes, or that they are none, as the document says: of the functions that text F43 prints. Conditions: none. -/
import Derived.Test.YtjimlfjhhmdcdaaPureVarintWrites
namespace Go.Proofs.YtjimlfjhhmdcdaaF43
open Go Zed
set_option linter.unusedVariables false
set_option linter.unusedSimpArgs false

/-- The number that bytes say. -/
def val : List Int → Nat
  | [] => 0
  | c :: r => (c % 128).toNat + 128 * val r
theorem val_snoc : ∀ (l : List Int) (c : Int), val (l ++ [c]) = val l + 128 ^ l.length * (c % 128).toNat
  | [], c => by simp [val]
  | d :: l, c => by
    rw [List.cons_append, val, val_snoc l c, val, List.length_cons, Nat.pow_succ, Nat.mul_add]
    have : 128 * (128 ^ l.length * (c % 128).toNat) = 128 ^ l.length * 128 * (c % 128).toNat := by rw [Nat.mul_comm (128 ^ l.length) 128, Nat.mul_assoc]
    omega
theorem val_lt : ∀ (l : List Int), val l < 128 ^ l.length
  | [] => by simp [val]
  | c :: l => by
    have := val_lt l
    rw [val, List.length_cons, Nat.pow_succ]
    omega
theorem val_enc : ∀ (k x : Nat), x < 128 ^ (k + 1) → val (enc x) = x
  | 0, x, h => by
    have h : x < 128 := by simpa using h
    rw [enc_low h]; simp [val]; omega
  | k + 1, x, h => by
    by_cases hx : x < 128
    · rw [enc_low hx]; simp [val]; omega
    · rw [enc_high hx, val, val_enc k _ (div_lt h)]; omega
/-- Bytes that go on, and the last one, that does not. -/
def High (l : List Int) : Prop := ∀ x ∈ l, 128 ≤ x ∧ x < 256
theorem High.nil : High [] := fun x hx => by cases hx
theorem enc_shape : ∀ (k x : Nat), x < 128 ^ (k + 1) → ∃ l c, enc x = l ++ [c] ∧ High l ∧ 0 ≤ c ∧ c < 128 ∧ (l ≠ [] → c ≠ 0)
  | 0, x, h => by
    have h : x < 128 := by simpa using h
    exact ⟨[], x, enc_low h, High.nil, by omega, by omega, fun h => absurd rfl h⟩
  | k + 1, x, h => by
    by_cases hx : x < 128
    · exact ⟨[], x, enc_low hx, High.nil, by omega, by omega, fun h => absurd rfl h⟩
    · obtain ⟨l, c, h1, h2, h3, h4, h5⟩ := enc_shape k (x / 128) (div_lt h)
      refine ⟨((x % 128 + 128 : Nat) : Int) :: l, c, by rw [enc_high hx, h1]; rfl, ?_, h3, h4, fun _ hc => ?_⟩
      · intro y hy
        rcases List.mem_cons.1 hy with rfl | hy
        · omega
        · exact h2 y hy
      · by_cases hl : l = []
        · subst hl; subst hc
          have := val_enc k (x / 128) (div_lt h)
          rw [h1] at this
          simp [val] at this
          omega
        · exact h5 hl hc
theorem enc_val : ∀ (l : List Int) (c : Int), High l → 0 ≤ c ∧ c < 128 → (l ≠ [] → c ≠ 0) → enc (val (l ++ [c])) = l ++ [c]
  | [], c, h, hc, h0 => by
    have : val [c] = c.toNat := by simp [val]; omega
    rw [List.nil_append, this, enc_low (by omega)]; simp; omega
  | d :: l, c, h, hc, h0 => by
    have hd := h d List.mem_cons_self
    have hpos : 1 ≤ val (l ++ [c]) := by
      rw [val_snoc]
      have : 1 ≤ (c % 128).toNat := by have := h0 (by simp); omega
      have := Nat.mul_le_mul_left (128 ^ l.length) this
      have : 1 ≤ 128 ^ l.length := Nat.pow_pos (by decide)
      omega
    rw [List.cons_append, val, enc_high (by omega)]
    have e : ((d % 128).toNat + 128 * val (l ++ [c])) / 128 = val (l ++ [c]) := by omega
    rw [e, enc_val l c (fun x hx => h x (List.mem_cons_of_mem _ hx)) hc (fun hl => h0 (by simp))]
    have : (((((d % 128).toNat + 128 * val (l ++ [c])) % 128 + 128 : Nat)) : Int) = d := by omega
    rw [this]

/-- The bytes of the first number, if they end. -/
def grp : List Int → Option (List Int)
  | [] => none
  | c :: r => if c < 128 then some [c] else (grp r).map (c :: ·)
def dec (b : List Int) : Int × Int := match grp b with
  | none => (0, 0)
  | some l => if l.length ≤ 10 ∧ enc (val l % 18446744073709551616) = l then (((val l % 18446744073709551616 : Nat) : Int), (l.length : Int)) else (0, 0)

theorem grp_at : ∀ (l : List Int) (c : Int) (r : List Int), High l → c < 128 → grp (l ++ c :: r) = some (l ++ [c])
  | [], c, r, _, hc => by simp [grp, hc]
  | d :: l, c, r, h, hc => by
    have hd := h d List.mem_cons_self
    simp only [List.cons_append, grp]
    rw [if_neg (by omega), grp_at l c r (fun x hx => h x (List.mem_cons_of_mem _ hx)) hc]
    rfl
theorem grp_high : ∀ (l r m : List Int), High l → grp (l ++ r) = some m → l.length < m.length
  | [], r, m, _, h => by
    match r, h with
    | c :: r, h =>
      simp only [List.nil_append, grp] at h
      split at h
      · cases h; simp
      · obtain ⟨q, _, rfl⟩ := Option.map_eq_some_iff.1 h; simp
  | d :: l, r, m, h, hm => by
    have hd := h d List.mem_cons_self
    simp only [List.cons_append, grp] at hm
    rw [if_neg (by omega)] at hm
    obtain ⟨q, h1, rfl⟩ := Option.map_eq_some_iff.1 hm
    have := grp_high l r q (fun x hx => h x (List.mem_cons_of_mem _ hx)) h1
    simp; omega
theorem grp_none : ∀ (l : List Int), High l → grp l = none
  | [], _ => rfl
  | d :: l, h => by
    have hd := h d List.mem_cons_self
    simp only [grp]
    rw [if_neg (by omega), grp_none l (fun x hx => h x (List.mem_cons_of_mem _ hx))]
    rfl
/-- A number's end: whether it is one. -/
theorem dec_at (l : List Int) (c : Int) (r : List Int) (h : High l) (hc : 0 ≤ c ∧ c < 128) (hl : l.length ≤ 9) :
    dec (l ++ c :: r) = if (l.length = 9 → c ≤ 1) ∧ (l ≠ [] → c ≠ 0) then (((val l + 128 ^ l.length * c.toNat : Nat) : Int), (l.length : Int) + 1) else (0, 0) := by
  have hv := val_snoc l c
  rw [show c % 128 = c by omega] at hv
  have hlt := val_lt l
  have hp : (128 : Nat) ^ l.length ≤ 128 ^ 9 := Nat.pow_le_pow_right (by decide) hl
  unfold dec
  rw [grp_at l c r h hc.2]
  dsimp only
  by_cases hcan : (l.length = 9 → c ≤ 1) ∧ (l ≠ [] → c ≠ 0)
  · have hsm : val (l ++ [c]) < 18446744073709551616 := by
      by_cases h9 : l.length = 9
      · rw [hv, h9]
        rw [h9] at hlt
        have := hcan.1 h9
        have : (128 : Nat) ^ 9 = 9223372036854775808 := by decide
        have : c.toNat ≤ 1 := by omega
        have := Nat.mul_le_mul_left (128 ^ 9) this
        omega
      · have := val_lt (l ++ [c])
        have h2 : (128 : Nat) ^ (l ++ [c]).length ≤ 128 ^ 9 := Nat.pow_le_pow_right (by decide) (by simp; omega)
        have : (128 : Nat) ^ 9 = 9223372036854775808 := by decide
        omega
    rw [Nat.mod_eq_of_lt hsm, if_pos ⟨by simp; omega, enc_val l c h hc hcan.2⟩, if_pos hcan, hv]
    simp
  · rw [if_neg hcan, if_neg]
    rintro ⟨_, he⟩
    have hm : val (l ++ [c]) % 18446744073709551616 < 18446744073709551616 := Nat.mod_lt _ (by decide)
    have hback := val_enc 9 _ (lt10 hm)
    rw [he] at hback
    apply hcan
    refine ⟨fun h9 => ?_, fun hne hc0 => ?_⟩
    · rw [hv, h9] at hback
      have : (128 : Nat) ^ 9 = 9223372036854775808 := by decide
      rw [this] at hback
      omega
    · obtain ⟨l', c', h1, _, _, _, h5⟩ := enc_shape 9 _ (lt10 hm)
      rw [he] at h1
      obtain ⟨rfl, h2⟩ := List.append_inj' h1 rfl
      simp at h2
      subst h2
      exact h5 hne hc0

theorem dec_none (l r : List Int) (h : High l) (hl : 10 ≤ l.length ∨ r = []) : dec (l ++ r) = (0, 0) := by
  unfold dec
  rcases hl with hl | rfl
  · cases hg : grp (l ++ r) with
    | none => rfl
    | some m =>
      have := grp_high l r m h hg
      dsimp only
      rw [if_neg (by omega)]
  · rw [List.append_nil, grp_none l h]

theorem High.snoc {l : List Int} {c : Int} (h : High l) (hc : 128 ≤ c ∧ c < 256) : High (l ++ [c]) := fun x hx => by
  rcases List.mem_append.1 hx with h1 | h1
  · exact h x h1
  · simp at h1; omega

theorem pow128 (i : Nat) : (2 : Int) ^ (7 * i) = ((128 ^ i : Nat) : Int) := by rw [Int.pow_mul]; simp

/-- One step's number. -/
theorem join (l : List Int) (c : Int) (hl : l.length ≤ 9) (hc : 0 ≤ c ∧ c < 256) (h9 : l.length = 9 → c ≤ 1) :
    bits .or .u64 ((val l : Nat) : Int) (IntKind.wrap .u64 ((IntKind.wrap .u64 (bits .and .u8 c 127)) * 2 ^ (min (IntKind.wrap .i64 (7 * (l.length : Int))).toNat (IntKind.bits .u64)))) = ((val (l ++ [c]) : Nat) : Int) := by
  have hv := val_snoc l c
  have hlt := val_lt l
  rw [i64_id (by omega) (by omega), and_u8_127 hc, u64_id (show 0 ≤ c % 128 by omega) (by omega)]
  have e2 : min (7 * (l.length : Int)).toNat (IntKind.bits .u64) = 7 * l.length := by simp [IntKind.bits]; omega
  rw [e2, pow128]
  have hp : (128 : Nat) ^ l.length ≤ 128 ^ 9 := Nat.pow_le_pow_right (by decide) hl
  have h128 : (128 : Nat) ^ 9 = 9223372036854775808 := by decide
  obtain ⟨d, hd⟩ := Int.eq_ofNat_of_zero_le (show 0 ≤ c % 128 by omega)
  have hd' : (c % 128).toNat = d := by omega
  rw [hd'] at hv
  have hdl : d < 128 := by omega
  have hsm : 128 ^ l.length * d < 18446744073709551616 := by
    by_cases h : l.length = 9
    · have : d ≤ 1 := by have := h9 h; omega
      have := Nat.mul_le_mul_left (128 ^ l.length) this
      omega
    · have h1 : (128 : Nat) ^ l.length ≤ 128 ^ 8 := Nat.pow_le_pow_right (by decide) (by omega)
      have h2 : 128 ^ l.length * d ≤ 128 ^ 8 * 127 := Nat.mul_le_mul h1 (by omega)
      have : (128 : Nat) ^ 8 * 127 < 18446744073709551616 := by decide
      omega
  have e3 : (d : Int) * ((128 ^ l.length : Nat) : Int) = ((128 ^ l.length * d : Nat) : Int) := by rw [Nat.mul_comm]; simp
  have hpow : (2 : Nat) ^ (7 * l.length) = 128 ^ l.length := by rw [Nat.pow_mul]
  rw [hd, e3, u64_id (by omega) (by omega), hv]
  have := bits_join .u64 64 (by decide) wraps_u64 (7 * l.length) ((128 ^ l.length * d : Nat) : Int) ((val l : Nat) : Int) (by omega) (by rw [pow128]; exact_mod_cast Nat.mul_mod_right _ _) (by omega) (by omega) (by rw [pow128]; exact_mod_cast hlt) (by omega)
  have hcomm : bits .or .u64 ((val l : Nat) : Int) ((128 ^ l.length * d : Nat) : Int) = bits .or .u64 ((128 ^ l.length * d : Nat) : Int) ((val l : Nat) : Int) := by
    show IntKind.u64.wrap (((BitVec.ofInt 64 _) ||| (BitVec.ofInt 64 _)).toNat : Int) = IntKind.u64.wrap (((BitVec.ofInt 64 _) ||| (BitVec.ofInt 64 _)).toNat : Int)
    rw [BitVec.or_comm]
  rw [hcomm, this]
  omega

/-- What a search answers. -/
def out (p : Int × Int) (o : (Int × Int) ⊕ Unit) : Prop := o = .inl p ∨ (o = .inr () ∧ p = (0, 0))

theorem getLoop (b : List Int) (hb : Bytes b) (hbl : b.length ≤ 5000) : ∀ (k i : Nat), i + k = min 10 b.length → High (b.take i) →
    Ev (fun n => f24_varint_Get_L3 n b ((val (b.take i) : Nat) : Int) (if 10 < ((b.length : Nat) : Int) then 10 else ((b.length : Nat) : Int)) i) (out (dec b))
  | 0, i, h, hh => by
    apply Ev.succ
    simp only [f24_varint_Get_L3]
    refine Ev.neg (by simp; omega) (Ev.some (.inr ⟨rfl, ?_⟩))
    have := dec_none (b.take i) (b.drop i) hh (by simp; omega)
    rwa [List.take_append_drop] at this
  | k + 1, i, h, hh => by
    apply Ev.succ
    simp only [f24_varint_Get_L3]
    have hi : i < b.length := by omega
    have hc := hb.get i
    have hlen : (b.take i).length = i := by simp; omega
    have hsplit : b = b.take i ++ b.getD i 0 :: b.drop (i + 1) := by rw [← drop_cons hi 0, List.take_append_drop]
    have htake : b.take (i + 1) = b.take i ++ [b.getD i 0] := by
      rw [List.take_succ_eq_append_getElem hi]; simp [List.getD, List.getElem?_eq_getElem hi]
    have hne : b.take i ≠ [] ↔ i ≠ 0 := by
      rw [Ne, ← List.length_eq_zero_iff, hlen]
    have hat := dec_at (b.take i) (b.getD i 0) (b.drop (i + 1)) hh
    have hjoin := join (b.take i) (b.getD i 0) (by omega) hc
    rw [← hsplit, hlen] at hat
    simp only [hne] at hat
    rw [hlen] at hjoin
    rw [Int.toNat_natCast]
    have ih : 128 ≤ b.getD i 0 → Ev (fun n => f24_varint_Get_L3 n b ((val (b.take (i + 1)) : Nat) : Int) (if 10 < ((b.length : Nat) : Int) then 10 else ((b.length : Nat) : Int)) ((i + 1 : Nat) : Int)) (out (dec b)) :=
      fun h1 => getLoop b hb hbl k (i + 1) (by omega) (by rw [htake]; exact hh.snoc ⟨h1, hc.2⟩)
    rw [htake] at ih
    generalize b.getD i 0 = c at *
    have e1 : IntKind.wrap .i64 ((i : Int) + 1) = ((i + 1 : Nat) : Int) := by rw [i64_id (by omega) (by omega)]; omega
    have hval : c < 128 → val (b.take i ++ [c]) = val (b.take i) + 128 ^ i * c.toNat := fun h => by rw [val_snoc, hlen, show c % 128 = c by omega]
    -- the last part of each way
    have tail : (i = 9 → c ≤ 1) → (i ≠ 0 → c ≠ 0) → Ev (fun n => if (0 : Int) ≤ IntKind.wrap .i64 (7 * (i : Int)) then
          if (decide (c < 128)) = true then
            some (.inl ((bits .or .u64 ((val (b.take i) : Nat) : Int) (IntKind.wrap .u64 ((IntKind.wrap .u64 (bits .and .u8 c 127)) * 2 ^ (min (IntKind.wrap .i64 (7 * (i : Int))).toNat (IntKind.bits .u64))))), (IntKind.wrap .i64 ((i : Int) + 1))))
          else
            f24_varint_Get_L3 n b (bits .or .u64 ((val (b.take i) : Nat) : Int) (IntKind.wrap .u64 ((IntKind.wrap .u64 (bits .and .u8 c 127)) * 2 ^ (min (IntKind.wrap .i64 (7 * (i : Int))).toNat (IntKind.bits .u64))))) (if 10 < ((b.length : Nat) : Int) then 10 else ((b.length : Nat) : Int)) (IntKind.wrap .i64 ((i : Int) + 1))
          else none) (out (dec b)) := by
      intro q1 q2
      refine Ev.guard (by rw [i64_id (by omega) (by omega)]; omega) (Ev.ite (fun h2 => ?_) (fun h2 => ?_))
      · simp only [decide_eq_true_eq] at h2
        refine Ev.some (.inl ?_)
        rw [hjoin q1, e1, hat ⟨hc.1, h2⟩ (by omega), if_pos ⟨q1, q2⟩, hval h2]
        rfl
      · simp only [decide_eq_true_eq] at h2
        rw [hjoin q1, e1]
        exact ih (by omega)
    have tail2 : (i = 9 → c ≤ 1) → Ev (fun n => if (decide ((i : Int) > 0)) = true then
          if ((c : Int) == 0) = true then
            some (.inl (0, 0))
          else
            if (0 : Int) ≤ IntKind.wrap .i64 (7 * (i : Int)) then
            if (decide (c < 128)) = true then
              some (.inl ((bits .or .u64 ((val (b.take i) : Nat) : Int) (IntKind.wrap .u64 ((IntKind.wrap .u64 (bits .and .u8 c 127)) * 2 ^ (min (IntKind.wrap .i64 (7 * (i : Int))).toNat (IntKind.bits .u64))))), (IntKind.wrap .i64 ((i : Int) + 1))))
            else
              f24_varint_Get_L3 n b (bits .or .u64 ((val (b.take i) : Nat) : Int) (IntKind.wrap .u64 ((IntKind.wrap .u64 (bits .and .u8 c 127)) * 2 ^ (min (IntKind.wrap .i64 (7 * (i : Int))).toNat (IntKind.bits .u64))))) (if 10 < ((b.length : Nat) : Int) then 10 else ((b.length : Nat) : Int)) (IntKind.wrap .i64 ((i : Int) + 1))
            else none
        else
          if (0 : Int) ≤ IntKind.wrap .i64 (7 * (i : Int)) then
          if (decide (c < 128)) = true then
            some (.inl ((bits .or .u64 ((val (b.take i) : Nat) : Int) (IntKind.wrap .u64 ((IntKind.wrap .u64 (bits .and .u8 c 127)) * 2 ^ (min (IntKind.wrap .i64 (7 * (i : Int))).toNat (IntKind.bits .u64))))), (IntKind.wrap .i64 ((i : Int) + 1))))
          else
            f24_varint_Get_L3 n b (bits .or .u64 ((val (b.take i) : Nat) : Int) (IntKind.wrap .u64 ((IntKind.wrap .u64 (bits .and .u8 c 127)) * 2 ^ (min (IntKind.wrap .i64 (7 * (i : Int))).toNat (IntKind.bits .u64))))) (if 10 < ((b.length : Nat) : Int) then 10 else ((b.length : Nat) : Int)) (IntKind.wrap .i64 ((i : Int) + 1))
          else none) (out (dec b)) := by
      intro q1
      refine Ev.ite (fun h1 => Ev.ite (fun h2 => ?_) (fun h2 => ?_)) (fun h1 => ?_)
      · simp only [gt_iff_lt, decide_eq_true_eq, beq_iff_eq] at h1 h2
        refine Ev.some (.inl ?_)
        rw [hat (by omega) (by omega), if_neg (fun h => h.2 (by omega) h2)]
      · simp only [gt_iff_lt, decide_eq_true_eq, beq_iff_eq] at h1 h2
        exact tail q1 (fun _ => h2)
      · simp only [gt_iff_lt, decide_eq_true_eq] at h1
        exact tail q1 (fun h => absurd h (by omega))
    refine Ev.pos (by simp; omega) (Ev.guard (by omega) (Ev.ite (fun h9 => Ev.ite (fun h1 => ?_) (fun h1 => ?_)) (fun h9 => ?_)))
    · simp only [gt_iff_lt, decide_eq_true_eq, beq_iff_eq] at h9 h1
      refine Ev.some (.inl ?_)
      by_cases h2 : c < 128
      · rw [hat ⟨hc.1, h2⟩ (by omega), if_neg (fun h => by have := h.1 (by omega); omega)]
      · have := dec_none (b.take i ++ [c]) (b.drop (i + 1)) (hh.snoc (by omega)) (.inl (by simp; omega))
        rw [List.append_assoc, List.singleton_append, ← hsplit] at this
        rw [this]
    · simp only [gt_iff_lt, decide_eq_true_eq, beq_iff_eq] at h9 h1
      exact tail2 (fun _ => by omega)
    · simp only [beq_iff_eq] at h9
      exact tail2 (fun h => absurd h (by omega))

theorem get_is (b : List Int) (hb : Bytes b) (hbl : b.length ≤ 5000) : Ev (fun n => f24_varint_Get n b) (fun r => r = dec b) := by
  simp only [f24_varint_Get]
  have := getLoop b hb hbl (min 10 b.length) 0 (by omega) (by simp [High])
  refine Ev.bind (by simpa [val] using this) ?_
  rintro _ (rfl | ⟨rfl, h⟩)
  · exact Ev.some rfl
  · exact Ev.some h.symm

theorem enc_bytes {x : Nat} (h : x < 18446744073709551616) : Bytes (enc x) := by
  obtain ⟨l, c, h1, h2, h3, h4, _⟩ := enc_shape 9 x (lt10 h)
  rw [h1]
  intro y hy
  rcases List.mem_append.1 hy with h5 | h5
  · have := h2 y h5; omega
  · simp at h5; omega

theorem refLoop (b : List Int) (hb : Bytes b) (hbl : b.length ≤ 5000) : ∀ (k i : Nat), i + k = min 10 b.length → High (b.take i) →
    Ev (fun n => f25_broughamref43_Get_L3 n b ((val (b.take i) % 18446744073709551616 : Nat) : Int) ((128 ^ i % 18446744073709551616 : Nat) : Int) i) (out (dec b))
  | 0, i, h, hh => by
    apply Ev.succ
    simp only [f25_broughamref43_Get_L3]
    have hd := dec_none (b.take i) (b.drop i) hh (by simp; omega)
    rw [List.take_append_drop] at hd
    exact Ev.ite (fun h1 => Ev.neg (by simp at h1 ⊢; omega) (Ev.some (.inr ⟨rfl, hd⟩))) (fun h1 => Ev.some (.inr ⟨rfl, hd⟩))
  | k + 1, i, h, hh => by
    apply Ev.succ
    simp only [f25_broughamref43_Get_L3]
    have hi : i < b.length := by omega
    have hc := hb.get i
    have hlen : (b.take i).length = i := by simp; omega
    have htake : b.take (i + 1) = b.take i ++ [b.getD i 0] := by
      rw [List.take_succ_eq_append_getElem hi]; simp [List.getD, List.getElem?_eq_getElem hi]
    have hg : b.getD i 0 < 128 → grp b = some (b.take (i + 1)) := fun h => by
      have := grp_at (b.take i) (b.getD i 0) (b.drop (i + 1)) hh h
      rwa [← drop_cons hi 0, List.take_append_drop, ← htake] at this
    have ih : 128 ≤ b.getD i 0 → Ev (fun n => f25_broughamref43_Get_L3 n b ((val (b.take (i + 1)) % 18446744073709551616 : Nat) : Int) ((128 ^ (i + 1) % 18446744073709551616 : Nat) : Int) ((i + 1 : Nat) : Int)) (out (dec b)) :=
      fun h1 => refLoop b hb hbl k (i + 1) (by omega) (by rw [htake]; exact hh.snoc ⟨h1, hc.2⟩)
    have hv := val_snoc (b.take i) (b.getD i 0)
    rw [← htake, hlen] at hv
    have hbt : Bytes (b.take (i + 1)) := hb.take _
    have htl : (b.take (i + 1)).length = i + 1 := by simp; omega
    rw [Int.toNat_natCast, i64_id (show -9223372036854775808 ≤ (i : Int) + 1 by omega) (by omega), show (i : Int) + 1 = ((i + 1 : Nat) : Int) by omega]
    generalize b.getD i 0 = c at *
    obtain ⟨d, hd⟩ := Int.eq_ofNat_of_zero_le (show 0 ≤ c % 128 by omega)
    have hd' : (c % 128).toNat = d := by omega
    rw [hd'] at hv
    have en : IntKind.wrap .u64 (((val (b.take i) % 18446744073709551616 : Nat) : Int) + IntKind.wrap .u64 (IntKind.wrap .u64 (Int.tmod c 128) * ((128 ^ i % 18446744073709551616 : Nat) : Int))) = ((val (b.take (i + 1)) % 18446744073709551616 : Nat) : Int) := by
      rw [tmod_e hc.1, hd, hv]
      simp only [w_u64, Int.ofNat_eq_natCast]
      have e5 : ((d : Int) % 18446744073709551616 * ((128 ^ i % 18446744073709551616 : Nat) : Int)) % 18446744073709551616 = ((128 ^ i * d % 18446744073709551616 : Nat) : Int) := by
        rw [Int.natCast_emod, Int.natCast_emod, Int.natCast_mul]
        show ((d : Int) % 18446744073709551616 * (((128 ^ i : Nat) : Int) % 18446744073709551616)) % 18446744073709551616 = _
        rw [← Int.mul_emod, Int.mul_comm]
        rfl
      rw [e5]
      omega
    have eu : IntKind.wrap .u64 (((128 ^ i % 18446744073709551616 : Nat) : Int) * 128) = ((128 ^ (i + 1) % 18446744073709551616 : Nat) : Int) := by
      rw [w_u64, Nat.pow_succ]; omega
    rw [en, eu]
    have hm : val (b.take (i + 1)) % 18446744073709551616 < 18446744073709551616 := Nat.mod_lt _ (by decide)
    refine Ev.pos (by simp; omega) (Ev.pos (by simp; omega) (Ev.guard (by omega) (Ev.guard (by omega) (Ev.ite (fun h1 => ?_) (fun h1 => ?_)))))
    · simp only [decide_eq_true_eq] at h1
      refine Ev.bind (refPut 9 _ (lt10 hm) hm) ?_
      rintro _ rfl
      refine Ev.guard (by simp [cutOk]; omega) ?_
      rw [Int.toNat_natCast, str_eq (enc_bytes hm) hbt]
      have hdec : dec b = if (b.take (i + 1)).length ≤ 10 ∧ enc (val (b.take (i + 1)) % 18446744073709551616) = b.take (i + 1) then (((val (b.take (i + 1)) % 18446744073709551616 : Nat) : Int), ((b.take (i + 1)).length : Int)) else (0, 0) := by
        unfold dec; rw [hg h1]
      refine Ev.ite (fun h2 => ?_) (fun h2 => ?_)
      · simp at h2
        exact Ev.some (.inl (by rw [hdec, if_neg (fun h => h2 h.2)]))
      · simp at h2
        exact Ev.some (.inl (by rw [hdec, if_pos ⟨by omega, h2⟩, htl]))
    · simp only [decide_eq_true_eq] at h1
      exact ih (by omega)

theorem refGet_is (b : List Int) (hb : Bytes b) (hbl : b.length ≤ 5000) : Ev (fun n => f25_broughamref43_Get n b) (fun r => r = dec b) := by
  simp only [f25_broughamref43_Get]
  have := refLoop b hb hbl (min 10 b.length) 0 (by omega) (by simp [High])
  refine Ev.bind (by simpa [val] using this) ?_
  rintro _ (rfl | ⟨rfl, h⟩)
  · exact Ev.some rfl
  · exact Ev.some h.symm

/-- What is read: nothing, or a number and its bytes, ahead of the others. -/
theorem dec_cases (b : List Int) (hb : Bytes b) : dec b = (0, 0) ∨ ∃ x : Nat, x < 18446744073709551616 ∧ dec b = ((x : Int), ((enc x).length : Int)) ∧ b = enc x ++ b.drop (enc x).length := by
  unfold dec
  cases hg : grp b with
  | none => exact .inl rfl
  | some l =>
    dsimp only
    split
    · rename_i h
      have hm : val l % 18446744073709551616 < 18446744073709551616 := Nat.mod_lt _ (by decide)
      refine .inr ⟨_, hm, by rw [h.2], ?_⟩
      rw [h.2]
      have : ∀ (b l : List Int), grp b = some l → b = l ++ b.drop l.length := by
        intro b
        induction b with
        | nil => intro l h; cases h
        | cons c r ih =>
          intro l h
          simp only [grp] at h
          split at h
          · cases h; simp
          · obtain ⟨q, h1, rfl⟩ := Option.map_eq_some_iff.1 h
            have := ih q h1
            simp
            exact this
      exact this b l hg
    · exact .inl rfl

/-- All numbers. -/
def all : Nat → List Int → Option (List Int)
  | 0, _ => some []
  | k + 1, b => if b = [] then some [] else if (dec b).2 = 0 then none else (all k (b.drop (dec b).2.toNat)).map fun l => (dec b).1 :: l
def outs (o : List Int) : Option (List Int) → (List Int × Bool) ⊕ List Int
  | none => .inl ([], false)
  | some l => .inr (o ++ l)

theorem allLoop : ∀ (k : Nat) (b o : List Int), b.length ≤ k → k ≤ 5000 → Bytes b → o.length + k ≤ 10000 → Ev (fun n => f26_varint_All_L2 n b o) (fun r => r = outs o (all k b)) ∧ Ev (fun n => f27_broughamref43_All_L2 n b o) (fun r => r = outs o (all k b))
  | 0, b, o, hb, hk, hB, ho => by
    obtain rfl : b = [] := List.eq_nil_of_length_eq_zero (by omega)
    constructor
    · apply Ev.succ
      simp only [f26_varint_All_L2]
      exact Ev.neg (by simp) (Ev.some (by simp [outs, all]))
    · apply Ev.succ
      simp only [f27_broughamref43_All_L2]
      exact Ev.neg (by simp) (Ev.some (by simp [outs, all]))
  | k + 1, b, o, hb, hk, hB, ho => by
    by_cases hne : b = []
    · subst hne
      constructor
      · apply Ev.succ
        simp only [f26_varint_All_L2]
        exact Ev.neg (by simp) (Ev.some (by simp [outs, all]))
      · apply Ev.succ
        simp only [f27_broughamref43_All_L2]
        exact Ev.neg (by simp) (Ev.some (by simp [outs, all]))
    · have hpos : 0 < b.length := List.length_pos_iff.2 hne
      have e : all (k + 1) b = if (dec b).2 = 0 then none else (all k (b.drop (dec b).2.toNat)).map fun l => (dec b).1 :: l := by rw [all, if_neg hne]
      have hmap : ∀ (x : Int) (q : Option (List Int)), outs (o ++ [x]) q = outs o (q.map fun l => x :: l) := by intro x q; cases q <;> simp [outs]
      rcases dec_cases b hB with hd | ⟨x, hx, hd, hbx⟩
      · constructor
        · apply Ev.succ
          simp only [f26_varint_All_L2]
          refine Ev.pos (by simp; omega) (Ev.bind (get_is b hB (by omega)) ?_)
          rintro _ rfl
          exact Ev.pos (by simp [hd]) (Ev.some (by rw [e, hd]; rfl))
        · apply Ev.succ
          simp only [f27_broughamref43_All_L2]
          refine Ev.pos (by simp; omega) (Ev.bind (refGet_is b hB (by omega)) ?_)
          rintro _ rfl
          exact Ev.pos (by simp [hd]) (Ev.some (by rw [e, hd]; rfl))
      · have hl := enc_len10 hx
        have hle : (enc x).length ≤ b.length := by rw [hbx]; simp
        have ih := allLoop k (b.drop (enc x).length) (o ++ [(x : Int)]) (by simp; omega) (by omega) (hB.drop _) (by simp; omega)
        have ee : all (k + 1) b = (all k (b.drop (enc x).length)).map fun l => (x : Int) :: l := by
          rw [e, hd, if_neg (show ¬ ((enc x).length : Int) = 0 by omega)]; simp
        rw [ee, ← hmap]
        constructor
        · apply Ev.succ
          simp only [f26_varint_All_L2]
          refine Ev.pos (by simp; omega) (Ev.bind (get_is b hB (by omega)) ?_)
          rintro _ rfl
          rw [hd]
          refine Ev.neg (by rw [beq_iff_eq]; show ¬ ((enc x).length : Int) = 0; omega) (Ev.guard (by simp [maxLen]; omega) (Ev.guard (by simp [cutOk]; omega) ?_))
          simpa using ih.1
        · apply Ev.succ
          simp only [f27_broughamref43_All_L2]
          refine Ev.pos (by simp; omega) (Ev.bind (refGet_is b hB (by omega)) ?_)
          rintro _ rfl
          rw [hd]
          refine Ev.neg (by rw [beq_iff_eq]; show ¬ ((enc x).length : Int) = 0; omega) (Ev.guard (by simp [maxLen]; omega) (Ev.guard (by simp [cutOk]; omega) ?_))
          simpa using ih.2

def ans : Option (List Int) → List Int × Bool
  | none => ([], false)
  | some l => (l, true)
theorem all_is (b : List Int) (hb : Bytes b) (hbl : b.length ≤ 5000) : Ev (fun n => f26_varint_All n b) (fun r => r = ans (all b.length b)) := by
  simp only [f26_varint_All]
  refine Ev.bind (allLoop b.length b [] (Nat.le_refl _) hbl hb (by simp; omega)).1 ?_
  rintro _ rfl
  cases all b.length b <;> exact Ev.some rfl
theorem refAll_is (b : List Int) (hb : Bytes b) (hbl : b.length ≤ 5000) : Ev (fun n => f27_broughamref43_All n b) (fun r => r = ans (all b.length b)) := by
  simp only [f27_broughamref43_All]
  refine Ev.bind (allLoop b.length b [] (Nat.le_refl _) hbl hb (by simp; omega)).2 ?_
  rintro _ rfl
  cases all b.length b <;> exact Ev.some rfl
theorem all_len : ∀ (k : Nat) (b l : List Int), all k b = some l → l.length ≤ k
  | 0, b, l, h => by cases h; simp
  | k + 1, b, l, h => by
    rw [all] at h
    split at h
    · cases h; simp
    · split at h
      · cases h
      · obtain ⟨q, h1, rfl⟩ := Option.map_eq_some_iff.1 h
        have := all_len k _ q h1
        simp; omega

theorem row_is (a : List Int) (ha : a.length ≤ 5000) : Ev (fun n => f28_broughamlaw43_row n a a) (fun r => r = true) := by
  have loop : ∀ (k i : Nat), i + k = a.length → Ev (fun n => f28_broughamlaw43_row_L4 n a a i) (fun r => r = .inr ()) := by
    intro k
    induction k with
    | zero =>
      intro i h
      apply Ev.succ
      simp only [f28_broughamlaw43_row_L4]
      exact Ev.neg (by simp; omega) (Ev.some rfl)
    | succ k ih =>
      intro i h
      apply Ev.succ
      simp only [f28_broughamlaw43_row_L4]
      refine Ev.pos (by simp; omega) (Ev.guard (by omega) (Ev.guard (by omega) (Ev.neg (by simp) ?_)))
      rw [i64_id (show -9223372036854775808 ≤ (i : Int) + 1 by omega) (by omega), show (i : Int) + 1 = ((i + 1 : Nat) : Int) by omega]
      exact ih (i + 1) (by omega)
  simp only [f28_broughamlaw43_row]
  refine Ev.neg (by simp) (Ev.bind (loop a.length 0 (by omega)) ?_)
  rintro _ rfl
  exact Ev.some rfl

theorem VarintReads (b : List Int) (h0 : K.ok (.slice (.int .u8)) b) : ∃ n, f5_broughamlaw43_VarintReads n b = some true := by
  have hb := ok_bytes h0
  apply Ev.true
  simp only [f5_broughamlaw43_VarintReads]
  refine Ev.ite (fun _ => Ev.some rfl) fun a1 => ?_
  simp only [decide_eq_true_eq] at a1
  refine Ev.bind (get_is b hb (by omega)) ?_
  rintro _ rfl
  refine Ev.bind (refGet_is b hb (by omega)) ?_
  rintro _ rfl
  refine Ev.bind (all_is b hb (by omega)) ?_
  rintro _ rfl
  refine Ev.bind (refAll_is b hb (by omega)) ?_
  rintro _ rfl
  have hl : (ans (all b.length b)).1.length ≤ 5000 := by
    cases h : all b.length b with
    | none => simp [ans]
    | some l => have := all_len _ _ _ h; simp [ans]; omega
  refine Ev.pos (by simp) (Ev.pos (by simp) (Ev.pos (by simp) (Ev.bind (row_is _ hl) ?_)))
  rintro _ rfl
  exact Ev.pos rfl (Ev.bind alive_is (fun r hr => Ev.some hr))
end Go.Proofs.YtjimlfjhhmdcdaaF43
