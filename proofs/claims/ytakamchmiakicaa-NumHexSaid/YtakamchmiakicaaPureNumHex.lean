/- NumHex: bytes are written as digits, and read back; other texts are refused: of the functions that text F01 prints. Conditions: none. -/
import Derived.Test.YtakamchmiakicaaPureNumTexts
namespace Go.Proofs.YtakamchmiakicaaF01
open Go Zed Go.Proofs.YtakamchmiakicaaLeaf
set_option linter.unusedVariables false
set_option linter.unusedSimpArgs false

/-- A digit's number; below 0: it is none. -/
def digV (n : Nat) : Int := if 48 ≤ n ∧ n ≤ 57 then (n : Int) - 48 else if 97 ≤ n ∧ n ≤ 102 then (n : Int) - 87 else -1
theorem digV_lt (n : Nat) : -1 ≤ digV n ∧ digV n < 16 := by unfold digV; constructor <;> (repeat' split) <;> omega
def unhexF : List UInt8 → Option (List Int)
  | [] => some []
  | [_] => none
  | x :: y :: r => if digV x.toNat < 0 ∨ digV y.toNat < 0 then none else (unhexF r).map fun b => (digV x.toNat * 16 + digV y.toNat) :: b
def unhexR (l : List UInt8) : List Int × Int := if l = [45] then ([], 0) else match unhexF l with
  | none => ([], 11)
  | some b => if b = [] then ([], 11) else (b, 0)
abbrev dg : ByteArray := ⟨#[48, 49, 50, 51, 52, 53, 54, 55, 56, 57, 97, 98, 99, 100, 101, 102]⟩
set_option maxRecDepth 100000 in
theorem idx_fin : ∀ n : Fin 256, Lib.indexByte [48, 49, 50, 51, 52, 53, 54, 55, 56, 57, 97, 98, 99, 100, 101, 102] n.val.toUInt8 = digV n.val := by decide
theorem idx_is (c : UInt8) : Lib.indexByte dg.data.toList (((c.toNat : Nat) : Int)).toNat.toUInt8 = digV c.toNat := by
  rw [Int.toNat_natCast]
  exact idx_fin ⟨c.toNat, c.toNat_lt⟩
theorem index_ev (c : UInt8) : Ev (fun _ => f15_strings_IndexByte dg (c.toNat : Int)) (fun r => r = digV c.toNat) := by
  unfold f15_strings_IndexByte
  exact Ev.some (idx_is c)
theorem digit_ev (c : UInt8) : Ev (fun _ => f16_broughamref01_digit (c.toNat : Int)) (fun r => r = digV c.toNat) := by
  have h := c.toNat_lt
  unfold f16_broughamref01_digit digV
  generalize c.toNat = n at *
  rw [i64_id (e := (n : Int)) (by omega) (by omega), i64_id (e := (n : Int) - 48) (by omega) (by omega), i64_id (e := (n : Int) - 97) (by omega) (by omega), i64_id (e := (n : Int) - 97 + 10) (by omega) (by omega)]
  refine Ev.ite (fun c1 => Ev.ite (fun c2 => Ev.some ?_) (fun c2 => Ev.ite (fun c3 => Ev.ite (fun c4 => Ev.some ?_) (fun c4 => Ev.some ?_)) (fun c3 => Ev.some ?_))) (fun c1 => Ev.ite (fun c3 => Ev.ite (fun c4 => Ev.some ?_) (fun c4 => Ev.some ?_)) (fun c3 => Ev.some ?_))
  all_goals simp only [decide_eq_true_eq] at *
  · rw [if_pos (by omega)]
  · rw [if_neg (by omega), if_pos (by omega)]; omega
  · rw [if_neg (by omega), if_neg (by omega)]
  · rw [if_neg (by omega), if_neg (by omega)]
  · omega
  · rw [if_neg (by omega), if_neg (by omega)]
  · rw [if_neg (by omega), if_neg (by omega)]
theorem or_fin : ∀ h l : Fin 16, IntKind.wrap .u8 (bits .or .i64 (IntKind.wrap .i64 ((h.val : Int) * 2 ^ 4)) (l.val : Int)) = (h.val : Int) * 16 + l.val := by decide
theorem or_is {h l : Int} (h0 : 0 ≤ h ∧ h < 16) (l0 : 0 ≤ l ∧ l < 16) : IntKind.wrap .u8 (bits .or .i64 (IntKind.wrap .i64 (h * 2 ^ 4)) l) = h * 16 + l := by
  have := or_fin ⟨h.toNat, by omega⟩ ⟨l.toNat, by omega⟩
  simp only [show ((h.toNat : Nat) : Int) = h by omega, show ((l.toNat : Nat) : Int) = l by omega] at this
  exact this
theorem mul_is {h l : Int} (h0 : 0 ≤ h ∧ h < 16) (l0 : 0 ≤ l ∧ l < 16) : IntKind.wrap .u8 (IntKind.wrap .i64 ((IntKind.wrap .i64 (h * 16)) + l)) = h * 16 + l := by
  rw [i64_id (e := h * 16) (by omega) (by omega), i64_id (by omega) (by omega), u8_id (by omega) (by omega)]
theorem drop2 {l : List UInt8} {i : Nat} (h : i + 1 < l.length) : l.drop i = l[i] :: l[i + 1] :: l.drop (i + 2) := by
  rw [List.drop_eq_getElem_cons (by omega), List.drop_eq_getElem_cons h]
theorem unhex_loop (s : ByteArray) (l : List UInt8) (hs : s.data.toList = l) (hl : l.length ≤ 20000) : ∀ (d i : Nat) (hi : i ≤ l.length) (hd : l.length - i ≤ d) (b : List Int) (hb : b.length ≤ i),
    Ev (fun n => f10_num_Unhex_L5 n s b (i : Int)) (fun w => w = match unhexF (l.drop i) with
      | none => .inl ([], 11)
      | some x => .inr (b ++ x))
  | 0, i, hi, hd, b, hb => by
    have hsz : s.size = l.length := by rw [size_len, hs]
    apply Ev.succ
    unfold f10_num_Unhex_L5
    rw [hsz]
    refine Ev.neg (by simp only [decide_eq_true_eq]; omega) (Ev.some ?_)
    rw [List.drop_eq_nil_of_le (by omega)]; simp [unhexF]
  | d + 1, i, hi, hd, b, hb => by
    have hsz : s.size = l.length := by rw [size_len, hs]
    apply Ev.succ
    unfold f10_num_Unhex_L5
    rw [hsz]
    refine Ev.ite (fun c => ?_) (fun c => ?_)
    · simp only [decide_eq_true_eq] at c
      have hil : i < l.length := by omega
      rw [i64_id (e := (i : Int) + 1) (by omega) (by omega), i64_id (e := (i : Int) + 2) (by omega) (by omega)]
      refine Ev.ite (fun c1 => Ev.some ?_) (fun c1 => ?_)
      · simp only [beq_iff_eq] at c1
        have e : l.drop i = [l[i]] := by rw [List.drop_eq_getElem_cons hil, List.drop_eq_nil_of_le (by omega)]
        rw [e]; rfl
      simp only [beq_iff_eq] at c1
      have hi1 : i + 1 < l.length := by omega
      have hb0 : byteAt s (i : Int) = ((l[i]).toNat : Int) := by subst hs; exact byte_at hil
      have hb1 : byteAt s ((i : Int) + 1) = ((l[i + 1]).toNat : Int) := by
        subst hs
        have := byte_at (s := s) (i := i + 1) hi1
        rw [show ((i + 1 : Nat) : Int) = (i : Int) + 1 by omega] at this
        exact this
      rw [hb0, hb1, drop2 hi1, unhexF]
      have d1 := digV_lt (l[i]).toNat
      have d2 := digV_lt (l[i + 1]).toNat
      refine Ev.guard (by omega) (Ev.bind (index_ev _) ?_)
      rintro _ rfl
      refine Ev.guard (by omega) (Ev.bind (index_ev _) ?_)
      rintro _ rfl
      refine Ev.ite (fun c2 => Ev.some ?_) (fun c2 => Ev.ite (fun c3 => Ev.some ?_) (fun c3 => ?_))
      · simp only [decide_eq_true_eq] at c2
        rw [if_pos (.inl c2)]
      · simp only [decide_eq_true_eq] at c3
        rw [if_pos (.inr c3)]
      simp only [decide_eq_true_eq] at c2 c3
      rw [if_neg (by omega), or_is ⟨by omega, d1.2⟩ ⟨by omega, d2.2⟩]
      refine Ev.guard (by simp only [List.length_singleton, maxLen]; omega) ?_
      refine (unhex_loop s l hs hl d (i + 2) (by omega) (by omega) _ (by simp; omega)).mono ?_
      rintro _ rfl
      cases unhexF (l.drop (i + 2)) with
      | none => rfl
      | some x => simp
    · simp only [decide_eq_true_eq] at c
      refine Ev.some ?_
      rw [List.drop_eq_nil_of_le (by omega)]; simp [unhexF]
theorem unhex_len : ∀ (k : Nat) (l : List UInt8) (hk : l.length ≤ k) (b : List Int), unhexF l = some b → 2 * b.length = l.length
  | 0, l, hk, b, h => by
    have : l = [] := List.eq_nil_of_length_eq_zero (by omega)
    subst this
    simp only [unhexF, Option.some.injEq] at h
    subst h; rfl
  | k + 1, [], hk, b, h => by
    simp only [unhexF, Option.some.injEq] at h
    subst h; rfl
  | k + 1, [x], hk, b, h => by cases h
  | k + 1, x :: y :: r, hk, b, h => by
    rw [unhexF] at h
    split at h
    · cases h
    · obtain ⟨b', h', rfl⟩ := Option.map_eq_some_iff.1 h
      have := unhex_len k r (by simp at hk; omega) b' h'
      simp; omega
theorem unhex_is (s : ByteArray) (hl : s.size ≤ 20000) : Ev (fun n => f10_num_Unhex n s) (fun r => r = unhexR s.data.toList) := by
  rw [size_len] at hl
  generalize hs : s.data.toList = l at hl
  unfold f10_num_Unhex unhexR
  rw [str_dec, hs]
  refine Ev.ite (fun c => Ev.some ?_) (fun c => ?_)
  · simp only [decide_eq_true_eq] at c
    rw [if_pos c]
  simp only [decide_eq_true_eq] at c
  rw [if_neg c]
  refine Ev.bind (unhex_loop s l hs hl l.length 0 (by omega) (by omega) [] (by simp)) ?_
  rintro _ rfl
  rw [List.drop_zero]
  cases unhexF l with
  | none => exact Ev.some rfl
  | some b =>
    dsimp only
    rw [List.nil_append]
    refine Ev.ite (fun c => Ev.some ?_) (fun c => Ev.some ?_)
    · simp only [beq_iff_eq] at c
      rw [if_pos (List.eq_nil_of_length_eq_zero (by omega))]
    · simp only [beq_iff_eq] at c
      rw [if_neg (fun e => c (by subst e; rfl))]
theorem refunhex_loop (s : ByteArray) (l : List UInt8) (hs : s.data.toList = l) (hl : l.length ≤ 20000) : ∀ (d i : Nat) (hi : i + 2 * d = l.length) (b : List Int) (hb : b.length ≤ i),
    Ev (fun n => f11_broughamref01_Unhex_L7 n s b (i : Int)) (fun w => w = match unhexF (l.drop i) with
      | none => .inl ([], 11)
      | some x => .inr (b ++ x))
  | 0, i, hi, b, hb => by
    have hsz : s.size = l.length := by rw [size_len, hs]
    apply Ev.succ
    unfold f11_broughamref01_Unhex_L7
    rw [hsz]
    refine Ev.neg (by simp only [decide_eq_true_eq]; omega) (Ev.some ?_)
    rw [List.drop_eq_nil_of_le (by omega)]; simp [unhexF]
  | d + 1, i, hi, b, hb => by
    have hsz : s.size = l.length := by rw [size_len, hs]
    have hil : i < l.length := by omega
    have hi1 : i + 1 < l.length := by omega
    have hb0 : byteAt s (i : Int) = ((l[i]).toNat : Int) := by subst hs; exact byte_at hil
    have hb1 : byteAt s ((i : Int) + 1) = ((l[i + 1]).toNat : Int) := by
      subst hs
      have := byte_at (s := s) (i := i + 1) hi1
      rw [show ((i + 1 : Nat) : Int) = (i : Int) + 1 by omega] at this
      exact this
    apply Ev.succ
    unfold f11_broughamref01_Unhex_L7
    rw [hsz, i64_id (e := (i : Int) + 1) (by omega) (by omega), i64_id (e := (i : Int) + 2) (by omega) (by omega), hb0, hb1, drop2 hi1, unhexF]
    have d1 := digV_lt (l[i]).toNat
    have d2 := digV_lt (l[i + 1]).toNat
    refine Ev.pos (by simp only [decide_eq_true_eq]; omega) (Ev.guard (by omega) (Ev.bind (digit_ev _) ?_))
    rintro _ rfl
    refine Ev.ite (fun c2 => Ev.some ?_) (fun c2 => Ev.guard (by omega) (Ev.bind (digit_ev _) ?_))
    · simp only [decide_eq_true_eq] at c2
      rw [if_pos (.inl c2)]
    rintro _ rfl
    refine Ev.ite (fun c3 => Ev.some ?_) (fun c3 => Ev.guard (by omega) (Ev.bind (digit_ev _) ?_))
    · simp only [decide_eq_true_eq] at c3
      rw [if_pos (.inr c3)]
    rintro _ rfl
    refine Ev.guard (by omega) (Ev.bind (digit_ev _) ?_)
    rintro _ rfl
    simp only [decide_eq_true_eq] at c2 c3
    rw [if_neg (by omega), mul_is ⟨by omega, d1.2⟩ ⟨by omega, d2.2⟩]
    refine Ev.guard (by simp only [List.length_singleton, maxLen]; omega) ?_
    refine (refunhex_loop s l hs hl d (i + 2) (by omega) _ (by simp; omega)).mono ?_
    rintro _ rfl
    cases unhexF (l.drop (i + 2)) with
    | none => rfl
    | some x => simp
theorem refunhex_is (s : ByteArray) (hl : s.size ≤ 20000) : Ev (fun n => f11_broughamref01_Unhex n s) (fun r => r = unhexR s.data.toList) := by
  have hsz := size_len s
  rw [size_len] at hl
  generalize hs : s.data.toList = l at hl hsz
  unfold f11_broughamref01_Unhex unhexR
  rw [str_dec, str_dec, hs, hsz, tmod_e (by omega)]
  refine Ev.ite (fun c => Ev.some ?_) (fun c => Ev.ite (fun c2 => Ev.some ?_) (fun c2 => Ev.ite (fun c3 => Ev.some ?_) (fun c3 => ?_)))
  · simp only [decide_eq_true_eq] at c
    rw [if_pos c]
  · simp only [decide_eq_true_eq] at c c2
    rw [if_neg c, show l = [] from c2]; rfl
  · simp only [decide_eq_true_eq, beq_iff_eq] at c c3
    rw [if_neg c]
    cases h : unhexF l with
    | none => rfl
    | some b => have := unhex_len _ l (Nat.le_refl _) b h; omega
  · simp only [decide_eq_true_eq, beq_iff_eq] at c c2 c3
    rw [if_neg c]
    refine Ev.bind (refunhex_loop s l hs hl (l.length / 2) 0 (by omega) [] (by simp)) ?_
    rintro _ rfl
    rw [List.drop_zero]
    cases h : unhexF l with
    | none => exact Ev.some rfl
    | some b =>
      dsimp only
      rw [List.nil_append]
      refine Ev.some ?_
      have := unhex_len _ l (Nat.le_refl _) b h
      have hne : l.length ≠ 0 := fun e => c2 (List.eq_nil_of_length_eq_zero e)
      rw [if_neg (fun e => by subst e; simp at this; omega)]
theorem hexD_fin : ∀ n : Fin 16, digV (hexD n.val).toNat = n.val := by decide
theorem hexD_is (n : Nat) (h : n < 16) : digV (hexD n).toNat = n := hexD_fin ⟨n, h⟩
set_option maxRecDepth 100000 in
theorem back_fin : ∀ n : Fin 256, 0 ≤ digV n.val → hexD (digV n.val).toNat = n.val.toUInt8 := by decide
theorem back_is (c : UInt8) (h : 0 ≤ digV c.toNat) : hexD (digV c.toNat).toNat = c := by
  rw [back_fin ⟨c.toNat, c.toNat_lt⟩ h]
  simp
theorem unhex_hex : ∀ (b : List Int), Bytes b → unhexF (hexL (b.map fun x => x.toNat.toUInt8)) = some b
  | [], _ => rfl
  | x :: b, h => by
    have hx := h.head
    have e : (x.toNat.toUInt8).toNat = x.toNat := by simp; omega
    show unhexF (hexD ((x.toNat.toUInt8).toNat / 16) :: hexD ((x.toNat.toUInt8).toNat % 16) :: hexL (b.map fun x => x.toNat.toUInt8)) = _
    rw [unhexF, e, hexD_is _ (by omega), hexD_is _ (by omega), if_neg (by omega), unhex_hex b h.tail]
    simp; omega
theorem hex_unhex : ∀ (k : Nat) (l : List UInt8) (hk : l.length ≤ k) (b : List Int), unhexF l = some b → Bytes b ∧ hexL (b.map fun x => x.toNat.toUInt8) = l
  | 0, l, hk, b, h => by
    have : l = [] := List.eq_nil_of_length_eq_zero (by omega)
    subst this
    simp only [unhexF, Option.some.injEq] at h
    subst h; exact ⟨Bytes.nil, rfl⟩
  | k + 1, [], hk, b, h => by
    simp only [unhexF, Option.some.injEq] at h
    subst h; exact ⟨Bytes.nil, rfl⟩
  | k + 1, [x], hk, b, h => by cases h
  | k + 1, x :: y :: r, hk, b, h => by
    have d1 := digV_lt x.toNat
    have d2 := digV_lt y.toNat
    rw [unhexF] at h
    split at h
    · cases h
    · rename_i hc
      obtain ⟨b', h', rfl⟩ := Option.map_eq_some_iff.1 h
      obtain ⟨i1, i2⟩ := hex_unhex k r (by simp at hk; omega) b' h'
      refine ⟨Bytes.cons ⟨by omega, by omega⟩ i1, ?_⟩
      have e : ((digV x.toNat * 16 + digV y.toNat).toNat.toUInt8).toNat = (digV x.toNat * 16 + digV y.toNat).toNat := by simp; omega
      show hexD (((digV x.toNat * 16 + digV y.toNat).toNat.toUInt8).toNat / 16) :: hexD (((digV x.toNat * 16 + digV y.toNat).toNat.toUInt8).toNat % 16) :: hexL (b'.map fun x => x.toNat.toUInt8) = _
      rw [i2, e, show (digV x.toNat * 16 + digV y.toNat).toNat / 16 = (digV x.toNat).toNat by omega, show (digV x.toNat * 16 + digV y.toNat).toNat % 16 = (digV y.toNat).toNat by omega, back_is x (by omega), back_is y (by omega)]
theorem hex_ev (b : List Int) (hl : b.length ≤ 20000) (hb : Bytes b) : Ev (fun _ => f12_num_Hex b) (fun r => r = hexB b) := by
  unfold f12_num_Hex
  exact Ev.pos ⟨by omega, hb⟩ (Ev.some rfl)
theorem dg_at (n : Nat) (h : n < 16) : byteAt dg (n : Int) = ((hexD n).toNat : Int) := by
  have h' : n < dg.size := h
  unfold byteAt
  rw [dif_pos (by rw [Int.toNat_natCast]; exact h')]
  simp only [Int.toNat_natCast]
  have := dig_is n h
  exact congrArg (fun x : UInt8 => (x.toNat : Int)) this
theorem refhex_loop (b : List Int) (hl : b.length ≤ 20000) (hb : Bytes b) : ∀ (d i : Nat) (hi : i + d = b.length) (s : List Int) (hs : s = (hexL ((b.take i).map fun x => x.toNat.toUInt8)).map fun c => (c.toNat : Int)),
    Ev (fun n => f13_broughamref01_Hex_L5 n b s (i : Int)) (fun w => w = (hexL (b.map fun x => x.toNat.toUInt8)).map fun c => (c.toNat : Int))
  | 0, i, hi, s, hs => by
    apply Ev.succ
    unfold f13_broughamref01_Hex_L5
    refine Ev.neg (by simp only [decide_eq_true_eq]; omega) (Ev.some ?_)
    rw [hs, List.take_of_length_le (by omega)]
  | d + 1, i, hi, s, hs => by
    have hil : i < b.length := by omega
    have hx := hb.get i
    have hslen : s.length ≤ 40000 := by rw [hs, List.length_map, hexL_len, List.length_map, List.length_take]; omega
    apply Ev.succ
    unfold f13_broughamref01_Hex_L5
    rw [Int.toNat_natCast, i64_id (e := (i : Int) + 1) (by omega) (by omega), tdiv_e hx.1, tmod_e hx.1, u8_id (by omega) (by omega)]
    generalize hxv : b.getD i 0 = x at hx
    have e1 : (x / 16 : Int) = ((x.toNat / 16 : Nat) : Int) := by omega
    have e2 : (x % 16 : Int) = ((x.toNat % 16 : Nat) : Int) := by omega
    rw [e1, e2, dg_at _ (by omega), dg_at _ (by omega)]
    have hdg : (dg.size : Int) = 16 := rfl
    refine Ev.pos (by simp only [decide_eq_true_eq]; omega) (Ev.guard (by omega) (Ev.guard (by rw [hdg]; omega) (Ev.guard (by omega) (Ev.guard (by rw [hdg]; omega) (Ev.guard (by simp only [List.length_cons, List.length_nil, maxLen]; omega) ?_)))))
    refine refhex_loop b hl hb d (i + 1) (by omega) _ ?_
    have htake : b.take (i + 1) = b.take i ++ [x] := by
      rw [List.take_add_one, List.getElem?_eq_getElem hil, ← hxv]
      simp [List.getD_eq_getElem?_getD, List.getElem?_eq_getElem hil]
    have e : (x.toNat.toUInt8).toNat = x.toNat := by simp; omega
    rw [hs, htake, List.map_append]
    show _ = (hexL (_ ++ [x.toNat.toUInt8])).map _
    rw [hexL_snoc, e]; simp
theorem refhex_is (b : List Int) (hl : b.length ≤ 20000) (hb : Bytes b) : Ev (fun n => f13_broughamref01_Hex n b) (fun r => r = hexB b) := by
  unfold f13_broughamref01_Hex hexB
  refine Ev.ite (fun c => Ev.some ?_) (fun c => ?_)
  · simp only [beq_iff_eq] at c
    rw [if_pos (List.eq_nil_of_length_eq_zero (by omega))]
  · simp only [beq_iff_eq] at c
    rw [if_neg (fun e => c (by subst e; rfl))]
    refine Ev.bind (refhex_loop b hl hb b.length 0 (by omega) [] rfl) ?_
    rintro _ rfl
    refine Ev.some ?_
    unfold strOfNums
    rw [List.map_map]
    congr 2
    conv => rhs; rw [← List.map_id (hexL _)]
    refine List.map_congr_left fun c _ => ?_
    simp
theorem unhexR_hexB (b : List Int) (hb : Bytes b) : unhexR (hexB b).data.toList = (b, 0) := by
  unfold hexB
  by_cases h : b = []
  · subst h; rfl
  · rw [if_neg h]
    have e : (⟨(hexL (b.map fun x => x.toNat.toUInt8)).toArray⟩ : ByteArray).data.toList = hexL (b.map fun x => x.toNat.toUInt8) := rfl
    rw [e]
    unfold unhexR
    have hlen := hexL_len (b.map fun x => x.toNat.toUInt8)
    rw [List.length_map] at hlen
    have hne : b.length ≠ 0 := fun e => h (List.eq_nil_of_length_eq_zero e)
    rw [if_neg (fun e => by rw [e] at hlen; simp at hlen; omega), unhex_hex b hb]
    dsimp only
    rw [if_neg h]
theorem NumHex (b : List Int) (h0 : K.ok (.slice (.int .u8)) b) (s : ByteArray) (h1 : K.ok .str s) : ∃ k, f4_broughamlaw01_NumHex k b s = some true := by
  have hb := ok_bytes h0
  apply Ev.true
  unfold f4_broughamlaw01_NumHex
  refine Ev.ite (fun _ => Ev.some rfl) fun c => Ev.ite (fun _ => Ev.some rfl) fun c2 => ?_
  simp only [decide_eq_true_eq] at c c2
  have hlen : (hexB b).size ≤ 20000 := by
    unfold hexB
    split
    · show 1 ≤ 20000; omega
    · rw [size_len]
      show (hexL _).length ≤ _
      rw [hexL_len, List.length_map]; omega
  refine Ev.bind (unhex_is s (by omega)) ?_
  rintro _ rfl
  refine Ev.bind (refunhex_is s (by omega)) ?_
  rintro _ rfl
  refine Ev.bind (hex_ev b (by omega) hb) ?_
  rintro _ rfl
  refine Ev.bind (unhex_is (hexB b) hlen) ?_
  rintro _ rfl
  refine Ev.bind (hex_ev b (by omega) hb) ?_
  rintro _ rfl
  refine Ev.bind (refhex_is b (by omega) hb) ?_
  rintro _ rfl
  rw [unhexR_hexB b hb]
  refine Ev.pos (str_refl _) (Ev.pos (str_refl _) (Ev.pos (by simp) (Ev.pos (str_refl _) (Ev.pos (by simp) ?_))))
  refine Ev.ite (fun _ => Ev.bind alive_ev (fun r hr => Ev.some hr)) (fun c3 => ?_)
  have hx : Bytes (unhexR s.data.toList).1 ∧ hexB (unhexR s.data.toList).1 = s ∧ (unhexR s.data.toList).1.length ≤ 20000 := by
    have hsz := size_len s
    generalize hs : s.data.toList = l at c3 hsz
    have hs' : s = ⟨l.toArray⟩ := by
      apply ByteArray.ext; rw [← hs]
    unfold unhexR at c3 ⊢
    by_cases h : l = [45]
    · rw [if_pos h]
      exact ⟨Bytes.nil, by rw [hs', h]; rfl, by simp⟩
    · rw [if_neg h] at c3 ⊢
      cases hu : unhexF l with
      | none => rw [hu] at c3; exact absurd rfl c3
      | some b =>
        rw [hu] at c3
        dsimp only at c3 ⊢
        by_cases h0 : b = []
        · rw [if_pos h0] at c3; exact absurd rfl c3
        · rw [if_neg h0]
          obtain ⟨i1, i2⟩ := hex_unhex _ l (Nat.le_refl _) b hu
          have := unhex_len _ l (Nat.le_refl _) b hu
          exact ⟨i1, by rw [hexB, if_neg h0, i2, hs'], by show b.length ≤ _; omega⟩
  refine Ev.bind (hex_ev _ hx.2.2 hx.1) ?_
  rintro _ rfl
  rw [hx.2.1]
  exact Ev.pos (str_refl _) (Ev.bind alive_ev (fun r hr => Ev.some hr))
end Go.Proofs.YtakamchmiakicaaF01
