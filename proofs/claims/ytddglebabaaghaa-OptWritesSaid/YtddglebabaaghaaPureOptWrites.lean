/- OptWrites: the bytes of each option, as the document says: of the functions that text F08 prints. Conditions: none. -/
import Derived.Test.YtddglebabaaghaaPureOptOne
namespace Go.Proofs.YtddglebabaaghaaF08
open Go Zed
set_option linter.unusedVariables false
set_option linter.unusedSimpArgs false

abbrev U64 (x : Int) : Prop := 0 ≤ x ∧ x < 18446744073709551616
abbrev U32 (x : Int) : Prop := 0 ≤ x ∧ x < 4294967296
abbrev U8 (x : Int) : Prop := 0 ≤ x ∧ x < 256
theorem be_bytes : ∀ (s : Nat) (v : Int), Bytes (be s v)
  | 0, _ => Bytes.nil
  | s + 1, v => (be_bytes s (v / 256)).append (Bytes.cons (by omega) Bytes.nil)
theorem be1 {x : Int} (h : U8 x) : be 1 x = [x] := by simp [be]; omega
def bit (b : Bool) : Int := if b then 1 else 0
theorem bit_in (b : Bool) : U8 (bit b) := by cases b <;> decide
theorem flag_is (b : Bool) : f78_pack_Flag b = some (1, bit b) := by cases b <;> rfl
theorem refBit_is (b : Bool) : f79_broughamref08_bit b = some (bit b) := by cases b <;> rfl
theorem W_is {x : Int} (h : U32 x) : f76_pack_W x = some (4, x) := by unfold f76_pack_W; rw [u64_id h.1 (by omega)]
theorem B_is {x : Int} (h : U8 x) : f77_pack_B x = some (1, x) := by unfold f77_pack_B; rw [u64_id h.1 (by omega)]
theorem Q_is (x : Int) : f74_pack_Q x = some (8, x) := rfl
theorem enc_cons (s : Int) (v : Int) (l : List (Int × Int)) : enc ((s, v) :: l) = fieldB (s, v) ++ enc l := by simp [enc]
theorem f1 (v : Int) : fieldB (1, v) = be 1 v := rfl
theorem f4 (v : Int) : fieldB (4, v) = be 4 v := rfl
theorem f8 (v : Int) : fieldB (8, v) = be 8 v := rfl

def keyB (a : Int) (b : Bool) (c : Int) : List Int := be 8 a ++ if b then be 8 c else []
theorem key_is (a : Int) (b : Bool) (c : Int) (ha : U64 a) (hc : U64 c) : Ev (fun n => f21_opt_Key_Option n a b c) (fun r => r = (1, keyB a b c)) := by
  simp only [f21_opt_Key_Option, Q_is, Option.bind_some]
  refine Ev.bind (put_is [] [(8, a)] (by simp) (by simp) (fun f hf => by simp at hf; subst hf; exact ha.1)) ?_
  rintro _ rfl
  have e : [] ++ enc [((8 : Int), a)] = be 8 a := by simp [enc_cons, f8]; rfl
  rw [e]
  cases b with
  | false => exact Ev.neg (by decide) (Ev.some (by simp [keyB]))
  | true =>
    refine Ev.pos rfl (Ev.bind (put_is _ [(8, c)] (by rw [be_len]; omega) (by simp) (fun f hf => by simp at hf; subst hf; exact hc.1)) ?_)
    rintro _ rfl
    exact Ev.some (by simp [keyB, enc_cons, f8]; rfl)
theorem refKey_is (a : Int) (b : Bool) (c : Int) (ha : U64 a) (hc : U64 c) : Ev (fun n => f22_broughamref08_Key n a c b) (fun r => r = keyB a b c) := by
  simp only [f22_broughamref08_Key]
  refine Ev.bind (refPut2 8 a (by omega) ha) ?_
  rintro _ rfl
  cases b with
  | false => exact Ev.neg (by decide) (Ev.some (by simp [keyB]))
  | true =>
    refine Ev.pos rfl (Ev.bind (refPut 8 _ c (by omega) (by rw [be_len]; omega) hc) ?_)
    rintro _ rfl
    exact Ev.some (by simp [keyB])

def joinB (a b c : Int) (d e : Bool) (f : Int) : List Int := be 4 a ++ be 4 b ++ [c] ++ [bit d] ++ if e then be 8 f else []
theorem join_is (a b c : Int) (d e : Bool) (f : Int) (ha : U32 a) (hb : U32 b) (hc : U8 c) (hf : U64 f) : Ev (fun n => f23_opt_Join_Option n a b c d e f) (fun r => r = (2, joinB a b c d e f)) := by
  simp only [f23_opt_Join_Option, W_is ha, W_is hb, B_is hc, flag_is, Q_is, Option.bind_some]
  refine Ev.bind (put_is [] [(4, a), (4, b), (1, c), (1, bit d)] (by simp) (by simp) (fun x hx => by
    simp at hx; rcases hx with rfl | rfl | rfl | rfl
    · exact ha.1
    · exact hb.1
    · exact hc.1
    · exact (bit_in d).1)) ?_
  rintro _ rfl
  have e1 : [] ++ enc [((4 : Int), a), (4, b), (1, c), (1, bit d)] = be 4 a ++ be 4 b ++ [c] ++ [bit d] := by
    simp only [enc_cons, f4, f1, be1 hc, be1 (bit_in d)]; simp [enc]
  rw [e1]
  cases e with
  | false => exact Ev.neg (by decide) (Ev.some (by simp [joinB]))
  | true =>
    refine Ev.pos rfl (Ev.bind (put_is _ [(8, f)] (by simp [be_len]) (by simp) (fun x hx => by simp at hx; subst hx; exact hf.1)) ?_)
    rintro _ rfl
    refine Ev.some ?_
    simp only [enc_cons, f8, joinB]; simp [enc]
theorem refJoin_is (a b c : Int) (d e : Bool) (f : Int) (ha : U32 a) (hb : U32 b) (hc : U8 c) (hf : U64 f) : Ev (fun n => f24_broughamref08_Join n a b c d e f) (fun r => r = joinB a b c d e f) := by
  simp only [f24_broughamref08_Join]
  rw [u64_id ha.1 (by omega), u64_id hb.1 (by omega)]
  refine Ev.bind (refPut2 4 a (by omega) (by omega)) ?_
  rintro _ rfl
  refine Ev.bind (refPut 4 _ b (by omega) (by rw [be_len]; omega) (by omega)) ?_
  rintro _ rfl
  refine Ev.guard (by simp [maxLen, be_len]) ?_
  simp only [refBit_is, Option.bind_some]
  have hbi := bit_in d
  refine Ev.bind (refPut 1 _ (bit d) (by omega) (by simp [be_len]) (by omega)) ?_
  rintro _ rfl
  rw [be1 (bit_in d)]
  cases e with
  | false => exact Ev.neg (by decide) (Ev.some (by simp [joinB]))
  | true =>
    refine Ev.pos rfl (Ev.bind (refPut 8 _ f (by omega) (by simp [be_len]) hf) ?_)
    rintro _ rfl
    exact Ev.some (by simp [joinB])

def dataB (a b : Bool) (c d e f : Int) : List Int := [bit a + 2 * bit b] ++ be 8 c ++ be 8 d ++ be 4 e ++ be 8 f
theorem dbit_in (a b : Bool) : U8 (bit a + 2 * bit b) := by cases a <;> cases b <;> decide
theorem bits_is (a b : Bool) : f80_opt_bits a b = some (bit a + 2 * bit b) := by cases a <;> cases b <;> decide
theorem data_is (a b : Bool) (c d e f : Int) (hc : U64 c) (hd : U64 d) (he : U32 e) (hf : U64 f) : Ev (fun n => f26_opt_Data_Option n a b c d e f) (fun r => r = (3, dataB a b c d e f)) := by
  simp only [f26_opt_Data_Option, bits_is, Option.bind_some, B_is (dbit_in a b), Q_is, W_is he]
  refine Ev.bind (put_is [] [(1, bit a + 2 * bit b), (8, c), (8, d), (4, e), (8, f)] (by simp) (by simp) (fun x hx => by
    simp at hx; rcases hx with rfl | rfl | rfl | rfl | rfl
    · exact (dbit_in a b).1
    · exact hc.1
    · exact hd.1
    · exact he.1
    · exact hf.1)) ?_
  rintro _ rfl
  refine Ev.some ?_
  simp only [enc_cons, f8, f4, f1, be1 (dbit_in a b), dataB]; simp [enc]
theorem refData_is (a b : Bool) (c d e f : Int) (hc : U64 c) (hd : U64 d) (he : U32 e) (hf : U64 f) : Ev (fun n => f27_broughamref08_Data n a b c d e f) (fun r => r = dataB a b c d e f) := by
  have hbi := dbit_in a b
  have hb := bit_in b
  simp only [f27_broughamref08_Data, refBit_is, Option.bind_some]
  rw [u64_id (show 0 ≤ 2 * bit b by omega) (by omega), u64_id (show 0 ≤ bit a + 2 * bit b by omega) (by omega), u64_id he.1 (by omega)]
  refine Ev.bind (refPut2 1 _ (by omega) (by omega)) ?_
  rintro _ rfl
  refine Ev.bind (refPut 8 _ c (by omega) (by simp [be_len]) hc) ?_
  rintro _ rfl
  refine Ev.bind (refPut 8 _ d (by omega) (by simp [be_len]) hd) ?_
  rintro _ rfl
  refine Ev.bind (refPut 4 _ e (by omega) (by simp [be_len]) (by omega)) ?_
  rintro _ rfl
  refine Ev.bind (refPut 8 _ f (by omega) (by simp [be_len]) hf) ?_
  rintro _ rfl
  exact Ev.some (by rw [be1 hbi]; rfl)

def wordB (a b c : Int) (d : Bool) (e : Int) : List Int := be 4 a ++ [b, c] ++ [bit d] ++ be 8 e
theorem word_is (k a b c : Int) (d : Bool) (e : Int) (ha : U32 a) (hb : U8 b) (hc : U8 c) (he : U64 e) : Ev (fun n => f29_opt_Word_Option n k a b c d e) (fun r => r = (k, wordB a b c d e)) := by
  simp only [f29_opt_Word_Option, W_is ha, B_is hb, B_is hc, flag_is, Q_is, Option.bind_some]
  refine Ev.bind (put_is [] [(4, a), (1, b), (1, c), (1, bit d), (8, e)] (by simp) (by simp) (fun x hx => by
    simp at hx; rcases hx with rfl | rfl | rfl | rfl | rfl
    · exact ha.1
    · exact hb.1
    · exact hc.1
    · exact (bit_in d).1
    · exact he.1)) ?_
  rintro _ rfl
  refine Ev.some ?_
  simp only [enc_cons, f8, f4, f1, be1 hb, be1 hc, be1 (bit_in d), wordB]; simp [enc]
theorem refWord_is (a b c : Int) (d : Bool) (e : Int) (ha : U32 a) (hb : U8 b) (hc : U8 c) (he : U64 e) : Ev (fun n => f30_broughamref08_Word n a b c d e) (fun r => r = wordB a b c d e) := by
  have hbi := bit_in d
  simp only [f30_broughamref08_Word]
  rw [u64_id ha.1 (by omega)]
  refine Ev.bind (refPut2 4 a (by omega) (by omega)) ?_
  rintro _ rfl
  refine Ev.guard (by simp [maxLen, be_len]) ?_
  simp only [refBit_is, Option.bind_some]
  refine Ev.bind (refPut 1 _ (bit d) (by omega) (by simp [be_len]) (by omega)) ?_
  rintro _ rfl
  refine Ev.bind (refPut 8 _ e (by omega) (by simp [be_len]) he) ?_
  rintro _ rfl
  exact Ev.some (by rw [be1 hbi]; rfl)
theorem is_is (k : Int) (l : List Int) : f20_broughamlaw08_is k l k l = some true := by
  simp only [f20_broughamlaw08_is, beq_self_eq_true, if_true]

theorem OptWrites (x : (Int × Bool × Int) × (Int × Int × Int × Bool × Bool × Int) × (Bool × Bool × Int × Int × Int × Int) × (Int × Int × Int × Int × Bool × Int))
    (h : K.ok (.pair (.pair (.int .u64) (.pair .bool (.int .u64))) (.pair (.pair (.int .u32) (.pair (.int .u32) (.pair (.int .u8) (.pair .bool (.pair .bool (.int .u64)))))) (.pair (.pair .bool (.pair .bool (.pair (.int .u64) (.pair (.int .u64) (.pair (.int .u32) (.int .u64)))))) (.pair (.int .u8) (.pair (.int .u32) (.pair (.int .u8) (.pair (.int .u8) (.pair .bool (.int .u64))))))))) x) :
    ∃ n, f4_broughamlaw08_OptWrites n x.1.1 x.1.2.1 x.1.2.2 x.2.1.1 x.2.1.2.1 x.2.1.2.2.1 x.2.1.2.2.2.1 x.2.1.2.2.2.2.1 x.2.1.2.2.2.2.2 x.2.2.1.1 x.2.2.1.2.1 x.2.2.1.2.2.1 x.2.2.1.2.2.2.1 x.2.2.1.2.2.2.2.1 x.2.2.1.2.2.2.2.2 x.2.2.2.1 x.2.2.2.2.1 x.2.2.2.2.2.1 x.2.2.2.2.2.2.1 x.2.2.2.2.2.2.2.1 x.2.2.2.2.2.2.2.2 = some true := by
  obtain ⟨⟨k1, _, k3⟩, ⟨j1, j2, j3, _, _, j6⟩, ⟨_, _, d3, d4, d5, d6⟩, ⟨_, w2, w3, w4, _, w6⟩⟩ := h
  apply Ev.true
  simp only [f4_broughamlaw08_OptWrites]
  refine Ev.bind (key_is _ _ _ (ok_u64 k1) (ok_u64 k3)) ?_
  rintro _ rfl
  refine Ev.bind (refKey_is _ _ _ (ok_u64 k1) (ok_u64 k3)) ?_
  rintro _ rfl
  simp only [is_is, Option.bind_some, if_true]
  refine Ev.bind (join_is _ _ _ _ _ _ (ok_u32 j1) (ok_u32 j2) (ok_u8 j3) (ok_u64 j6)) ?_
  rintro _ rfl
  simp only [f25_broughamlaw08_join, Option.bind_some]
  refine Ev.bind (refJoin_is _ _ _ _ _ _ (ok_u32 j1) (ok_u32 j2) (ok_u8 j3) (ok_u64 j6)) ?_
  rintro _ rfl
  simp only [is_is, Option.bind_some, if_true]
  refine Ev.bind (data_is _ _ _ _ _ _ (ok_u64 d3) (ok_u64 d4) (ok_u32 d5) (ok_u64 d6)) ?_
  rintro _ rfl
  simp only [f28_broughamlaw08_data, Option.bind_some]
  refine Ev.bind (refData_is _ _ _ _ _ _ (ok_u64 d3) (ok_u64 d4) (ok_u32 d5) (ok_u64 d6)) ?_
  rintro _ rfl
  simp only [is_is, Option.bind_some, if_true]
  refine Ev.bind (word_is _ _ _ _ _ _ (ok_u32 w2) (ok_u8 w3) (ok_u8 w4) (ok_u64 w6)) ?_
  rintro _ rfl
  simp only [f31_broughamlaw08_word, Option.bind_some]
  refine Ev.bind (refWord_is _ _ _ _ _ (ok_u32 w2) (ok_u8 w3) (ok_u8 w4) (ok_u64 w6)) ?_
  rintro _ rfl
  simp only [is_is, Option.bind_some, if_true]
  exact Ev.bind alive_is (fun r hr => Ev.some hr)
end Go.Proofs.YtddglebabaaghaaF08
