/- MacSeals: what an option's sum covers, its sum, and each option with its right sum, as the document says: of the functions that text F10 prints. Conditions: none. -/
import Derived.Test.YtddglebabaaghaaPureMacCovers
namespace Go.Proofs.YtddglebabaaghaaF10
open Go Zed
set_option linter.unusedVariables false
set_option linter.unusedSimpArgs false

theorem take_tail (p : List Int) (x : Int) : (p ++ be 8 x).take ((p ++ be 8 x).length - 8) = p := by
  rw [List.length_append, be_len, Nat.add_sub_cancel]; simp
theorem tag_tail (a c : Int) (s : Seg) (k : Int) (p : List Int) (x y : Int) : tag a c s k (p ++ be 8 x) = tag a c s k (p ++ be 8 y) := by
  unfold tag cover
  rw [take_tail, take_tail, List.length_append, List.length_append, be_len, be_len]
theorem sealed_is (a c : Int) (s : Seg) (h : s.ok) (s5 : List O) (k : Int) (hk : U8 k) (p : List Int) (hp : Bytes p) (hl : p.length ≤ 300) : Ev (fun n => f68_broughamref10_Sealed n a c s.s0 s.s1 s.s2 s.s3 s.s4 s5 s.s6 k (p ++ be 8 0)) (fun r => r = p ++ be 8 (tag a c s k (p ++ be 8 0))) := by
  have hlen : (p ++ be 8 0).length = p.length + 8 := by rw [List.length_append, be_len]
  simp only [f68_broughamref10_Sealed]
  rw [hlen, i64_id (by omega) (by omega), show ((((p.length + 8 : Nat) : Int)) - 8).toNat = p.length by omega, List.take_left]
  refine Ev.guard (by simp [cutOk]; omega) (Ev.guard (by simp [maxLen]; omega) (Ev.bind (refTag_is a c s h s5 k _ hk (hp.append (be_bytes 8 0)) (by omega)) ?_))
  rintro _ rfl
  refine Ev.bind (refPut 8 _ _ (by omega) (by simp; omega) (tag_in a c s k _)) ?_
  rintro _ rfl
  exact Ev.some (by simp)
theorem is_is (k : Int) (l : List Int) : f69_broughamlaw10_is k l k l = some true := by
  simp only [f69_broughamlaw10_is, beq_self_eq_true, if_true]

theorem seal_key (a c : Int) (s : Seg) (h : s.ok) (s5 : List O) (x0 : Int) (x1 : Bool) (x2 : Int) (h0 : U64 x0) (h2 : U64 x2) :
    Ev (fun n => f70_mac_Key n a c s.s0 s.s1 s.s2 s.s3 s.s4 s5 s.s6 x0 x1 x2) (fun r => r = (1, be 8 x0 ++ be 8 (tag a c s 1 (be 8 x0 ++ be 8 0)))) := by
  simp only [f70_mac_Key]
  refine Ev.bind (key_is x0 true x2 h0 h2) ?_
  rintro _ rfl
  refine Ev.bind (tag_is a c s h s5 1 (keyB x0 true x2) (by decide) (by simp [keyB, be_len])) ?_
  rintro _ rfl
  simp only [f72_opt_Tagged_Seal_v3, Option.bind_some]
  refine Ev.bind (key_is x0 true _ h0 (tag_in a c s 1 _)) ?_
  rintro _ rfl
  refine Ev.some ?_
  show (1, be 8 x0 ++ be 8 (tag a c s 1 (be 8 x0 ++ be 8 x2))) = _
  rw [tag_tail a c s 1 (be 8 x0) x2 0]
theorem seal_join (a c : Int) (s : Seg) (h : s.ok) (s5 : List O) (x0 x1 x2 : Int) (x3 x4 : Bool) (x5 : Int) (h0 : U32 x0) (h1 : U32 x1) (h2 : U8 x2) (h5 : U64 x5) :
    Ev (fun n => f71_mac_Join n a c s.s0 s.s1 s.s2 s.s3 s.s4 s5 s.s6 x0 x1 x2 x3 x4 x5) (fun r => r = (2, be 4 x0 ++ be 4 x1 ++ [x2] ++ [bit x3] ++ be 8 (tag a c s 2 (be 4 x0 ++ be 4 x1 ++ [x2] ++ [bit x3] ++ be 8 0)))) := by
  simp only [f71_mac_Join]
  refine Ev.bind (join_is x0 x1 x2 x3 true x5 h0 h1 h2 h5) ?_
  rintro _ rfl
  refine Ev.bind (tag_is a c s h s5 2 (joinB x0 x1 x2 x3 true x5) (by decide) (by simp [joinB, be_len])) ?_
  rintro _ rfl
  simp only [f72_opt_Tagged_Seal_v4, Option.bind_some]
  refine Ev.bind (join_is x0 x1 x2 x3 true _ h0 h1 h2 (tag_in a c s 2 _)) ?_
  rintro _ rfl
  refine Ev.some ?_
  show (2, be 4 x0 ++ be 4 x1 ++ [x2] ++ [bit x3] ++ be 8 (tag a c s 2 (be 4 x0 ++ be 4 x1 ++ [x2] ++ [bit x3] ++ be 8 x5))) = _
  rw [tag_tail a c s 2 (be 4 x0 ++ be 4 x1 ++ [x2] ++ [bit x3]) x5 0]
theorem seal_word (a c : Int) (s : Seg) (h : s.ok) (s5 : List O) (k x1 x2 x3 : Int) (x4 : Bool) (x5 : Int) (hk : U8 k) (h1 : U32 x1) (h2 : U8 x2) (h3 : U8 x3) (h5 : U64 x5) :
    Ev (fun n => f62_mac_Word n a c s.s0 s.s1 s.s2 s.s3 s.s4 s5 s.s6 k x1 x2 x3 x4 x5) (fun r => r = (k, be 4 x1 ++ [x2, x3] ++ [bit x4] ++ be 8 (tag a c s k (be 4 x1 ++ [x2, x3] ++ [bit x4] ++ be 8 0)))) := by
  simp only [f62_mac_Word]
  refine Ev.bind (word_is k x1 x2 x3 x4 x5 h1 h2 h3 h5) ?_
  rintro _ rfl
  refine Ev.bind (tag_is a c s h s5 k (wordB x1 x2 x3 x4 x5) hk (by simp [wordB, be_len])) ?_
  rintro _ rfl
  simp only [f72_opt_Tagged_Seal_v2, Option.bind_some]
  refine Ev.bind (word_is k x1 x2 x3 x4 _ h1 h2 h3 (tag_in a c s k _)) ?_
  rintro _ rfl
  refine Ev.some ?_
  show (k, be 4 x1 ++ [x2, x3] ++ [bit x4] ++ be 8 (tag a c s k (be 4 x1 ++ [x2, x3] ++ [bit x4] ++ be 8 x5))) = _
  rw [tag_tail a c s k (be 4 x1 ++ [x2, x3] ++ [bit x4]) x5 0]

theorem coverLoop (a c : Int) (s : Seg) (h : s.ok) (l : List O) (hl : Opts l) (x0 : Int) (x1 : Bool) (x2 x3 x4 x5 : Int) (x6 x7 : Bool) (x8 : Int) (x9 x10 : Bool) (x11 x12 x13 x14 x15 x16 x17 x18 : Int) (x19 : Bool) (x20 : Int) : ∀ (m i : Nat), i + m = l.length →
    Ev (fun n => f14_broughamlaw10_MacSeals_L7 n i a c s.s0 s.s1 s.s2 s.s3 s.s4 l s.s6 x0 x1 x2 x3 x4 x5 x6 x7 x8 x9 x10 x11 x12 x13 x14 x15 x16 x17 x18 x19 x20) (fun r => r = .inr (a, c, s.s0, s.s1, s.s2, s.s3, s.s4, l, s.s6, x0, x1, x2, x3, x4, x5, x6, x7, x8, x9, x10, x11, x12, x13, x14, x15, x16, x17, x18, x19, x20))
  | 0, i, hi => by
    apply Ev.succ
    simp only [f14_broughamlaw10_MacSeals_L7]
    exact Ev.neg (by simp; omega) (Ev.some rfl)
  | m + 1, i, hi => by
    apply Ev.succ
    simp only [f14_broughamlaw10_MacSeals_L7]
    obtain ⟨h1, h2, h3⟩ := hl.2 _ (getD_mem (show i < l.length by omega) (0, []))
    have hl1 := hl.1
    have g : (0 : Int) ≤ (i : Int) ∧ (i : Int) < ((l.length : Nat) : Int) := by omega
    simp only [if_pos g]
    rw [Int.toNat_natCast, i64_id (show -9223372036854775808 ≤ (i : Int) + 1 by omega) (by omega), show (i : Int) + 1 = ((i + 1 : Nat) : Int) by omega]
    refine Ev.pos (by simp; omega) (Ev.bind (cover_is s h l _ _ h1 h3) ?_)
    rintro _ rfl
    refine Ev.bind (refCover_is s h l _ _ h3) ?_
    rintro _ rfl
    exact Ev.neg (by simp) (coverLoop a c s h l hl x0 x1 x2 x3 x4 x5 x6 x7 x8 x9 x10 x11 x12 x13 x14 x15 x16 x17 x18 x19 x20 m (i + 1) (by omega))

theorem MacSeals (k : Int × Int) (h0 : K.ok (.pair (.int .u64) (.int .u64)) k) (s : Int × Int × Int × Int × Int × List (Int × List Int) × List Int) (h1 : K.ok (.pair (.int .u16) (.pair (.int .u16) (.pair (.int .u32) (.pair (.int .u32) (.pair (.int .u8) (.pair (.slice (.pair (.int .u8) (.slice (.int .u8)))) (.slice (.int .u8)))))))) s)
    (x : (Int × Bool × Int) × (Int × Int × Int × Bool × Bool × Int) × (Bool × Bool × Int × Int × Int × Int) × (Int × Int × Int × Int × Bool × Int))
    (h : K.ok (.pair (.pair (.int .u64) (.pair .bool (.int .u64))) (.pair (.pair (.int .u32) (.pair (.int .u32) (.pair (.int .u8) (.pair .bool (.pair .bool (.int .u64)))))) (.pair (.pair .bool (.pair .bool (.pair (.int .u64) (.pair (.int .u64) (.pair (.int .u32) (.int .u64)))))) (.pair (.int .u8) (.pair (.int .u32) (.pair (.int .u8) (.pair (.int .u8) (.pair .bool (.int .u64))))))))) x) :
    ∃ n, f14_broughamlaw10_MacSeals n k.1 k.2 s.1 s.2.1 s.2.2.1 s.2.2.2.1 s.2.2.2.2.1 s.2.2.2.2.2.1 s.2.2.2.2.2.2 x.1.1 x.1.2.1 x.1.2.2 x.2.1.1 x.2.1.2.1 x.2.1.2.2.1 x.2.1.2.2.2.1 x.2.1.2.2.2.2.1 x.2.1.2.2.2.2.2 x.2.2.1.1 x.2.2.1.2.1 x.2.2.1.2.2.1 x.2.2.1.2.2.2.1 x.2.2.1.2.2.2.2.1 x.2.2.1.2.2.2.2.2 x.2.2.2.1 x.2.2.2.2.1 x.2.2.2.2.2.1 x.2.2.2.2.2.2.1 x.2.2.2.2.2.2.2.1 x.2.2.2.2.2.2.2.2 = some true := by
  obtain ⟨a, c⟩ := k
  obtain ⟨s0, s1, s2, s3, s4, s5, s6⟩ := s
  obtain ⟨⟨x0, x1, x2⟩, ⟨x3, x4, x5, x6, x7, x8⟩, ⟨x9, x10, x11, x12, x13, x14⟩, ⟨x15, x16, x17, x18, x19, x20⟩⟩ := x
  obtain ⟨a0, a1, a2, a3, a4, a5, a6⟩ := h1
  obtain ⟨⟨k1, _, k3⟩, ⟨j1, j2, j3, _, _, j6⟩, ⟨_, _, d3, d4, d5, d6⟩, ⟨w1, w2, w3, w4, _, w6⟩⟩ := h
  have k1 : U64 x0 := ok_u64 k1; have k3 : U64 x2 := ok_u64 k3
  have j1 : U32 x3 := ok_u32 j1; have j2 : U32 x4 := ok_u32 j2; have j3 : U8 x5 := ok_u8 j3; have j6 : U64 x8 := ok_u64 j6
  have d3 : U64 x11 := ok_u64 d3; have d4 : U64 x12 := ok_u64 d4; have d5 : U32 x13 := ok_u32 d5; have d6 : U64 x14 := ok_u64 d6
  have w1 : U8 x15 := ok_u8 w1; have w2 : U32 x16 := ok_u32 w2; have w3 : U8 x17 := ok_u8 w3; have w4 : U8 x18 := ok_u8 w4; have w6 : U64 x20 := ok_u64 w6
  apply Ev.true
  simp only [f14_broughamlaw10_MacSeals]
  refine Ev.bind (great_is _ _ _ _ _ _ _) ?_
  rintro _ (rfl | ⟨rfl, g1, g2, g3⟩)
  · exact Ev.pos rfl (Ev.some rfl)
  have hs : (Seg.mk s0 s1 s2 s3 s4 s6).ok := ⟨ok_u16 a0, ok_u16 a1, ok_u32 a2, ok_u32 a3, ok_u8 a4, ok_bytes a6, g2⟩
  have ho : Opts s5 := ⟨by omega, fun o ho => ⟨ok_u8 (a5.2 o ho).1, ok_bytes (a5.2 o ho).2, g3 o ho⟩⟩
  have hdl : (dataB x9 x10 x11 x12 x13 x14).length ≤ 400 := by simp [dataB, be_len]
  have hdb := dataB_bytes x9 x10 x11 x12 x13 x14
  refine Ev.neg (by decide) (Ev.bind (data_is x9 x10 x11 x12 x13 x14 d3 d4 d5 d6) ?_)
  rintro _ rfl
  refine Ev.bind (cover_is _ hs s5 3 _ (by decide) hdl) ?_
  rintro _ rfl
  refine Ev.bind (refCover_is _ hs s5 3 _ hdl) ?_
  rintro _ rfl
  refine Ev.neg (by simp) (Ev.bind (tag_is a c _ hs s5 3 _ (by decide) hdl) ?_)
  rintro _ rfl
  refine Ev.bind (refTag_is a c _ hs s5 3 _ (by decide) hdb hdl) ?_
  rintro _ rfl
  refine Ev.neg (by simp) (Ev.bind (right_is a c _ hs s5 3 _ x14 (by decide) hdl) ?_)
  rintro _ rfl
  refine Ev.bind (refTag_is a c _ hs s5 3 _ (by decide) hdb hdl) ?_
  rintro _ rfl
  refine Ev.neg (by simp) (Ev.bind (coverLoop a c _ hs s5 ho x0 x1 x2 x3 x4 x5 x6 x7 x8 x9 x10 x11 x12 x13 x14 x15 x16 x17 x18 x19 x20 s5.length 0 (by omega)) ?_)
  rintro _ rfl
  dsimp only
  refine Ev.bind (refKey_is x0 true 0 k1 (by decide)) ?_
  rintro _ rfl
  refine Ev.bind (sealed_is a c _ hs s5 1 (by decide) (be 8 x0) (be_bytes 8 _) (by rw [be_len]; omega)) ?_
  rintro _ rfl
  refine Ev.bind (refJoin_is x3 x4 x5 x6 true 0 j1 j2 j3 (by decide)) ?_
  rintro _ rfl
  refine Ev.bind (sealed_is a c _ hs s5 2 (by decide) (be 4 x3 ++ be 4 x4 ++ [x5] ++ [bit x6]) ((((be_bytes 4 _).append (be_bytes 4 _)).append (Bytes.cons j3 Bytes.nil)).append (Bytes.cons (bit_in x6) Bytes.nil)) (by simp [be_len])) ?_
  rintro _ rfl
  refine Ev.bind (refData_is x9 x10 x11 x12 x13 0 d3 d4 d5 (by decide)) ?_
  rintro _ rfl
  refine Ev.bind (sealed_is a c _ hs s5 3 (by decide) ([bit x9 + 2 * bit x10] ++ be 8 x11 ++ be 8 x12 ++ be 4 x13) ((((Bytes.cons (dbit_in x9 x10) Bytes.nil).append (be_bytes 8 _)).append (be_bytes 8 _)).append (be_bytes 4 _)) (by simp [be_len])) ?_
  rintro _ rfl
  refine Ev.bind (refWord_is x16 x17 x18 x19 0 w2 w3 w4 (by decide)) ?_
  rintro _ rfl
  refine Ev.bind (sealed_is a c _ hs s5 x15 w1 (be 4 x16 ++ [x17, x18] ++ [bit x19]) (((be_bytes 4 _).append (Bytes.cons w3 (Bytes.cons w4 Bytes.nil))).append (Bytes.cons (bit_in x19) Bytes.nil)) (by simp [be_len])) ?_
  rintro _ rfl
  refine Ev.bind (seal_key a c _ hs s5 x0 x1 x2 k1 k3) ?_
  rintro _ rfl
  refine Ev.bind (P := fun r => r = true) (Ev.of (is_is _ _) rfl) ?_
  rintro _ rfl
  refine Ev.pos rfl (Ev.bind (seal_join a c _ hs s5 x3 x4 x5 x6 x7 x8 j1 j2 j3 j6) ?_)
  rintro _ rfl
  refine Ev.bind (P := fun r => r = true) (Ev.of (is_is _ _) rfl) ?_
  rintro _ rfl
  refine Ev.pos rfl (Ev.bind (seal_data a c _ hs s5 x9 x10 x11 x12 x13 x14 d3 d4 d5 d6) ?_)
  rintro _ rfl
  have et : tag a c ⟨s0, s1, s2, s3, s4, s6⟩ 3 (dataB x9 x10 x11 x12 x13 x14) = tag a c ⟨s0, s1, s2, s3, s4, s6⟩ 3 (([bit x9 + 2 * bit x10] ++ be 8 x11 ++ be 8 x12 ++ be 4 x13) ++ be 8 0) := tag_tail a c _ 3 ([bit x9 + 2 * bit x10] ++ be 8 x11 ++ be 8 x12 ++ be 4 x13) x14 0
  rw [et]
  refine Ev.bind (P := fun r => r = true) (Ev.of (is_is _ _) rfl) ?_
  rintro _ rfl
  refine Ev.pos rfl (Ev.bind (seal_word a c _ hs s5 x15 x16 x17 x18 x19 x20 w1 w2 w3 w4 w6) ?_)
  rintro _ rfl
  refine Ev.bind (P := fun r => r = true) (Ev.of (is_is _ _) rfl) ?_
  rintro _ rfl
  exact Ev.pos rfl (Ev.bind alive_is (fun r hr => Ev.some hr))
end Go.Proofs.YtddglebabaaghaaF10
