/- MAC: what covers a segment and an option, their sums, and each option's bytes and back: of the functions that text F10 prints. Conditions: none. -/
import Derived.Test.YtddglebabaaghaaPureLib10
import Derived.Test.YtddglebabaaghaaPureSip10
namespace Go.Proofs.YtddglebabaaghaaF10
open Go Zed
set_option linter.unusedVariables false
set_option linter.unusedSimpArgs false

abbrev U16 (x : Int) : Prop := 0 ≤ x ∧ x < 65536
theorem f2 (v : Int) : fieldB (2, v) = be 2 v := rfl
theorem H_is {x : Int} (h : U16 x) : f85_pack_H x = some (2, x) := by unfold f85_pack_H; rw [u64_id h.1 (by omega)]
structure Seg where
  s0 : Int
  s1 : Int
  s2 : Int
  s3 : Int
  s4 : Int
  s6 : List Int
def Seg.ok (s : Seg) : Prop := U16 s.s0 ∧ U16 s.s1 ∧ U32 s.s2 ∧ U32 s.s3 ∧ U8 s.s4 ∧ Bytes s.s6 ∧ s.s6.length ≤ 2000
def hdr (s : Seg) : List Int := be 2 s.s0 ++ be 2 s.s1 ++ be 4 s.s2 ++ be 4 s.s3 ++ [s.s4]
theorem hdr_len (s : Seg) : (hdr s).length = 13 := by simp [hdr, be_len]
theorem header_is (s : Seg) (h : s.ok) (s5 : List O) : Ev (fun n => f44_seg_Header n s.s0 s.s1 s.s2 s.s3 s.s4 s5 s.s6) (fun r => r = hdr s) := by
  obtain ⟨h0, h1, h2, h3, h4, _⟩ := h
  simp only [f44_seg_Header, H_is h0, H_is h1, W_is h2, W_is h3, B_is h4, Option.bind_some]
  refine Ev.bind (put_is [] [(2, s.s0), (2, s.s1), (4, s.s2), (4, s.s3), (1, s.s4)] (by simp) (by simp) (fun x hx => by
    simp at hx; rcases hx with rfl | rfl | rfl | rfl | rfl
    · exact h0.1
    · exact h1.1
    · exact h2.1
    · exact h3.1
    · exact h4.1)) ?_
  rintro _ rfl
  refine Ev.some ?_
  simp only [enc_cons, f2, f4, f1, be1 h4, hdr]; simp [enc]
theorem refHeader_is (s : Seg) (h : s.ok) (s5 : List O) : Ev (fun n => f45_broughamref07_Header n s.s0 s.s1 s.s2 s.s3 s.s4 s5 s.s6) (fun r => r = hdr s) := by
  obtain ⟨h0, h1, h2, h3, h4, _⟩ := h
  simp only [f45_broughamref07_Header]
  rw [u64_id h0.1 (by omega), u64_id h1.1 (by omega), u64_id h2.1 (by omega), u64_id h3.1 (by omega)]
  refine Ev.bind (refPut2 2 _ (by omega) (by omega)) ?_
  rintro _ rfl
  refine Ev.bind (refPut 2 _ _ (by omega) (by simp [be_len]) (by omega)) ?_
  rintro _ rfl
  refine Ev.bind (refPut 4 _ _ (by omega) (by simp [be_len]) (by omega)) ?_
  rintro _ rfl
  refine Ev.bind (refPut 4 _ _ (by omega) (by simp [be_len]) (by omega)) ?_
  rintro _ rfl
  exact Ev.guard (by simp [maxLen, be_len]) (Ev.some rfl)

/-- What an option's sum covers. -/
def cover (s : Seg) (k : Int) (b : List Int) : List Int := hdr s ++ [k, (b.length : Int) % 256] ++ b.take (b.length - 8) ++ be 2 (s.s6.length : Int) ++ s.s6
theorem cover_len (s : Seg) (h : s.ok) (k : Int) (b : List Int) : (cover s k b).length ≤ 2017 + b.length := by
  have := h.2.2.2.2.2.2
  simp only [cover, List.length_append, hdr_len, List.length_cons, List.length_nil, List.length_take, be_len]; omega
theorem cover_bytes (s : Seg) (h : s.ok) (k : Int) (b : List Int) (hk : U8 k) (hb : Bytes b) : Bytes (cover s k b) := by
  obtain ⟨h0, h1, h2, h3, h4, h6, _⟩ := h
  unfold cover hdr
  exact ((((((((be_bytes 2 _).append (be_bytes 2 _)).append (be_bytes 4 _)).append (be_bytes 4 _)).append (Bytes.cons h4 Bytes.nil)).append (Bytes.cons hk (Bytes.cons (by omega) Bytes.nil))).append (hb.take _)).append (be_bytes 2 _)).append h6
theorem cover_is (s : Seg) (h : s.ok) (s5 : List O) (k : Int) (b : List Int) (hk : U8 k) (hl : b.length ≤ 400) : Ev (fun n => f56_mac_Cover n s.s0 s.s1 s.s2 s.s3 s.s4 s5 s.s6 k b) (fun r => r = cover s k b) := by
  have h6 := h.2.2.2.2.2.2
  simp only [f56_mac_Cover]
  have e1 : (if IntKind.wrap .i64 ((b.length : Int) - 8) < 0 then 0 else IntKind.wrap .i64 ((b.length : Int) - 8)) = ((b.length - 8 : Nat) : Int) := by rw [i64_id (by omega) (by omega)]; omega
  have e2 : U8 (IntKind.wrap .u8 (b.length : Int)) := by rw [w_u8]; omega
  have e3 : U16 (IntKind.wrap .u16 (s.s6.length : Int)) := by rw [w_u16]; omega
  rw [e1]
  refine Ev.guard (by simp [cutOk]) (Ev.bind (header_is s h s5) ?_)
  rintro _ rfl
  simp only [B_is hk, B_is e2, H_is e3, Option.bind_some]
  refine Ev.bind (put_is _ [(1, k), (1, IntKind.wrap .u8 (b.length : Int))] (by rw [hdr_len]; omega) (by simp) (fun x hx => by
    simp at hx; rcases hx with rfl | rfl
    · exact hk.1
    · exact e2.1)) ?_
  rintro _ rfl
  have ee : enc [(1, k), (1, IntKind.wrap .u8 (b.length : Int))] = [k, (b.length : Int) % 256] := by
    simp only [enc_cons, f1, be1 hk, be1 e2]; simp [enc, w_u8]
  rw [ee, Int.toNat_natCast]
  refine Ev.guard (by simp [maxLen, hdr_len]; omega) ?_
  refine Ev.bind (put_is _ [(2, IntKind.wrap .u16 (s.s6.length : Int))] (by simp [hdr_len]; omega) (by simp) (fun x hx => by simp at hx; subst hx; exact e3.1)) ?_
  rintro _ rfl
  have e4 : enc [(2, IntKind.wrap .u16 (s.s6.length : Int))] = be 2 (s.s6.length : Int) := by
    simp only [enc_cons, f2, u16_id (show 0 ≤ (s.s6.length : Int) by omega) (by omega)]; simp [enc]
  rw [e4]
  exact Ev.guard (by simp [maxLen, hdr_len, be_len]; omega) (Ev.some rfl)
theorem refCover_is (s : Seg) (h : s.ok) (s5 : List O) (k : Int) (b : List Int) (hl : b.length ≤ 400) : Ev (fun n => f64_broughamref10_Cover n s.s0 s.s1 s.s2 s.s3 s.s4 s5 s.s6 k b) (fun r => r = cover s k b) := by
  have h6 := h.2.2.2.2.2.2
  simp only [f64_broughamref10_Cover]
  refine Ev.bind (refHeader_is s h s5) ?_
  rintro _ rfl
  rw [tmod_e (by omega), u8_id (show 0 ≤ (b.length : Int) % 256 by omega) (by omega), u64_id (show 0 ≤ (s.s6.length : Int) by omega) (by omega), i64_id (show -9223372036854775808 ≤ (b.length : Int) - 8 by omega) (by omega)]
  refine Ev.guard (by simp [maxLen, hdr_len]) (Ev.ite (fun h8 => ?_) (fun h8 => ?_))
  · simp only [gt_iff_lt, decide_eq_true_eq] at h8
    have e5 : ((b.length : Int) - 8).toNat = b.length - 8 := by omega
    rw [e5]
    refine Ev.guard (by simp [cutOk]; omega) (Ev.guard (by simp [maxLen, hdr_len]; omega) (Ev.bind (refPut 2 _ _ (by omega) (by simp [hdr_len]; omega) (by omega)) ?_))
    rintro _ rfl
    exact Ev.guard (by simp [maxLen, hdr_len, be_len]; omega) (Ev.some rfl)
  · simp only [gt_iff_lt, decide_eq_true_eq] at h8
    refine Ev.bind (refPut 2 _ _ (by omega) (by simp [hdr_len]) (by omega)) ?_
    rintro _ rfl
    refine Ev.guard (by simp [maxLen, hdr_len, be_len]; omega) (Ev.some ?_)
    unfold cover
    rw [show b.length - 8 = 0 by omega, List.take_zero, List.append_nil]
def tag (a c : Int) (s : Seg) (k : Int) (b : List Int) : Int := Sip.sum a c (cover s k b)
theorem tag_is (a c : Int) (s : Seg) (h : s.ok) (s5 : List O) (k : Int) (b : List Int) (hk : U8 k) (hl : b.length ≤ 400) : Ev (fun n => f65_mac_Tag n a c s.s0 s.s1 s.s2 s.s3 s.s4 s5 s.s6 k b) (fun r => r = tag a c s k b) := by
  simp only [f65_mac_Tag]
  refine Ev.bind (cover_is s h s5 k b hk hl) ?_
  rintro _ rfl
  have := cover_len s h k b
  refine Ev.bind (Sip.sum_is a c [cover s k b] (by simp) (fun x hx => by simp at hx; subst hx; omega)) ?_
  rintro _ rfl
  exact Ev.some (by simp [tag])
theorem refTag_is (a c : Int) (s : Seg) (h : s.ok) (s5 : List O) (k : Int) (b : List Int) (hk : U8 k) (hb : Bytes b) (hl : b.length ≤ 400) : Ev (fun n => f66_broughamref10_Tag n a c s.s0 s.s1 s.s2 s.s3 s.s4 s5 s.s6 k b) (fun r => r = tag a c s k b) := by
  simp only [f66_broughamref10_Tag]
  refine Ev.bind (refCover_is s h s5 k b hl) ?_
  rintro _ rfl
  have := cover_len s h k b
  refine Ev.bind (Sip.refSum_is a c _ (cover_bytes s h k b hk hb) (by omega)) ?_
  rintro _ rfl
  exact Ev.some rfl
theorem right_is (a c : Int) (s : Seg) (h : s.ok) (s5 : List O) (k : Int) (b : List Int) (t : Int) (hk : U8 k) (hl : b.length ≤ 400) : Ev (fun n => f67_mac_Right n a c s.s0 s.s1 s.s2 s.s3 s.s4 s5 s.s6 k b t) (fun r => r = (tag a c s k b == t)) := by
  simp only [f67_mac_Right]
  refine Ev.bind (tag_is a c s h s5 k b hk hl) ?_
  rintro _ rfl
  exact Ev.some rfl
theorem tag_in (a c : Int) (s : Seg) (k : Int) (b : List Int) : 0 ≤ tag a c s k b ∧ tag a c s k b < 18446744073709551616 := by
  unfold tag Sip.sum Sip.fin
  exact ⟨bits_lo_u64 _ _ _, Int.lt_of_le_of_lt (bits_hi_u64 _ _ _) (by decide)⟩

/-! Numbers out of their bytes, and back. -/
theorem num_be : ∀ (s : Nat) (v : Int), s ≤ 8 → 0 ≤ v ∧ v < 256 ^ s → num (be s v) = v
  | 0, v, _, h => by simp at h; simp [be, num]; omega
  | s + 1, v, hs, h => by
    rw [Int.pow_succ] at h
    have ih := num_be s (v / 256) (by omega) (by omega)
    have hp : (256 : Int) ^ (s + 1) ≤ 18446744073709551616 := by
      have := Nat.pow_le_pow_right (n := 256) (by decide) hs
      have := Int.ofNat_le.2 this
      rw [Int.natCast_pow, Int.natCast_pow] at this
      exact this
    rw [Int.pow_succ] at hp
    unfold num at ih ⊢
    rw [be, List.foldl_append, ih]
    simp only [List.foldl_cons, List.foldl_nil, st]
    omega
theorem be_num : ∀ (l : List Int), Bytes l → l.length ≤ 8 → be l.length (num l) = l := by
  have key : ∀ (s : Nat) (l : List Int), l.length = s → Bytes l → s ≤ 8 → be s (num l) = l := by
    intro s
    induction s with
    | zero => intro l h _ _; rw [List.eq_nil_of_length_eq_zero h]; rfl
    | succ s ih =>
      intro l h hb hs
      have hi : s < l.length := by omega
      have hsp : l = l.take s ++ [l.getD s 0] := by
        have := drop_cons hi 0
        rw [List.drop_eq_nil_of_le (show l.length ≤ s + 1 by omega)] at this
        rw [← this, List.take_append_drop]
      have hx := hb.get s
      have htl : (l.take s).length = s := by simp; omega
      have hin := num_in (l.take s) (by omega) (hb.take _)
      rw [htl] at hin
      have hp : (256 : Int) ^ (s + 1) ≤ 18446744073709551616 := by
        have := Nat.pow_le_pow_right (n := 256) (by decide) hs
        have := Int.ofNat_le.2 this
        rw [Int.natCast_pow, Int.natCast_pow] at this
        exact this
      rw [Int.pow_succ] at hp
      have e : num l = num (l.take s) * 256 + l.getD s 0 := by
        have h1 : num l = st (num (l.take s)) (l.getD s 0) := by
          show List.foldl st 0 l = st (List.foldl st 0 (l.take s)) (l.getD s 0)
          have h2 : List.foldl st 0 l = List.foldl st 0 (l.take s ++ [l.getD s 0]) := by rw [← hsp]
          rw [h2, List.foldl_append]; rfl
        rw [h1]; unfold st; omega
      rw [be, e, show (num (l.take s) * 256 + l.getD s 0) / 256 = num (l.take s) by omega, show (num (l.take s) * 256 + l.getD s 0) % 256 = l.getD s 0 by omega, ih _ htl (hb.take _) (by omega)]
      exact hsp.symm
  exact fun l hb hl => key l.length l rfl hb hl
theorem be_inj : ∀ (s : Nat) (v w : Int), 0 ≤ v ∧ v < 256 ^ s → 0 ≤ w ∧ w < 256 ^ s → be s v = be s w → v = w
  | 0, v, w, h, k, _ => by simp at h k; omega
  | s + 1, v, w, h, k, e => by
    rw [Int.pow_succ] at h k
    obtain ⟨e1, e2⟩ := List.append_inj' (show be s (v / 256) ++ [v % 256] = be s (w / 256) ++ [w % 256] from e) rfl
    have := be_inj s _ _ (by omega) (by omega) e1
    simp at e2
    omega

theorem cover_inj (s t : Seg) (hs : s.ok) (ht : t.ok) (k m : Int) (b c : List Int) (hb : 8 ≤ b.length ∧ b.length ≤ 255) (hc : 8 ≤ c.length ∧ c.length ≤ 255) :
    cover s k b = cover t m c ↔ (s.s0 = t.s0 ∧ s.s1 = t.s1 ∧ s.s2 = t.s2 ∧ s.s3 = t.s3 ∧ s.s4 = t.s4 ∧ k = m ∧ b.take (b.length - 8) = c.take (c.length - 8) ∧ s.s6 = t.s6) := by
  obtain ⟨h0, h1, h2, h3, h4, _, hl⟩ := hs
  obtain ⟨k0, k1, k2, k3, k4, _, kl⟩ := ht
  constructor
  · intro e
    unfold cover at e
    simp only [List.append_assoc] at e
    obtain ⟨e1, e2⟩ := List.append_inj e (by rw [hdr_len, hdr_len])
    obtain ⟨e3, e4⟩ := List.append_inj e2 (by simp)
    simp only [List.cons.injEq, and_true] at e3
    have hlen : b.length = c.length := by omega
    obtain ⟨e5, e6⟩ := List.append_inj e4 (by simp; omega)
    obtain ⟨e7, e8⟩ := List.append_inj e6 (by rw [be_len, be_len])
    unfold hdr at e1
    simp only [List.append_assoc] at e1
    obtain ⟨g1, e1⟩ := List.append_inj e1 (by rw [be_len, be_len])
    obtain ⟨g2, e1⟩ := List.append_inj e1 (by rw [be_len, be_len])
    obtain ⟨g3, e1⟩ := List.append_inj e1 (by rw [be_len, be_len])
    obtain ⟨g4, e1⟩ := List.append_inj e1 (by rw [be_len, be_len])
    simp only [List.cons.injEq, and_true] at e1
    have p2 : (256 : Int) ^ 2 = 65536 := by decide
    have p4 : (256 : Int) ^ 4 = 4294967296 := by decide
    exact ⟨be_inj 2 _ _ (by rw [p2]; exact h0) (by rw [p2]; exact k0) g1, be_inj 2 _ _ (by rw [p2]; exact h1) (by rw [p2]; exact k1) g2, be_inj 4 _ _ (by rw [p4]; exact h2) (by rw [p4]; exact k2) g3, be_inj 4 _ _ (by rw [p4]; exact h3) (by rw [p4]; exact k3) g4, e1, e3.1, e5, e8⟩
  · rintro ⟨a0, a1, a2, a3, a4, rfl, a5, a6⟩
    have hlen : b.length = c.length := by
      have := congrArg List.length a5
      simp at this; omega
    unfold cover hdr
    rw [a0, a1, a2, a3, a4, a5, a6, hlen]
end Go.Proofs.YtddglebabaaghaaF10
