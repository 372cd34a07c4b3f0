/- KeysDraws: the numbers that a seed draws, and the key of one of several paths, as the document says: of the functions that text F09 prints. Conditions: none. -/
import Derived.Test.YtdcnjkjgmagjmaaPurePack
import Derived.Test.YtdcnjkjgmagjmaaPureKeysRoles
namespace Go.Proofs.YtdcnjkjgmagjmaaF09
open Go Zed
set_option linter.unusedVariables false
set_option linter.unusedSimpArgs false

theorem be_bytes : ∀ (s : Nat) (v : Int), Bytes (be s v)
  | 0, _ => Bytes.nil
  | s + 1, v => (be_bytes s (v / 256)).append (Bytes.cons (by omega) Bytes.nil)
theorem refDrawn_is (a b n : Int) (hn : 0 ≤ n ∧ n < 18446744073709551616) : Ev (fun m => f50_broughamref09_Drawn m a b n) (fun r => r = sum a b (be 8 n)) := by
  simp only [f50_broughamref09_Drawn]
  refine Ev.bind (refPut2 8 n (by omega) hn) ?_
  rintro _ rfl
  refine Ev.bind (refSum_is a b _ (be_bytes _ _) (by rw [be_len]; omega)) ?_
  rintro _ rfl
  exact Ev.some rfl
theorem drawn_is (a b n : Int) (hn : 0 ≤ n ∧ n < 18446744073709551616) : Ev (fun m => f51_keys_Drawn m a b n) (fun r => r = sum a b (be 8 n)) := by
  simp only [f51_keys_Drawn, f86_pack_Q, Option.bind_some]
  refine Ev.bind (put_is [] [(8, n)] (by simp) (by simp) (fun f hf => by simp at hf; subst hf; exact hn.1)) ?_
  rintro _ rfl
  have e : [] ++ enc [((8 : Int), n)] = be 8 n := by simp [enc, fieldB]
  rw [e]
  refine Ev.bind (sum1 a b _ (by rw [be_len]; omega)) ?_
  rintro _ rfl
  exact Ev.some rfl

theorem draws (id from_ many a b : Int) (hf : 0 ≤ from_ ∧ from_ < 18446744073709551616) (hm : many ≤ 100) : ∀ (k : Nat) (i : Int), 0 ≤ i → i + k = many →
    Ev (fun n => f12_broughamlaw09_KeysDraws_L6 n id from_ many i a b a b ((from_ + i) % 18446744073709551616)) (fun r => r = .inr (id, a, b))
  | 0, i, h0, hi => by
    apply Ev.succ
    simp only [f12_broughamlaw09_KeysDraws_L6]
    exact Ev.neg (by simp; omega) (Ev.some rfl)
  | k + 1, i, h0, hi => by
    apply Ev.succ
    simp only [f12_broughamlaw09_KeysDraws_L6]
    have e1 : IntKind.wrap .u64 (from_ + IntKind.wrap .u64 i) = (from_ + i) % 18446744073709551616 := by rw [w_u64, w_u64]; omega
    have hr : 0 ≤ (from_ + i) % 18446744073709551616 ∧ (from_ + i) % 18446744073709551616 < 18446744073709551616 := by omega
    have e2 : IntKind.wrap .u64 (IntKind.wrap .u64 ((from_ + i) % 18446744073709551616 + 1) - 1) = (from_ + i) % 18446744073709551616 := by rw [w_u64, w_u64]; omega
    have e3 : IntKind.wrap .u64 ((from_ + i) % 18446744073709551616 + 1) = (from_ + (i + 1)) % 18446744073709551616 := by rw [w_u64]; omega
    simp only [f52_keys_Source_Draw]
    rw [e1, e2, e3, i64_id (show -9223372036854775808 ≤ i + 1 by omega) (by omega)]
    refine Ev.pos (by simp; omega) (Ev.bind (refDrawn_is a b _ hr) ?_)
    rintro _ rfl
    refine Ev.bind (drawn_is a b _ hr) ?_
    rintro _ rfl
    refine Ev.neg (by simp) (Ev.bind (P := fun r => r = (sum a b (be 8 ((from_ + i) % 18446744073709551616)), a, b, (from_ + (i + 1)) % 18446744073709551616)) (Ev.bind (drawn_is a b _ hr) (fun r hr => Ev.some (by rw [hr]))) ?_)
    rintro _ rfl
    exact Ev.neg (by simp) (Ev.neg (by simp) (draws id from_ many a b hf hm k (i + 1) (by omega) (by omega)))

theorem KeysDraws (s : Int × Int) (h0 : K.ok (.pair (.int .u64) (.int .u64)) s) (x : Int × Int) (h1 : K.ok (.pair (.int .u64) (.int .i64)) x) (id : Int) (h2 : K.ok (.int .u8) id) : ∃ n, f12_broughamlaw09_KeysDraws n s.1 s.2 x.1 x.2 id = some true := by
  obtain ⟨a, b⟩ := s
  obtain ⟨from_, many⟩ := x
  obtain ⟨hx1, hx2⟩ := h1
  have hf := ok_u64 hx1
  have hid := ok_u8 h2
  dsimp only at hf ⊢
  apply Ev.true
  simp only [f12_broughamlaw09_KeysDraws]
  refine Ev.ite (fun _ => Ev.some rfl) fun a1 => Ev.ite (fun _ => Ev.some rfl) fun a2 => ?_
  simp only [gt_iff_lt, decide_eq_true_eq] at a1 a2
  have := draws id from_ many a b hf (by omega) many.toNat 0 (by omega) (by omega)
  rw [show (from_ + 0) % 18446744073709551616 = from_ by omega] at this
  refine Ev.bind this ?_
  rintro _ rfl
  simp only [f53_keys_Flow, f54_broughamref09_Flow]
  refine Ev.bind (P := fun r => r = (sum a b [1, 102, id], sum a b [2, 102, id])) (Ev.bind (pair1 a b _ (by simp)) (fun r hr => Ev.some (by rw [hr]))) ?_
  rintro _ rfl
  refine Ev.bind (P := fun r => r = (sum a b [1, 102, id], sum a b [2, 102, id])) (Ev.bind (refPair_is a b _ (Bytes.cons (by decide) (Bytes.cons hid Bytes.nil)) (by simp)) (fun r hr => Ev.some (by rw [hr]))) ?_
  rintro _ rfl
  exact Ev.pos (by simp) (Ev.bind alive_is (fun r hr => Ev.some hr))
end Go.Proofs.YtdcnjkjgmagjmaaF09
