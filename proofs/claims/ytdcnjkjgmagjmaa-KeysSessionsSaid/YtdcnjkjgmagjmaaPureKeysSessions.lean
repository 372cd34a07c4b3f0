/- KeysSessions: the keys of a connection, of its handshakes, and by which number further paths name it: of the functions that text F09 prints. Conditions: none. -/
import Derived.Test.YtdcnjkjgmagjmaaPurePack
import Derived.Test.YtdcnjkjgmagjmaaPureKeysRoles
namespace Go.Proofs.YtdcnjkjgmagjmaaF09
open Go Zed
set_option linter.unusedVariables false
set_option linter.unusedSimpArgs false

theorem refPut : ∀ (s : Nat) (b : List Int) (v : Int), s ≤ 8 → b.length ≤ 10000 → 0 ≤ v ∧ v < 18446744073709551616 → Ev (fun n => f85_broughamref02_Put_v2 n b v (s : Int)) (fun r => r = b ++ be s v)
  | 0, b, v, hs, hb, hv => by
    apply Ev.succ
    simp only [f85_broughamref02_Put_v2]
    exact Ev.pos (by simp) (Ev.some (by simp [be]))
  | s + 1, b, v, hs, hb, hv => by
    apply Ev.succ
    simp only [f85_broughamref02_Put_v2]
    rw [tdiv_e hv.1, tmod_e hv.1, u64_id (by omega) (by omega), i64_id (by omega) (by omega), u8_id (by omega) (by omega), show ((s + 1 : Nat) : Int) - 1 = s by omega]
    refine Ev.neg (by simp; omega) (Ev.neg (by simp; omega) (Ev.bind (refPut s b (v / 256) (by omega) hb (by omega)) ?_))
    rintro _ rfl
    have := be_len s (v / 256)
    exact Ev.guard (by simp [maxLen]; omega) (Ev.some (by simp [be]))

theorem be_bytes : ∀ (s : Nat) (v : Int), Bytes (be s v)
  | 0, _ => Bytes.nil
  | s + 1, v => (be_bytes s (v / 256)).append (Bytes.cons (by omega) Bytes.nil)
theorem made_is (a b : Int) (t : ByteArray) (l : List Int) (ht : bytesOf t = l) (hl : Bytes l) (hn : l.length ≤ 1000) : Ev (fun n => f45_broughamref09_Made n a b t) (fun r => r = (sum a b (1 :: l), sum a b (2 :: l))) := by
  simp only [f45_broughamref09_Made]
  rw [ht]
  refine Ev.bind (refPair_is a b l hl (by omega)) ?_
  rintro _ rfl
  exact Ev.some rfl
def key (a b : Int) (l : List Int) : Int × Int := (sum a b (1 :: l), sum a b (2 :: l))
theorem sum_in (a b : Int) (l : List Int) : 0 ≤ sum a b l ∧ sum a b l < 18446744073709551616 := by
  unfold sum fin
  show 0 ≤ IntKind.u64.wrap _ ∧ IntKind.u64.wrap _ < _
  rw [w_u64]; omega
theorem yes (a b : Int × Int) (h : a = b) : (((a.1 : Int) == b.1) && ((a.2 : Int) == b.2)) = true := by subst h; simp
theorem KeysSessions (client : Int) (h0 : K.ok (.int .u64) client) (server : Int) (h1 : K.ok (.int .u64) server) (x : Int × Int) (h2 : K.ok (.pair (.int .u32) (.int .u32)) x) : ∃ n, f11_broughamlaw09_KeysSessions n client server x.1 x.2 = some true := by
  obtain ⟨x, y⟩ := x
  obtain ⟨hx, hy⟩ := h2
  have hx := ok_u32 hx
  have hy := ok_u32 hy
  dsimp only at hx hy ⊢
  apply Ev.true
  simp only [f11_broughamlaw09_KeysSessions]
  refine Ev.bind (session_is client server) ?_
  rintro _ rfl
  refine Ev.bind (made_is client server _ [105, 100] (by decide) (by unfold Bytes; decide) (by decide)) ?_
  rintro _ rfl
  refine Ev.pos (by simp) ?_
  refine Ev.bind (made_is client server _ [99, 108, 105, 101, 110, 116] (by decide) (by unfold Bytes; decide) (by decide)) ?_
  rintro _ rfl
  refine Ev.pos (by simp) ?_
  refine Ev.bind (made_is client server _ [115, 101, 114, 118, 101, 114] (by decide) (by unfold Bytes; decide) (by decide)) ?_
  rintro _ rfl
  refine Ev.pos (by simp) ?_
  refine Ev.bind (made_is client server _ [106, 111, 105, 110] (by decide) (by unfold Bytes; decide) (by decide)) ?_
  rintro _ rfl
  refine Ev.pos (by simp) ?_
  refine Ev.bind (P := fun r => r = IntKind.wrap .u32 (sum client server [116, 111, 107, 101, 110])) (by
    simp only [f46_broughamref09_Token]
    refine Ev.bind (refSum_is client server _ (by unfold Bytes; decide) (by decide)) ?_
    rintro _ rfl
    refine Ev.some ?_
    have := sum_in client server [116, 111, 107, 101, 110]
    rw [w_u32, w_u32, tmod_e this.1]; omega) ?_
  rintro _ rfl
  refine Ev.pos (by simp) ?_
  refine Ev.bind (P := fun r => r = (sum client server [1, 97, 110, 115, 119, 101, 114], sum client server [2, 97, 110, 115, 119, 101, 114])) (by
    simp only [f47_keys_Handshake]
    refine Ev.bind (pair1 client server [97, 110, 115, 119, 101, 114] (by simp)) ?_
    rintro _ rfl
    exact Ev.some rfl) ?_
  rintro _ rfl
  refine Ev.bind (made_is client server _ [97, 110, 115, 119, 101, 114] (by decide) (by unfold Bytes; decide) (by decide)) ?_
  rintro _ rfl
  refine Ev.pos (by simp) ?_
  generalize sum client server [1, 106, 111, 105, 110] = j1
  generalize sum client server [2, 106, 111, 105, 110] = j2
  have hbb : Bytes (be 4 x ++ be 4 y) := (be_bytes _ _).append (be_bytes _ _)
  refine Ev.bind (P := fun r => r = (sum j1 j2 (1 :: (be 4 x ++ be 4 y)), sum j1 j2 (2 :: (be 4 x ++ be 4 y)))) (by
    simp only [f48_keys_Path, f84_pack_W, Option.bind_some]
    rw [u64_id hx.1 (by omega), u64_id hy.1 (by omega)]
    refine Ev.bind (put_is [] [(4, x), (4, y)] (by simp) (by simp) (fun f hf => by simp at hf; rcases hf with rfl | rfl <;> dsimp only <;> omega)) ?_
    rintro _ rfl
    have e : [] ++ enc [((4 : Int), x), (4, y)] = be 4 x ++ be 4 y := by simp [enc, fieldB]
    rw [e]
    refine Ev.bind (pair1 j1 j2 _ (by rw [List.length_append, be_len, be_len]; omega)) ?_
    rintro _ rfl
    exact Ev.some rfl) ?_
  rintro _ rfl
  refine Ev.bind (P := fun r => r = (sum j1 j2 (1 :: (be 4 x ++ be 4 y)), sum j1 j2 (2 :: (be 4 x ++ be 4 y)))) (by
    simp only [f49_broughamref09_Path]
    rw [u64_id hx.1 (by omega), u64_id hy.1 (by omega)]
    refine Ev.bind (refPut2 4 x (by omega) (by omega)) ?_
    rintro _ rfl
    refine Ev.bind (refPut 4 (be 4 x) y (by omega) (by rw [be_len]; omega) (by omega)) ?_
    rintro _ rfl
    refine Ev.bind (refPair_is j1 j2 _ hbb (by rw [List.length_append, be_len, be_len]; omega)) ?_
    rintro _ rfl
    exact Ev.some rfl) ?_
  rintro _ rfl
  refine Ev.pos (by simp) ?_
  exact Ev.bind alive_is (fun r hr => Ev.some hr)
end Go.Proofs.YtdcnjkjgmagjmaaF09
