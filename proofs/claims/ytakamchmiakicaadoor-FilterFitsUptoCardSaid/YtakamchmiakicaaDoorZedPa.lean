/- ZED, pure, first text: what a function of numbers and lists answers, behind enough fuel. -/
import Derived.Test.YtakamchmiakicaaDoorZedZ
namespace Zed
open Go
set_option linter.unusedVariables false
set_option linter.unusedSimpArgs false

/-- Behind enough fuel it answers, and so. -/
def Ev {α : Type} (f : Nat → Option α) (Q : α → Prop) : Prop := ∃ r, Q r ∧ ∃ N, ∀ n, N ≤ n → f n = some r

section
variable {α β : Type} {Q : α → Prop} {f g : Nat → Option α}

theorem Ev.some {r : α} (h : Q r) : Ev (fun _ => Option.some r) Q := ⟨r, h, 0, fun _ _ => rfl⟩
theorem Ev.of {o : Option α} {r : α} (ho : o = Option.some r) (h : Q r) : Ev (fun _ => o) Q := ⟨r, h, 0, fun _ _ => ho⟩
theorem Ev.bind {P : β → Prop} {f : Nat → Option β} {g : Nat → β → Option α} (h : Ev f P) (k : ∀ r, P r → Ev (fun n => g n r) Q) : Ev (fun n => (f n).bind (g n)) Q := by
  obtain ⟨r, h1, N, h2⟩ := h
  obtain ⟨r', h3, M, h4⟩ := k r h1
  refine ⟨r', h3, max N M, fun n hn => ?_⟩
  simp only [h2 n (by omega), Option.bind_some]
  exact h4 n (by omega)
theorem Ev.ite {c : Prop} [Decidable c] (h : c → Ev f Q) (k : ¬ c → Ev g Q) : Ev (fun n => if c then f n else g n) Q := by
  by_cases hc : c
  · simp only [if_pos hc]; exact h hc
  · simp only [if_neg hc]; exact k hc
theorem Ev.guard {c : Prop} [Decidable c] (hc : c) (h : Ev f Q) : Ev (fun n => if c then f n else none) Q := by
  simp only [if_pos hc]; exact h
theorem Ev.pos {c : Prop} [Decidable c] (hc : c) (h : Ev f Q) : Ev (fun n => if c then f n else g n) Q := by
  simp only [if_pos hc]; exact h
theorem Ev.neg {c : Prop} [Decidable c] (hc : ¬ c) (h : Ev g Q) : Ev (fun n => if c then f n else g n) Q := by
  simp only [if_neg hc]; exact h
theorem Ev.succ (h : Ev (fun n => f (n + 1)) Q) : Ev f Q := by
  obtain ⟨r, h1, N, h2⟩ := h
  refine ⟨r, h1, N + 1, fun n hn => ?_⟩
  obtain ⟨m, rfl⟩ : ∃ m, n = m + 1 := ⟨n - 1, by omega⟩
  exact h2 m (by omega)
theorem Ev.mono {Q' : α → Prop} (h : Ev f Q) (k : ∀ r, Q r → Q' r) : Ev f Q' := by
  obtain ⟨r, h1, h2⟩ := h
  exact ⟨r, k r h1, h2⟩
theorem Ev.true {f : Nat → Option Bool} (h : Ev f (fun r => r = Bool.true)) : ∃ n, f n = Option.some Bool.true := by
  obtain ⟨r, rfl, N, h2⟩ := h
  exact ⟨N, h2 N (Nat.le_refl _)⟩
theorem Ev.eq {f : Nat → Option α} {r : α} (h : Ev f (fun x => x = r)) : ∃ N, ∀ n, N ≤ n → f n = Option.some r := by
  obtain ⟨_, rfl, h⟩ := h; exact h
end

/-! Numbers. -/
theorem w_i64 (e : Int) : IntKind.wrap .i64 e = (e + 9223372036854775808) % 18446744073709551616 - 9223372036854775808 := by
  simp [IntKind.wrap, IntKind.signed, IntKind.bits]
  split <;> omega
theorem w_i32 (e : Int) : IntKind.wrap .i32 e = (e + 2147483648) % 4294967296 - 2147483648 := by
  simp [IntKind.wrap, IntKind.signed, IntKind.bits]
  split <;> omega
theorem w_u64 (e : Int) : IntKind.wrap .u64 e = e % 18446744073709551616 := by simp [IntKind.wrap, IntKind.signed, IntKind.bits]
theorem w_u32 (e : Int) : IntKind.wrap .u32 e = e % 4294967296 := by simp [IntKind.wrap, IntKind.signed, IntKind.bits]
theorem w_u16 (e : Int) : IntKind.wrap .u16 e = e % 65536 := by simp [IntKind.wrap, IntKind.signed, IntKind.bits]
theorem w_u8 (e : Int) : IntKind.wrap .u8 e = e % 256 := by simp [IntKind.wrap, IntKind.signed, IntKind.bits]
/-- In range. -/
theorem i64_id {e : Int} (h1 : -9223372036854775808 ≤ e) (h2 : e < 9223372036854775808) : IntKind.wrap .i64 e = e := by rw [w_i64]; omega
theorem u64_id {e : Int} (h1 : 0 ≤ e) (h2 : e < 18446744073709551616) : IntKind.wrap .u64 e = e := by rw [w_u64]; omega
theorem u32_id {e : Int} (h1 : 0 ≤ e) (h2 : e < 4294967296) : IntKind.wrap .u32 e = e := by rw [w_u32]; omega
theorem u16_id {e : Int} (h1 : 0 ≤ e) (h2 : e < 65536) : IntKind.wrap .u16 e = e := by rw [w_u16]; omega
theorem u8_id {e : Int} (h1 : 0 ≤ e) (h2 : e < 256) : IntKind.wrap .u8 e = e := by rw [w_u8]; omega
theorem ok_i64 {n : Int} (h : K.ok (.int .i64) n) : -9223372036854775808 ≤ n ∧ n < 9223372036854775808 := by
  simp [K.ok, IntKind.min, IntKind.max, IntKind.signed, IntKind.bits] at h; omega
theorem ok_i32 {n : Int} (h : K.ok (.int .i32) n) : -2147483648 ≤ n ∧ n < 2147483648 := by
  simp [K.ok, IntKind.min, IntKind.max, IntKind.signed, IntKind.bits] at h; omega
theorem ok_u64 {n : Int} (h : K.ok (.int .u64) n) : 0 ≤ n ∧ n < 18446744073709551616 := by
  simp [K.ok, IntKind.min, IntKind.max, IntKind.signed, IntKind.bits] at h; omega
theorem ok_u32 {n : Int} (h : K.ok (.int .u32) n) : 0 ≤ n ∧ n < 4294967296 := by
  simp [K.ok, IntKind.min, IntKind.max, IntKind.signed, IntKind.bits] at h; omega
theorem ok_u16 {n : Int} (h : K.ok (.int .u16) n) : 0 ≤ n ∧ n < 65536 := by
  simp [K.ok, IntKind.min, IntKind.max, IntKind.signed, IntKind.bits] at h; omega
theorem ok_u8 {n : Int} (h : K.ok (.int .u8) n) : 0 ≤ n ∧ n < 256 := by
  simp [K.ok, IntKind.min, IntKind.max, IntKind.signed, IntKind.bits] at h; omega
theorem tdiv_e {a b : Int} (h : 0 ≤ a) : Int.tdiv a b = a / b := Int.tdiv_eq_ediv_of_nonneg h
theorem tmod_e {a b : Int} (h : 0 ≤ a) : Int.tmod a b = a % b := Int.tmod_eq_emod_of_nonneg h
theorem fdiv_e {a b : Int} (h : 0 ≤ b) : Int.fdiv a b = a / b := Int.fdiv_eq_ediv_of_nonneg a h
theorem len_i64 {T : K} {l : List T.den} (h : K.ok (.slice T) l) (hb : 0 < T.bytes) : l.length ≤ 140737488351232 := Nat.le_trans (Nat.le_mul_of_pos_right _ hb) h.1
theorem getD_mem {α : Type} {l : List α} {i : Nat} (h : i < l.length) (d : α) : l.getD i d ∈ l := by
  simp [List.getD, List.getElem?_eq_getElem h]

/-- A call whose fuel is so much more than nothing. -/
theorem Ev.at {α : Type} {Q : α → Prop} {f : Nat → Option α} {r : α} (k : Nat) (h : ∀ m, f (m + k) = Option.some r) (hq : Q r) : Ev f Q :=
  ⟨r, hq, k, fun n hn => by obtain ⟨m, rfl⟩ : ∃ m, n = m + k := ⟨n - k, by omega⟩; exact h m⟩
theorem str_refl (a : ByteArray) : (a.toList == a.toList) = Bool.true := by simp
theorem drop_cons {α : Type} {l : List α} {i : Nat} (h : i < l.length) (d : α) : l.drop i = l.getD i d :: l.drop (i + 1) := by
  rw [List.drop_eq_getElem_cons h]; simp [List.getD, List.getElem?_eq_getElem h]
theorem or_u64_byte (x c : Int) (hc : 0 ≤ c ∧ c < 256) : bits .or .u64 (IntKind.wrap .u64 (x * 2 ^ 8)) (IntKind.wrap .u64 c) = (x * 256 + c) % 18446744073709551616 := by
  rw [w_u64, w_u64, show c % 18446744073709551616 = c by omega]
  have : (2 : Int) ^ 8 = 256 := by decide
  rw [this, bits_join .u64 64 (by decide) (fun n h0 h1 => by rw [w_u64]; omega) 8 _ _ (by omega) (by omega) (by omega) (by omega) (by omega) (by omega)]
  omega
end Zed
