/- CookieBack: a cookie is checked as it was made, till the end of the next epoch: of the functions that text F30 prints. Conditions: none. -/
import Derived.Test.YtjoibacjpapncaaPurePack30
import Derived.Test.YtjoibacjpapncaaPureSip30
namespace Go.Proofs.YtjoibacjpapncaaF30
open Go Zed
set_option linter.unusedVariables false
set_option linter.unusedSimpArgs false

theorem alive_at (m : Nat) : f18_broughamlaw30_alive (m + 60) = some true := by kernel_rfl
theorem alive_ev : Ev (fun n => f18_broughamlaw30_alive n) (fun r => r = true) := Ev.at 60 alive_at rfl
def SZ : List Int := [1, 16, 64, 128, 256, 512, 768, 1024]
def szF (mss : Int) : List Int → Int → Int
  | [], o => o
  | n :: l, o => szF mss l (if n ≤ mss then n else o)
def szOf (mss : Int) : Int := szF mss SZ 1
theorem szF_in (mss : Int) : ∀ (l : List Int) (o : Int), (∀ n ∈ l, n ∈ SZ) → o ∈ SZ → (o ≤ mss ∨ o = 1) → szF mss l o ∈ SZ ∧ (szF mss l o ≤ mss ∨ szF mss l o = 1)
  | [], o, _, h1, h2 => ⟨h1, h2⟩
  | n :: l, o, h, h1, h2 => by
    rw [szF]
    by_cases c : n ≤ mss
    · rw [if_pos c]; exact szF_in mss l n (fun x hx => h x (by simp [hx])) (h n (by simp)) (.inl c)
    · rw [if_neg c]; exact szF_in mss l o (fun x hx => h x (by simp [hx])) h1 h2
theorem sizeLoop (mss : Int) : ∀ (k i : Nat), i + k = 8 → ∀ (o : Int), Ev (fun n => f17_cookie_Size_L3 n mss o 1 16 64 128 256 512 768 1024 (i : Int)) (fun r => r = szF mss (SZ.drop i) o)
  | 0, i, hi, o => by
    apply Ev.succ
    simp only [f17_cookie_Size_L3]
    rw [List.drop_eq_nil_of_le (show SZ.length ≤ i by show 8 ≤ i; omega)]
    exact Ev.neg (by simp; omega) (Ev.some rfl)
  | k + 1, i, hi, o => by
    apply Ev.succ
    simp only [f17_cookie_Size_L3]
    rw [drop_cons (show i < SZ.length by show i < 8; omega) 0, Int.toNat_natCast]
    have e1 : IntKind.wrap .i64 ((i : Int) + 1) = ((i + 1 : Nat) : Int) := by rw [i64_id] <;> omega
    have e2 : ([1, 16, 64, 128, 256, 512, 768, 1024] : List Int) = SZ := rfl
    rw [e1, e2, szF]
    refine Ev.pos (by simp; omega) (Ev.guard (by omega) (Ev.ite (fun c => ?_) fun c => ?_))
    · rw [if_pos (of_decide_eq_true c)]; exact sizeLoop mss k (i + 1) (by omega) _
    · rw [if_neg (fun h => c (decide_eq_true h))]; exact sizeLoop mss k (i + 1) (by omega) _
theorem size_is (mss : Int) : Ev (fun n => f17_cookie_Size n mss) (fun r => r = szOf mss) := by
  unfold f17_cookie_Size
  refine Ev.bind (Ev.of rfl rfl) ?_
  rintro _ rfl
  refine Ev.bind (sizeLoop mss 8 0 (by omega) 1) ?_
  rintro _ rfl
  exact Ev.some rfl
theorem index_is : ∀ (j : Nat), j < 8 → Ev (fun n => f77_cookie_index n (SZ.getD j 0)) (fun r => r = (j : Int))
  | 0, _ => Ev.at 20 (r := 0) (fun m => by kernel_rfl) rfl
  | 1, _ => Ev.at 20 (r := 1) (fun m => by kernel_rfl) rfl
  | 2, _ => Ev.at 20 (r := 2) (fun m => by kernel_rfl) rfl
  | 3, _ => Ev.at 20 (r := 3) (fun m => by kernel_rfl) rfl
  | 4, _ => Ev.at 20 (r := 4) (fun m => by kernel_rfl) rfl
  | 5, _ => Ev.at 20 (r := 5) (fun m => by kernel_rfl) rfl
  | 6, _ => Ev.at 20 (r := 6) (fun m => by kernel_rfl) rfl
  | 7, _ => Ev.at 20 (r := 7) (fun m => by kernel_rfl) rfl
  | j + 8, h => absurd h (by omega)
def bytesOf (a0 a1 a2 a3 e i : Int) : List Int := enc [(4, IntKind.wrap .u64 (IntKind.wrap .u32 a0)), (2, IntKind.wrap .u64 a1), (2, IntKind.wrap .u64 a2), (4, IntKind.wrap .u64 a3), (4, IntKind.wrap .u64 e), (4, IntKind.wrap .u64 i)]
def sum24 (k0 k1 a0 a1 a2 a3 e i : Int) : Int := bits .and .u32 (IntKind.wrap .u32 (Sip.sum k0 k1 (bytesOf a0 a1 a2 a3 e i))) 16777215
theorem and_u32 {x : Int} (h : 0 ≤ x ∧ x < 4294967296) (i : Nat) (hi : i ≤ 32) : bits .and .u32 x (2 ^ i - 1) = x % 2 ^ i := bits_mask .u32 32 (by decide) wraps_u32 i hi x h.1 (by omega)
theorem m24 {x : Int} (h : 0 ≤ x ∧ x < 4294967296) : bits .and .u32 x 16777215 = x % 16777216 := and_u32 h 24 (by decide)
theorem m3 {x : Int} (h : 0 ≤ x ∧ x < 4294967296) : bits .and .u32 x 7 = x % 8 := and_u32 h 3 (by decide)
theorem sum24_in (k0 k1 a0 a1 a2 a3 e i : Int) : 0 ≤ sum24 k0 k1 a0 a1 a2 a3 e i ∧ sum24 k0 k1 a0 a1 a2 a3 e i < 16777216 := by
  unfold sum24
  generalize Sip.sum k0 k1 (bytesOf a0 a1 a2 a3 e i) = x
  have h : 0 ≤ IntKind.wrap .u32 x ∧ IntKind.wrap .u32 x < 4294967296 := by rw [w_u32]; constructor <;> omega
  rw [m24 h]; constructor <;> omega
theorem wu (x : Int) : 0 ≤ IntKind.wrap .u64 x := by rw [w_u64]; omega
theorem sum_is (k0 k1 a0 a1 a2 a3 e i : Int) : Ev (fun n => f75_cookie_sum n k0 k1 a0 a1 a2 a3 e i) (fun r => r = sum24 k0 k1 a0 a1 a2 a3 e i) := by
  simp only [f75_cookie_sum, f79_pack_W, f80_pack_H, Option.bind_some]
  refine Ev.bind (put_is [] [(4, IntKind.wrap .u64 (IntKind.wrap .u32 a0)), (2, IntKind.wrap .u64 a1), (2, IntKind.wrap .u64 a2), (4, IntKind.wrap .u64 a3), (4, IntKind.wrap .u64 e), (4, IntKind.wrap .u64 i)] (by simp) (by simp) (fun f hf => by
    simp only [List.mem_cons, List.not_mem_nil, or_false] at hf
    rcases hf with rfl | rfl | rfl | rfl | rfl | rfl <;> exact wu _)) ?_
  rintro _ rfl
  rw [List.nil_append]
  have hl := enc_len [(4, IntKind.wrap .u64 (IntKind.wrap .u32 a0)), (2, IntKind.wrap .u64 a1), (2, IntKind.wrap .u64 a2), (4, IntKind.wrap .u64 a3), (4, IntKind.wrap .u64 e), (4, IntKind.wrap .u64 i)]
  refine Ev.bind (Sip.sum_is k0 k1 [enc [(4, IntKind.wrap .u64 (IntKind.wrap .u32 a0)), (2, IntKind.wrap .u64 a1), (2, IntKind.wrap .u64 a2), (4, IntKind.wrap .u64 a3), (4, IntKind.wrap .u64 e), (4, IntKind.wrap .u64 i)]] (by simp) (fun x hx => by
    simp only [List.mem_cons, List.not_mem_nil, or_false] at hx
    subst hx
    simp only [List.length_cons, List.length_nil] at hl
    omega)) ?_
  rintro _ rfl
  refine Ev.some ?_
  simp only [List.flatten_cons, List.flatten_nil, List.append_nil]
  rfl
def ep (t : Int) : Int := t / 64
theorem epoch_is {t : Int} (h : 0 ≤ t ∧ t < 4294967296) : f74_cookie_epoch t = some (ep t) := by
  unfold f74_cookie_epoch ep
  rw [if_neg (show ¬ t < 0 by omega), tdiv_e h.1, i64_id (by omega) (by omega), u32_id (by omega) (by omega)]
def numb (k0 k1 a0 a1 a2 a3 e : Int) (j : Nat) : Int := e % 32 * 134217728 + (j : Int) * 16777216 + sum24 k0 k1 a0 a1 a2 a3 e (j : Int)
theorem make_is (k0 k1 a0 a1 a2 a3 t mss : Int) (h : 0 ≤ t ∧ t < 4294967296) (j : Nat) (hj : j < 8) (hs : szOf mss = SZ.getD j 0) : Ev (fun n => f16_cookie_Make n k0 k1 a0 a1 a2 a3 t mss) (fun r => r = numb k0 k1 a0 a1 a2 a3 (ep t) j) := by
  unfold f16_cookie_Make
  refine Ev.bind (Ev.of (epoch_is h) rfl) ?_
  rintro _ rfl
  refine Ev.bind (size_is mss) ?_
  rintro _ rfl
  rw [hs]
  refine Ev.bind (index_is j hj) ?_
  rintro _ rfl
  refine Ev.bind (sum_is k0 k1 a0 a1 a2 a3 (ep t) (j : Int)) ?_
  rintro _ rfl
  refine Ev.some ?_
  have he : 0 ≤ ep t := by unfold ep; omega
  have hs := sum24_in k0 k1 a0 a1 a2 a3 (ep t) (j : Int)
  unfold numb
  generalize sum24 k0 k1 a0 a1 a2 a3 (ep t) (j : Int) = s at hs
  have p27 : (2 : Int) ^ 27 = 134217728 := by decide
  have p24 : (2 : Int) ^ 24 = 16777216 := by decide
  rw [tmod_e he, p27, p24, u32_id (e := ep t % 32 * 134217728) (by omega) (by omega), u32_id (e := (j : Int) * 16777216) (by omega) (by omega)]
  rw [bits_join .u32 32 (by decide) wraps_u32 27 (ep t % 32 * 134217728) ((j : Int) * 16777216) (by omega) (by omega) (by omega) (by omega) (by omega) (by omega)]
  rw [bits_join .u32 32 (by decide) wraps_u32 24 (ep t % 32 * 134217728 + (j : Int) * 16777216) s (by omega) (by omega) (by omega) (by omega) (by omega) (by omega)]
theorem got (j : Nat) : (([1, 16, 64, 128, 256, 512, 768, 1024] : List Int).getD ((j : Int)).toNat 0) = SZ.getD j 0 := by rw [Int.toNat_natCast]; rfl
theorem check_is (k0 k1 a0 a1 a2 a3 t u : Int) (ht : 0 ≤ t ∧ t < 4294967000) (hu : 0 ≤ u ∧ u ≤ 64) (j : Nat) (hj : j < 8) : Ev (fun n => f15_cookie_Check n k0 k1 a0 a1 a2 a3 (t + u) (numb k0 k1 a0 a1 a2 a3 (ep t) j)) (fun r => r = (SZ.getD j 0, true)) := by
  unfold f15_cookie_Check
  refine Ev.bind (Ev.of (epoch_is (t := t + u) (by omega)) rfl) ?_
  rintro _ rfl
  have hs := sum24_in k0 k1 a0 a1 a2 a3 (ep t) (j : Int)
  have he : 0 ≤ ep t ∧ ep t < 100000000 := by unfold ep; omega
  have hN : numb k0 k1 a0 a1 a2 a3 (ep t) j = ep t % 32 * 134217728 + (j : Int) * 16777216 + sum24 k0 k1 a0 a1 a2 a3 (ep t) (j : Int) := rfl
  generalize hNN : numb k0 k1 a0 a1 a2 a3 (ep t) j = N at hN
  have hNr : 0 ≤ N ∧ N < 4294967296 := by omega
  have p27 : (2 : Int) ^ 27 = 134217728 := by decide
  have p24 : (2 : Int) ^ 24 = 16777216 := by decide
  have q1 : bits .and .u32 (Int.fdiv N (2 ^ 24)) 7 = (j : Int) := by
    rw [p24, fdiv_e (by omega), m3 (by omega)]; omega
  have q2 : Int.fdiv N (2 ^ 27) = ep t % 32 := by rw [p27, fdiv_e (by omega)]; omega
  have q3 : bits .and .u32 N 16777215 = sum24 k0 k1 a0 a1 a2 a3 (ep t) (j : Int) := by rw [m24 hNr]; omega
  rw [q1]
  have hit : ∀ Q : Int × Bool ⊕ Unit → Prop, Q (.inl (SZ.getD j 0, true)) → Ev (fun n => (f76_cookie_sizes).bind fun r121_0 =>
            if (0 : Int) ≤ (j : Int) ∧ (j : Int) < 8 then
            (some (.inl ((([r121_0.1, r121_0.2.1, r121_0.2.2.1, r121_0.2.2.2.1, r121_0.2.2.2.2.1, r121_0.2.2.2.2.2.1, r121_0.2.2.2.2.2.2.1, r121_0.2.2.2.2.2.2.2] : List Int).getD ((j : Int)).toNat 0), true)) : Option ((Int × Bool) ⊕ Unit))
            else none) Q := by
    intro Q hQ
    refine Ev.bind (Ev.of rfl rfl) ?_
    rintro _ rfl
    refine Ev.guard (by omega) (Ev.some ?_)
    rw [show ((([(1 : Int), 16, 64, 128, 256, 512, 768, 1024] : List Int)).getD ((j : Int)).toNat 0) = SZ.getD j 0 from got j]
    exact hQ
  have hloop : Ev (fun n => f15_cookie_Check_L4 n (t + u) N (ep (t + u)) (j : Int) 0 k0 k1 a0 a1 a2 a3) (fun r => r = .inl (SZ.getD j 0, true)) := by
    apply Ev.succ
    simp only [f15_cookie_Check_L4]
    refine Ev.pos (by decide) (Ev.pos (by decide) ?_)
    have hnow : 0 ≤ ep (t + u) ∧ ep (t + u) < 100000000 := by unfold ep; omega
    rw [show IntKind.wrap .u32 (ep (t + u) - 0) = ep (t + u) by rw [u32_id] <;> omega, tmod_e hnow.1, q2]
    by_cases hc : ep (t + u) = ep t
    · rw [hc]
      refine Ev.pos (by rw [beq_iff_eq]) ?_
      refine Ev.bind (sum_is k0 k1 a0 a1 a2 a3 (ep t) (j : Int)) ?_
      rintro _ rfl
      refine Ev.pos (by rw [q3, beq_iff_eq]) ?_
      exact hit _ rfl
    · have hc2 : ep (t + u) = ep t + 1 := by unfold ep at hc ⊢; omega
      refine Ev.neg (by rw [beq_iff_eq]; omega) ?_
      rw [show IntKind.wrap .u32 (0 + 1) = 1 by decide]
      apply Ev.succ
      simp only [f15_cookie_Check_L4]
      refine Ev.pos (by decide) (Ev.neg (by decide) (Ev.pos (by rw [decide_eq_true_eq]; unfold ep at hc2; omega) ?_))
      rw [show IntKind.wrap .u32 (ep (t + u) - 1) = ep t by rw [hc2, u32_id] <;> omega, tmod_e he.1, q2]
      refine Ev.pos (by rw [beq_iff_eq]) ?_
      refine Ev.bind (sum_is k0 k1 a0 a1 a2 a3 (ep t) (j : Int)) ?_
      rintro _ rfl
      refine Ev.pos (by rw [q3, beq_iff_eq]) ?_
      exact hit _ rfl
  refine Ev.bind hloop ?_
  rintro _ rfl
  exact Ev.some rfl
theorem CookieBack (k : Int × Int) (h0 : K.ok (.pair (.int .u64) (.int .u64)) k) (a : Int × Int × Int × Int) (h1 : K.ok (.pair (.int .i64) (.pair (.int .u16) (.pair (.int .u16) (.int .u32)))) a) (w : Int × Int × Int) (h2 : K.ok (.pair (.int .i64) (.pair (.int .i64) (.int .i64))) w) :
    ∃ n, f3_broughamlaw30_CookieBack n k.1 k.2 a.1 a.2.1 a.2.2.1 a.2.2.2 w.1 w.2.1 w.2.2 = some true := by
  obtain ⟨k0, k1⟩ := k
  obtain ⟨a0, a1, a2, a3⟩ := a
  obtain ⟨t, mss, u⟩ := w
  apply Ev.true
  unfold f3_broughamlaw30_CookieBack
  dsimp only
  refine Ev.ite (fun _ => Ev.some rfl) fun c1 => Ev.ite (fun _ => Ev.some rfl) fun c2 => Ev.ite (fun _ => Ev.some rfl) fun c3 => Ev.ite (fun _ => Ev.some rfl) fun c4 => ?_
  rw [decide_eq_true_eq] at c1 c2 c3 c4
  have hz := szF_in mss SZ 1 (fun n h => h) (by decide) (.inr rfl)
  obtain ⟨j, hj, hs⟩ : ∃ j : Nat, j < 8 ∧ szOf mss = SZ.getD j 0 := by
    obtain ⟨j, hj, e⟩ := List.mem_iff_getElem.1 hz.1
    exact ⟨j, hj, by show szF mss SZ 1 = _; rw [← e]; simp [List.getD, List.getElem?_eq_getElem hj]⟩
  have hle : szOf mss ≤ 1024 := by
    have : ∀ n ∈ SZ, n ≤ 1024 := by decide
    exact this _ hz.1
  refine Ev.bind (make_is k0 k1 a0 a1 a2 a3 t mss (by omega) j hj hs) ?_
  rintro _ rfl
  rw [i64_id (e := t + u) (by omega) (by omega)]
  refine Ev.bind (check_is k0 k1 a0 a1 a2 a3 t u (by omega) (by omega) j hj) ?_
  rintro _ rfl
  refine Ev.pos rfl ?_
  refine Ev.bind (size_is mss) ?_
  rintro _ rfl
  dsimp only
  rw [← hs]
  have fin : Ev (fun n => (f18_broughamlaw30_alive n).bind fun r => some r) (fun r => r = true) := Ev.bind alive_ev (fun r hr => Ev.some hr)
  refine Ev.pos (by rw [beq_iff_eq]) (Ev.ite (fun _ => Ev.pos (decide_eq_true hle) fin) fun c => Ev.pos ?_ (Ev.pos (decide_eq_true hle) fin))
  rw [beq_iff_eq]
  rcases hz.2 with h | h
  · exact absurd (decide_eq_true h) c
  · exact h
end Go.Proofs.YtjoibacjpapncaaF30
