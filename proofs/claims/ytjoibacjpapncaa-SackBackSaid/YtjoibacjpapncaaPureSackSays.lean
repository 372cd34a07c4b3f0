/- SackSays: which pieces may be said, their option, and what any option says: of the functions that text F31 prints. Conditions: none. -/
import Derived.Test.YtjoibacjpapncaaPurePack31
namespace Go.Proofs.YtjoibacjpapncaaF31
open Go Zed
set_option linter.unusedVariables false
set_option linter.unusedSimpArgs false

theorem alive_ev : Ev (fun n => f41_broughamlaw31_alive n) (fun r => r = true) := Ev.at 30 (fun m => by rfl) rfl

abbrev Bl := List (Int × Int)
/-- Pieces of 32-bit numbers. -/
def Nums (l : Bl) : Prop := ∀ p ∈ l, U32 p.1 ∧ U32 p.2
def df (a b : Int) : Int := (a - b + 2147483648) % 4294967296 - 2147483648
theorem diff_is {a b : Int} : f89_serial_Diff a b = some (df a b) := by
  unfold f89_serial_Diff df
  rw [w_u32, w_i32, i64_id (by omega) (by omega)]
  congr 1; omega
theorem refdiff_is {a b : Int} (ha : U32 a) (hb : U32 b) : f86_broughamref04_Diff a b = some (df a b) := by
  have e1 : IntKind.wrap .i64 a = a := i64_id (by omega) (by omega)
  have e2 : IntKind.wrap .i64 b = b := i64_id (by omega) (by omega)
  have e3 : IntKind.wrap .i64 (a - b) = a - b := i64_id (by omega) (by omega)
  have e4 : IntKind.wrap .i64 (a - b + 4294967296) = a - b + 4294967296 := i64_id (by omega) (by omega)
  have e5 : IntKind.wrap .i64 (a - b - 4294967296) = a - b - 4294967296 := i64_id (by omega) (by omega)
  unfold f86_broughamref04_Diff df
  simp only [e1, e2, e3, e4, e5, decide_eq_true_eq]
  by_cases h : a - b < -2147483648
  · rw [if_pos h, if_neg (by omega)]; congr 1; omega
  · rw [if_neg h]
    by_cases h2 : a - b ≥ 2147483648
    · rw [if_pos h2]; congr 1; omega
    · rw [if_neg h2]; congr 1; omega
/-- May they be said? -/
def rt (wait : Int) : Int → Bl → Bool
  | _, [] => true
  | last, p :: l => if df p.1 last ≤ 0 then false else if df p.2 p.1 ≤ 0 then false else if df p.2 wait ≤ 0 then false else rt wait p.2 l
theorem getD_nums {l : Bl} (h : Nums l) {i : Nat} (hi : i < l.length) : U32 (l.getD i (0, 0)).1 ∧ U32 (l.getD i (0, 0)).2 := h _ (getD_mem hi _)
theorem right_loop (wait : Int) (l : Bl) (hl : l.length ≤ 1000) : ∀ (d : Nat) (i last : Int) (hi : 0 ≤ i ∧ i + d = l.length),
    Ev (fun n => f47_sack_Right_L5 n wait last l ((l.length : Nat) : Int) i) (fun w => w = if rt wait last (l.drop i.toNat) then .inr () else .inl false)
  | 0, i, last, hi => by
    apply Ev.succ
    unfold f47_sack_Right_L5
    refine Ev.neg (by simp only [decide_eq_true_eq]; omega) (Ev.some ?_)
    rw [List.drop_eq_nil_of_le (by omega)]; rfl
  | d + 1, i, last, hi => by
    apply Ev.succ
    unfold f47_sack_Right_L5
    refine Ev.pos (by simp only [decide_eq_true_eq]; omega) (Ev.guard (by omega) ?_)
    have e1 : l.drop i.toNat = l.getD i.toNat (0, 0) :: l.drop (i.toNat + 1) := drop_cons (by omega) _
    rw [e1, rt]
    refine Ev.bind (Ev.of diff_is rfl) ?_
    rintro _ rfl
    refine Ev.ite (fun c => ?_) (fun c => ?_)
    · simp only [decide_eq_true_eq] at c; rw [if_pos c]; exact Ev.some rfl
    simp only [decide_eq_true_eq] at c; rw [if_neg c]
    refine Ev.bind (Ev.of diff_is rfl) ?_
    rintro _ rfl
    refine Ev.ite (fun c => ?_) (fun c => ?_)
    · simp only [decide_eq_true_eq] at c; rw [if_pos c]; exact Ev.some rfl
    simp only [decide_eq_true_eq] at c; rw [if_neg c]
    refine Ev.bind (Ev.of diff_is rfl) ?_
    rintro _ rfl
    refine Ev.ite (fun c => ?_) (fun c => ?_)
    · simp only [decide_eq_true_eq] at c; rw [if_pos c]; exact Ev.some rfl
    simp only [decide_eq_true_eq] at c; rw [if_neg c, i64_id (by omega) (by omega)]
    have := right_loop wait l hl d (i + 1) (l.getD i.toNat (0, 0)).2 (by omega)
    rwa [show (i + 1).toNat = i.toNat + 1 by omega] at this
def rightB (wait : Int) (l : Bl) : Bool := decide (l.length ≤ 4) && rt wait wait l
theorem right_is (wait : Int) (l : Bl) (hl : l.length ≤ 1000) : Ev (fun n => f47_sack_Right n wait l) (fun r => r = rightB wait l) := by
  unfold f47_sack_Right rightB
  refine Ev.ite (fun c => ?_) (fun c => ?_)
  · simp only [decide_eq_true_eq] at c
    rw [decide_eq_false (by omega)]; exact Ev.some rfl
  simp only [decide_eq_true_eq] at c
  rw [decide_eq_true (show l.length ≤ 4 by omega)]
  refine Ev.bind (right_loop wait l hl l.length 0 wait (by omega)) ?_
  rintro _ rfl
  rw [show l.drop (0 : Int).toNat = l from rfl]
  cases rt wait wait l <;> exact Ev.some rfl
theorem refright_loop (wait : Int) (hw : U32 wait) (l : Bl) (hn : Nums l) (hl : l.length ≤ 1000) : ∀ (d : Nat) (i last : Int) (hlast : U32 last) (hi : 0 ≤ i ∧ i + d = l.length),
    Ev (fun n => f48_broughamref31_Right_L3 n wait l last i) (fun w => w = if rt wait last (l.drop i.toNat) then .inr l else .inl false)
  | 0, i, last, hlast, hi => by
    apply Ev.succ
    unfold f48_broughamref31_Right_L3
    refine Ev.neg (by simp only [decide_eq_true_eq]; omega) (Ev.some ?_)
    rw [List.drop_eq_nil_of_le (by omega)]; rfl
  | d + 1, i, last, hlast, hi => by
    have hp := getD_nums hn (i := i.toNat) (by omega)
    apply Ev.succ
    unfold f48_broughamref31_Right_L3
    refine Ev.pos (by simp only [decide_eq_true_eq]; omega) (Ev.guard (by omega) ?_)
    have e1 : l.drop i.toNat = l.getD i.toNat (0, 0) :: l.drop (i.toNat + 1) := drop_cons (by omega) _
    rw [e1, rt]
    refine Ev.bind (Ev.of (refdiff_is hp.1 hlast) rfl) ?_
    rintro _ rfl
    refine Ev.ite (fun c => ?_) (fun c => ?_)
    · simp only [decide_eq_true_eq] at c; rw [if_pos c]; exact Ev.some rfl
    simp only [decide_eq_true_eq] at c; rw [if_neg c]
    refine Ev.guard (by omega) (Ev.guard (by omega) ?_)
    refine Ev.bind (Ev.of (refdiff_is hp.2 hp.1) rfl) ?_
    rintro _ rfl
    refine Ev.ite (fun c => ?_) (fun c => ?_)
    · simp only [decide_eq_true_eq] at c; rw [if_pos c]; exact Ev.some rfl
    simp only [decide_eq_true_eq] at c; rw [if_neg c]
    refine Ev.guard (by omega) ?_
    refine Ev.bind (Ev.of (refdiff_is hp.2 hw) rfl) ?_
    rintro _ rfl
    refine Ev.ite (fun c => ?_) (fun c => ?_)
    · simp only [decide_eq_true_eq] at c; rw [if_pos c]; exact Ev.some rfl
    simp only [decide_eq_true_eq] at c; rw [if_neg c]
    refine Ev.guard (by omega) ?_
    rw [i64_id (by omega) (by omega)]
    have := refright_loop wait hw l hn hl d (i + 1) (l.getD i.toNat (0, 0)).2 hp.2 (by omega)
    rwa [show (i + 1).toNat = i.toNat + 1 by omega] at this
theorem refright_is (wait : Int) (hw : U32 wait) (l : Bl) (hn : Nums l) (hl : l.length ≤ 1000) : Ev (fun n => f48_broughamref31_Right n wait l) (fun r => r = rightB wait l) := by
  unfold f48_broughamref31_Right rightB
  refine Ev.bind (refright_loop wait hw l hn hl l.length 0 wait hw (by omega)) ?_
  rintro _ rfl
  rw [show l.drop (0 : Int).toNat = l from rfl]
  cases rt wait wait l
  · rw [Bool.and_false]; exact Ev.some rfl
  · rw [Bool.and_true]
    refine Ev.some ?_
    show decide (((l.length : Nat) : Int) ≤ 4) = decide (l.length ≤ 4)
    by_cases h : l.length ≤ 4
    · rw [decide_eq_true h, decide_eq_true (by omega)]
    · rw [decide_eq_false h, decide_eq_false (by omega)]
/-- The body. -/
def bodyOf : Int → Bl → List Int
  | _, [] => []
  | last, p :: l => be 4 ((p.1 - last) % 4294967296) ++ (be 4 ((p.2 - p.1) % 4294967296) ++ bodyOf p.2 l)
theorem body_len : ∀ (l : Bl) (last : Int), (bodyOf last l).length = 8 * l.length
  | [], _ => rfl
  | p :: l, last => by
    simp only [bodyOf, List.length_append, be_len, body_len l p.2, List.length_cons]; omega
theorem enc44 (u v : Int) : enc [(4, u), (4, v)] = be 4 u ++ be 4 v := by rw [enc_cons, enc_cons, f4, f4]; simp [enc]
theorem option_loop (l : Bl) (hl : l.length ≤ 1000) : ∀ (d : Nat) (i last : Int) (b : List Int) (hi : 0 ≤ i ∧ i + d = l.length) (hb : b.length ≤ 8 * i.toNat),
    Ev (fun n => f44_sack_Option_L6 n b last l ((l.length : Nat) : Int) i 0) (fun w => w = (b ++ bodyOf last (l.drop i.toNat), 0))
  | 0, i, last, b, hi, hb => by
    apply Ev.succ
    unfold f44_sack_Option_L6
    refine Ev.neg (by simp only [decide_eq_true_eq]; omega) (Ev.some ?_)
    rw [List.drop_eq_nil_of_le (by omega)]; simp [bodyOf]
  | d + 1, i, last, b, hi, hb => by
    apply Ev.succ
    unfold f44_sack_Option_L6 f79_pack_W
    refine Ev.pos (by simp only [decide_eq_true_eq]; omega) (Ev.guard (by omega) ?_)
    have e1 : l.drop i.toNat = l.getD i.toNat (0, 0) :: l.drop (i.toNat + 1) := drop_cons (by omega) _
    refine Ev.bind (Ev.of rfl rfl) ?_
    rintro _ rfl
    refine Ev.bind (Ev.of rfl rfl) ?_
    rintro _ rfl
    rw [w_u32, w_u32, u64_id (by omega) (by omega), u64_id (by omega) (by omega)]
    refine Ev.bind (put_is b _ (by omega) (by simp) ?_) ?_
    · intro f hf
      simp only [List.mem_cons, List.not_mem_nil, or_false] at hf
      rcases hf with rfl | rfl
      · show 0 ≤ _ % _; omega
      · show 0 ≤ _ % _; omega
    rintro _ rfl
    rw [i64_id (by omega) (by omega)]
    refine (option_loop l hl d (i + 1) (l.getD i.toNat (0, 0)).2 _ (by omega) ?_).mono ?_
    · simp only [enc44, List.length_append, be_len]; omega
    · rintro _ rfl
      rw [e1, bodyOf, show (i + 1).toNat = i.toNat + 1 by omega]
      simp only [enc44, List.append_assoc]
theorem option_is (wait : Int) (l : Bl) (hl : l.length ≤ 1000) : Ev (fun n => f44_sack_Option n wait l) (fun r => r = if rightB wait l = true ∧ l ≠ [] then (true, 9, bodyOf wait l) else (false, 0, [])) := by
  unfold f44_sack_Option
  refine Ev.bind (right_is wait l hl) ?_
  rintro _ rfl
  refine Ev.ite (fun c => Ev.some ?_) (fun c => ?_)
  · rw [if_neg (fun q => by rw [q.1] at c; cases c)]
  have hr : rightB wait l = true := by simpa using c
  refine Ev.ite (fun c => Ev.some ?_) (fun c => ?_)
  · rw [if_neg (fun q => q.2 (List.length_eq_zero_iff.1 (by simpa using c)))]
  have hne : l ≠ [] := fun q => by subst q; simp at c
  refine Ev.bind (option_loop l hl l.length 0 wait [] (by omega) (by simp)) ?_
  rintro _ rfl
  rw [if_pos ⟨hr, hne⟩]
  exact Ev.some (by simp)
theorem refoption_loop (l : Bl) (hl : l.length ≤ 1000) : ∀ (d : Nat) (i last : Int) (b : List Int) (hi : 0 ≤ i ∧ i + d = l.length) (hb : b.length ≤ 8 * i.toNat),
    Ev (fun n => f40_broughamref31_Option_L6 n l b last i) (fun w => w = b ++ bodyOf last (l.drop i.toNat))
  | 0, i, last, b, hi, hb => by
    apply Ev.succ
    unfold f40_broughamref31_Option_L6
    refine Ev.neg (by simp only [decide_eq_true_eq]; omega) (Ev.some ?_)
    rw [List.drop_eq_nil_of_le (by omega)]; simp [bodyOf]
  | d + 1, i, last, b, hi, hb => by
    apply Ev.succ
    unfold f40_broughamref31_Option_L6
    refine Ev.pos (by simp only [decide_eq_true_eq]; omega) (Ev.guard (by omega) ?_)
    have e1 : l.drop i.toNat = l.getD i.toNat (0, 0) :: l.drop (i.toNat + 1) := drop_cons (by omega) _
    rw [w_u32, w_u32, u64_id (by omega) (by omega), u64_id (by omega) (by omega)]
    refine Ev.bind (refPut 4 b _ (by omega) (by omega) (by omega)) ?_
    rintro _ rfl
    refine Ev.guard (by omega) (Ev.guard (by omega) ?_)
    refine Ev.bind (refPut 4 _ _ (by omega) (by simp only [List.length_append, be_len]; omega) (by omega)) ?_
    rintro _ rfl
    refine Ev.guard (by omega) ?_
    rw [i64_id (by omega) (by omega)]
    refine (refoption_loop l hl d (i + 1) (l.getD i.toNat (0, 0)).2 _ (by omega) ?_).mono ?_
    · simp only [List.length_append, be_len]; omega
    · rintro _ rfl
      rw [e1, bodyOf, show (i + 1).toNat = i.toNat + 1 by omega]
      simp only [List.append_assoc]
theorem refoption_is (wait : Int) (hw : U32 wait) (l : Bl) (hn : Nums l) (hl : l.length ≤ 1000) : Ev (fun n => f40_broughamref31_Option n wait l) (fun r => r = if rightB wait l = true ∧ l ≠ [] then (bodyOf wait l, true) else ([], false)) := by
  unfold f40_broughamref31_Option
  refine Ev.ite (fun c => Ev.some ?_) (fun c => ?_)
  · rw [if_neg (fun q => q.2 (List.length_eq_zero_iff.1 (by simpa using c)))]
  have hne : l ≠ [] := fun q => by subst q; simp at c
  refine Ev.bind (refright_is wait hw l hn hl) ?_
  rintro _ rfl
  refine Ev.ite (fun c => Ev.some ?_) (fun c => ?_)
  · rw [if_neg (fun q => by rw [q.1] at c; cases c)]
  have hr : rightB wait l = true := by simpa using c
  refine Ev.bind (refoption_loop l hl l.length 0 wait [] (by omega) (by simp)) ?_
  rintro _ rfl
  rw [if_pos ⟨hr, hne⟩]
  exact Ev.some (by simp)
/-- The pieces that a body says. -/
def rd : Nat → Int → List Int → Bl
  | 0, _, _ => []
  | k + 1, last, b => ((last + num (b.take 4)) % 4294967296, ((last + num (b.take 4)) % 4294967296 + num ((b.drop 4).take 4)) % 4294967296) :: rd k (((last + num (b.take 4)) % 4294967296 + num ((b.drop 4).take 4)) % 4294967296) (b.drop 8)
theorem rd_len : ∀ (k : Nat) (last : Int) (b : List Int), (rd k last b).length = k
  | 0, _, _ => rfl
  | k + 1, _, _ => by rw [rd, List.length_cons, rd_len k]
theorem rd_nums : ∀ (k : Nat) (last : Int) (b : List Int), Nums (rd k last b)
  | 0, _, _, p, hp => by cases hp
  | k + 1, last, b, p, hp => by
    rcases List.mem_cons.1 hp with rfl | hp
    · exact ⟨⟨by show 0 ≤ _ % _; omega, by show _ % _ < _; omega⟩, ⟨by show 0 ≤ _ % _; omega, by show _ % _ < _; omega⟩⟩
    · exact rd_nums k _ _ p hp
theorem go44 {b : List Int} (h : 8 ≤ b.length) : go b [4, 4] = some ([num (b.take 4), num ((b.drop 4).take 4)], b.drop 8) := by
  have e2 : (b.drop 4).length = b.length - 4 := List.length_drop
  rw [go, if_pos (by omega)]
  show (go (b.drop 4) [4]).map _ = _
  rw [go, if_pos (by omega)]
  show ((go ((b.drop 4).drop 4) []).map _).map _ = _
  rw [List.drop_drop]
  rfl
theorem parse_loop (wait : Int) : ∀ (k : Nat) (last : Int) (hlast : U32 last) (b : List Int) (hb : Bytes b) (hl : b.length = 8 * k) (out : Bl) (ho : out.length + k ≤ 100),
    Ev (fun n => f45_sack_Parse_L5 n wait out last b) (fun w => w = .inr (wait, out ++ rd k last b))
  | 0, last, hlast, b, hb, hl, out, ho => by
    apply Ev.succ
    unfold f45_sack_Parse_L5
    exact Ev.neg (by simp only [decide_eq_true_eq]; omega) (Ev.some (by simp [rd]))
  | k + 1, last, hlast, b, hb, hl, out, ho => by
    apply Ev.succ
    unfold f45_sack_Parse_L5
    refine Ev.pos (by simp only [decide_eq_true_eq]; omega) ?_
    refine Ev.bind (get_is b [4, 4] (by omega) hb (by simp)) ?_
    rintro _ rfl
    rw [go44 (by omega)]
    have h1 := num_take hb (s := 4) (by omega) (by omega)
    have h2 := num_take (hb.drop 4) (s := 4) (by omega) (by simp only [List.length_drop]; omega)
    rw [p4] at h1 h2
    refine Ev.neg (by simp [ans]) ?_
    refine Ev.guard (by simp [ans]) (Ev.guard (by simp [ans]) ?_)
    refine Ev.guard (by simp only [List.length_singleton, maxLen]; omega) (Ev.guard (by simp [ans]) ?_)
    have e0 : (ans (some ([num (b.take 4), num ((b.drop 4).take 4)], b.drop 8))).1.getD 0 0 = num (b.take 4) := rfl
    have e1 : (ans (some ([num (b.take 4), num ((b.drop 4).take 4)], b.drop 8))).1.getD 1 0 = num ((b.drop 4).take 4) := rfl
    have e2 : (ans (some ([num (b.take 4), num ((b.drop 4).take 4)], b.drop 8))).2.1 = b.drop 8 := rfl
    rw [e0, e1, e2]
    rw [u32_id (e := num (b.take 4)) (by omega) (by omega), u32_id (e := num ((b.drop 4).take 4)) (by omega) (by omega), w_u32, w_u32]
    refine (parse_loop wait k _ (by constructor <;> omega) (b.drop 8) (hb.drop 8) (by simp only [List.length_drop]; omega) _ (by simp only [List.length_append, List.length_singleton]; omega)).mono ?_
    rintro _ rfl
    rw [rd]; simp
def parseOf (wait : Int) (k : Int) (b : List Int) : Bl × Bool :=
  if k = 9 ∧ b.length ≠ 0 ∧ b.length % 8 = 0 ∧ b.length ≤ 32 ∧ rightB wait (rd (b.length / 8) wait b) = true then (rd (b.length / 8) wait b, true) else ([], false)
theorem tmod8 (n : Nat) : Int.tmod ((n : Nat) : Int) 8 = ((n % 8 : Nat) : Int) := by rw [tmod_e (by omega)]; omega
theorem parse_is (wait : Int) (hw : U32 wait) (k : Int) (b : List Int) (hb : Bytes b) : Ev (fun n => f45_sack_Parse n wait k b) (fun r => r = parseOf wait k b) := by
  unfold f45_sack_Parse parseOf
  refine Ev.ite (fun c => Ev.some ?_) (fun c1 => ?_)
  · rw [if_neg (fun q => by simp [q.1] at c)]
  have c1 : k = 9 := by simpa using c1
  refine Ev.ite (fun c => Ev.some ?_) (fun c2 => ?_)
  · have c : b.length = 0 := by simpa using c
    rw [if_neg (fun q => q.2.1 c)]
  have c2 : b.length ≠ 0 := fun q => c2 (by rw [q]; rfl)
  rw [tmod8]
  refine Ev.ite (fun c => Ev.some ?_) (fun c3 => ?_)
  · rw [if_neg (fun q => by rw [q.2.2.1] at c; exact absurd c (by decide))]
  have c3 : b.length % 8 = 0 := by simp only [bne_iff_ne, ne_eq, Decidable.not_not] at c3; omega
  refine Ev.ite (fun c => Ev.some ?_) (fun c4 => ?_)
  · simp only [decide_eq_true_eq] at c
    rw [if_neg (fun q => by omega)]
  simp only [decide_eq_true_eq] at c4
  refine Ev.bind (parse_loop wait (b.length / 8) wait hw b hb (by omega) [] (by simp; omega)) ?_
  rintro _ rfl
  rw [List.nil_append]
  refine Ev.bind (right_is wait _ (by rw [rd_len]; omega)) ?_
  rintro _ rfl
  refine Ev.ite (fun c => Ev.some ?_) (fun c => Ev.some ?_)
  · rw [if_neg (fun q => by rw [q.2.2.2.2] at c; cases c)]
  · rw [if_pos ⟨c1, c2, c3, by omega, by simpa using c⟩]
theorem refparse_loop (wait k9 : Int) (b0 : List Int) (hb0 : Bytes b0) (hbl : b0.length ≤ 400) : ∀ (k : Nat) (last : Int) (hlast : U32 last) (a : Int) (ha : 0 ≤ a ∧ a + 8 * k = b0.length) (out : Bl) (ho : out.length + k ≤ 100),
    Ev (fun n => f46_broughamref31_Parse_L6 n wait out last a k9 b0) (fun w => w = (wait, out ++ rd k last (b0.drop a.toNat)))
  | 0, last, hlast, a, ha, out, ho => by
    apply Ev.succ
    unfold f46_broughamref31_Parse_L6
    exact Ev.neg (by simp only [decide_eq_true_eq]; omega) (Ev.some (by simp [rd]))
  | k + 1, last, hlast, a, ha, out, ho => by
    apply Ev.succ
    unfold f46_broughamref31_Parse_L6
    refine Ev.pos (by simp only [decide_eq_true_eq]; omega) (Ev.guard (by simp [cutOk]; omega) ?_)
    rw [List.take_length]
    have hb : Bytes (b0.drop a.toNat) := hb0.drop _
    have hl : (b0.drop a.toNat).length = b0.length - a.toNat := List.length_drop
    have e9 : (b0.drop a.toNat).drop 8 = b0.drop (a + 8).toNat := by rw [List.drop_drop]; congr 1; omega
    revert hb hl e9
    generalize b0.drop a.toNat = b
    intro hb hl e9
    refine Ev.bind (all_is b [4, 4] (by omega) hb (by simp)) ?_
    rintro _ rfl
    rw [go44 (by omega)]
    have h1 := num_take hb (s := 4) (by omega) (by omega)
    have h2 := num_take (hb.drop 4) (s := 4) (by omega) (by simp only [List.length_drop]; omega)
    rw [p4] at h1 h2
    refine Ev.guard (by simp [ans]) (Ev.guard (by simp [ans]) ?_)
    refine Ev.guard (by simp only [List.length_singleton, maxLen]; omega) ?_
    have e0 : (ans (some ([num (b.take 4), num ((b.drop 4).take 4)], b.drop 8))).1.getD 0 0 = num (b.take 4) := rfl
    have e1 : (ans (some ([num (b.take 4), num ((b.drop 4).take 4)], b.drop 8))).1.getD 1 0 = num ((b.drop 4).take 4) := rfl
    rw [e0, e1]
    rw [u32_id (e := num (b.take 4)) (by omega) (by omega), u32_id (e := num ((b.drop 4).take 4)) (by omega) (by omega), w_u32, w_u32, i64_id (e := a + 8) (by omega) (by omega)]
    refine (refparse_loop wait k9 b0 hb0 hbl k _ (by constructor <;> omega) (a + 8) (by omega) _ (by simp only [List.length_append, List.length_singleton]; omega)).mono ?_
    rintro _ rfl
    rw [rd, ← e9]; simp
theorem refparse_is (wait : Int) (hw : U32 wait) (k : Int) (b : List Int) (hb : Bytes b) : Ev (fun n => f46_broughamref31_Parse n wait k b) (fun r => r = parseOf wait k b) := by
  unfold f46_broughamref31_Parse parseOf
  refine Ev.ite (fun c => Ev.some ?_) (fun c1 => ?_)
  · rw [if_neg (fun q => by simp [q.1] at c)]
  have c1 : k = 9 := by simpa using c1
  refine Ev.ite (fun c => Ev.some ?_) (fun c2 => ?_)
  · have c : b.length = 0 := by simpa using c
    rw [if_neg (fun q => q.2.1 c)]
  have c2 : b.length ≠ 0 := fun q => c2 (by rw [q]; rfl)
  rw [tmod8]
  refine Ev.ite (fun c => Ev.some ?_) (fun c3 => ?_)
  · rw [if_neg (fun q => by rw [q.2.2.1] at c; exact absurd c (by decide))]
  have c3 : b.length % 8 = 0 := by simp only [bne_iff_ne, ne_eq, Decidable.not_not] at c3; omega
  refine Ev.ite (fun c => Ev.some ?_) (fun c4 => ?_)
  · simp only [decide_eq_true_eq] at c
    rw [if_neg (fun q => by omega)]
  simp only [decide_eq_true_eq] at c4
  refine Ev.bind (refparse_loop wait k b hb (by omega) (b.length / 8) wait hw 0 (by omega) [] (by simp; omega)) ?_
  rintro _ rfl
  rw [List.nil_append, show b.drop (0 : Int).toNat = b from rfl]
  refine Ev.bind (refright_is wait hw _ (rd_nums _ _ _) (by rw [rd_len]; omega)) ?_
  rintro _ rfl
  refine Ev.ite (fun c => Ev.some ?_) (fun c => Ev.some ?_)
  · rw [if_neg (fun q => by rw [q.2.2.2.2] at c; cases c)]
  · rw [if_pos ⟨c1, c2, c3, by omega, by simpa using c⟩]
theorem parse_nums (wait k : Int) (b : List Int) : Nums (parseOf wait k b).1 ∧ (parseOf wait k b).1.length ≤ 4 := by
  unfold parseOf
  split
  · rename_i h; exact ⟨rd_nums _ _ _, by rw [rd_len]; omega⟩
  · exact ⟨fun p hp => (by cases hp), by simp⟩
theorem plain_loop (l : Bl) (hl : l.length ≤ 1000) : ∀ (d : Nat) (i : Int) (out : Bl) (hi : 0 ≤ i ∧ i + d = l.length) (ho : out.length ≤ i.toNat),
    Ev (fun n => f36_broughamlaw31_plain_L3 n l out i) (fun w => w = out ++ l.drop i.toNat)
  | 0, i, out, hi, ho => by
    apply Ev.succ
    unfold f36_broughamlaw31_plain_L3
    refine Ev.neg (by simp only [decide_eq_true_eq]; omega) (Ev.some ?_)
    rw [List.drop_eq_nil_of_le (by omega)]; simp
  | d + 1, i, out, hi, ho => by
    apply Ev.succ
    unfold f36_broughamlaw31_plain_L3
    have e1 : l.drop i.toNat = l.getD i.toNat (0, 0) :: l.drop (i.toNat + 1) := drop_cons (by omega) _
    refine Ev.pos (by simp only [decide_eq_true_eq]; omega) (Ev.guard (by omega) (Ev.guard (by omega) (Ev.guard (by simp only [List.length_singleton, maxLen]; omega) ?_)))
    rw [i64_id (by omega) (by omega)]
    refine (plain_loop l hl d (i + 1) _ (by omega) (by simp only [List.length_append, List.length_singleton]; omega)).mono ?_
    rintro _ rfl
    rw [e1, show (i + 1).toNat = i.toNat + 1 by omega]; simp
theorem plain_is (l : Bl) (hl : l.length ≤ 1000) : Ev (fun n => f36_broughamlaw31_plain n l) (fun r => r = l) := by
  unfold f36_broughamlaw31_plain
  refine Ev.bind (plain_loop l hl l.length 0 [] (by omega) (by simp)) ?_
  rintro _ rfl
  exact Ev.some (by simp)
theorem same_loop (l : Bl) (hl : l.length ≤ 1000) : ∀ (d : Nat) (i : Int) (hi : 0 ≤ i ∧ i + d = l.length), Ev (fun n => f35_broughamlaw31_same_L4 n l l i) (fun w => w = .inr ())
  | 0, i, hi => by
    apply Ev.succ
    unfold f35_broughamlaw31_same_L4
    exact Ev.neg (by simp only [decide_eq_true_eq]; omega) (Ev.some rfl)
  | d + 1, i, hi => by
    apply Ev.succ
    unfold f35_broughamlaw31_same_L4
    refine Ev.pos (by simp only [decide_eq_true_eq]; omega) (Ev.guard (by omega) (Ev.guard (by omega) (Ev.neg (by simp) ?_)))
    rw [i64_id (by omega) (by omega)]
    exact same_loop l hl d (i + 1) (by omega)
theorem same_is (l : Bl) (hl : l.length ≤ 1000) : Ev (fun n => f35_broughamlaw31_same n l l) (fun r => r = true) := by
  unfold f35_broughamlaw31_same
  refine Ev.neg (by simp) ?_
  refine Ev.bind (same_loop l hl l.length 0 (by omega)) ?_
  rintro _ rfl
  exact Ev.some rfl
theorem ok_nums {l : Bl} (h : K.ok (.slice (.pair (.int .u32) (.int .u32))) l) : Nums l := fun p hp => ⟨ok_u32 (h.2 p hp).1, ok_u32 (h.2 p hp).2⟩
theorem opt_refl (k : Int) (b : List Int) : f49_broughamref07_SameOption k b k b = some true := by
  unfold f49_broughamref07_SameOption
  rw [if_pos (by simp), str_refl]

theorem SackSays (wait : Int) (h0 : K.ok (.int .u32) wait) (l : Bl) (h1 : K.ok (.slice (.pair (.int .u32) (.int .u32))) l) (o : Int × List Int) (h2 : K.ok (.pair (.int .u8) (.slice (.int .u8))) o) : ∃ n, f9_broughamlaw31_SackSays n wait l o.1 o.2 = some true := by
  obtain ⟨k, b⟩ := o
  have hw : U32 wait := ok_u32 h0
  have hn := ok_nums h1
  have hb : Bytes b := ok_bytes h2.2
  apply Ev.true
  unfold f9_broughamlaw31_SackSays
  refine Ev.ite (fun _ => Ev.some rfl) fun a1 => ?_
  refine Ev.ite (fun _ => Ev.some rfl) fun a2 => ?_
  simp only [decide_eq_true_eq] at a1 a2
  refine Ev.bind (option_is wait l (by omega)) ?_
  rintro _ rfl
  refine Ev.bind (plain_is l (by omega)) ?_
  intro r hr; subst r
  refine Ev.bind (refoption_is wait hw l hn (by omega)) ?_
  rintro _ rfl
  have hP := parse_nums wait k b
  have rest : ∀ (x : Bool × Int × List Int) (y : List Int × Bool) (kk : Int) (bb : List Int), x.1 = y.2 → x.2 = (kk, bb) → Ev (fun n =>
        (f45_sack_Parse n wait k b).bind fun r712_0 =>
        (f46_broughamref31_Parse n wait k b).bind fun r713_0 =>
        (f47_sack_Right n wait l).bind fun r714_0 =>
        (f36_broughamlaw31_plain n l).bind fun r714_1 =>
        (f48_broughamref31_Right n wait r714_1).bind fun r714_2 =>
        if (r714_0 == r714_2) = true then
          if (x.1 == y.2) = true then
            (f49_broughamref07_SameOption x.2.1 x.2.2 kk bb).bind fun r714_3 =>
            if r714_3 = true then
              if (r712_0.2 == r713_0.2) = true then
                (f36_broughamlaw31_plain n r712_0.1).bind fun r714_4 =>
                (f35_broughamlaw31_same n r714_4 r713_0.1).bind fun r714_5 =>
                if r714_5 = true then
                  (f41_broughamlaw31_alive n).bind fun r714_6 =>
                  some r714_6
                else
                  some false
              else
                some false
            else
              some false
          else
            some false
        else
          some false) (fun r => r = true) := by
    rintro ⟨x1, x2⟩ ⟨y1, y2⟩ kk bb e1 e2
    dsimp only at e1 e2
    subst e1; subst e2
    refine Ev.bind (parse_is wait hw k b hb) ?_
    rintro _ rfl
    refine Ev.bind (refparse_is wait hw k b hb) ?_
    rintro _ rfl
    refine Ev.bind (right_is wait l (by omega)) ?_
    rintro _ rfl
    refine Ev.bind (plain_is l (by omega)) ?_
    intro r hr; subst r
    refine Ev.bind (refright_is wait hw _ hn (by omega)) ?_
    rintro _ rfl
    refine Ev.pos (by simp) (Ev.pos (by simp) ?_)
    refine Ev.bind (Ev.of (opt_refl kk bb) rfl) ?_
    rintro _ rfl
    refine Ev.pos rfl (Ev.pos (by simp) ?_)
    refine Ev.bind (plain_is _ (by omega)) ?_
    rintro _ rfl
    refine Ev.bind (same_is _ (by omega)) ?_
    rintro _ rfl
    refine Ev.pos rfl ?_
    refine Ev.bind alive_ev ?_
    rintro _ rfl
    exact Ev.some rfl
  by_cases hc : rightB wait l = true ∧ l ≠ []
  · simp only [if_pos hc]
    exact Ev.pos trivial (rest (true, 9, bodyOf wait l) (bodyOf wait l, true) 9 (bodyOf wait l) rfl rfl)
  · simp only [if_neg hc]
    exact Ev.neg (by simp) (rest (false, 0, []) ([], false) 0 [] rfl rfl)
end Go.Proofs.YtjoibacjpapncaaF31
