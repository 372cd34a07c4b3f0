/- CwndAlpha: how fast several paths may grow together, as the document has it: of the functions that text F13 prints. Conditions: none. -/
import Derived.Test.YtjimlfjhhmdcdaaF13
import Derived.Test.YtjimlfjhhmdcdaaZedPa
namespace Go.Proofs.YtjimlfjhhmdcdaaF13
open Go Zed
set_option linter.unusedVariables false
set_option linter.unusedSimpArgs false

theorem alive_is (n : Nat) : f41_broughamlaw13_alive n = some true := rfl
theorem alive_ev : Ev (fun n => f41_broughamlaw13_alive n) (fun r => r = true) := ⟨true, rfl, 0, fun n _ => alive_is n⟩

/-- Within 1 and a bound. -/
def cz (x hi : Int) : Int := if hi < (if x < 1 then 1 else x) then hi else (if x < 1 then 1 else x)
theorem cz_in {x hi : Int} (h : 1 ≤ hi) : 1 ≤ cz x hi ∧ cz x hi ≤ hi := by unfold cz; split <;> split at * <;> omega
theorem within_is (x lo hi : Int) : f71_broughamref13_within x lo hi = some (if x < lo then lo else if x > hi then hi else x) := by
  unfold f71_broughamref13_within
  simp only [decide_eq_true_eq]
  split
  · rfl
  · split <;> rfl
theorem within1 {x hi : Int} (h : 1 ≤ hi) : f71_broughamref13_within x 1 hi = some (cz x hi) := by
  rw [within_is, cz]; congr 1
  split <;> split <;> first | rfl | omega

abbrev P := Int × Int
def cp (p : P) : P := (cz p.1 65536, cz p.2 4096)
def bOf (p : P) : Int := IntKind.wrap .i64 (Int.tdiv (IntKind.wrap .i64 ((cp p).1 * 1024)) (IntKind.wrap .i64 ((cp p).2 * (cp p).2)))
def sOf (p : P) : Int := IntKind.wrap .i64 (Int.tdiv (IntKind.wrap .i64 ((cp p).1 * 1024)) (cp p).2)
def foldT : List P → Int → Int
  | [], t => t
  | p :: l, t => foldT l (IntKind.wrap .i64 (t + (cp p).1))
def foldB : List P → Int → Int
  | [], t => t
  | p :: l, t => foldB l (if t < bOf p then bOf p else t)
def foldS : List P → Int → Int
  | [], t => t
  | p :: l, t => foldS l (IntKind.wrap .i64 (t + sOf p))

theorem cp1 (p : P) : 1 ≤ (cp p).1 ∧ (cp p).1 ≤ 65536 := cz_in (by omega)
theorem cp2 (p : P) : 1 ≤ (cp p).2 ∧ (cp p).2 ≤ 4096 := cz_in (by omega)
theorem sq {x hi : Int} (h : 1 ≤ x ∧ x ≤ hi) : 1 ≤ x * x ∧ x * x ≤ hi * hi := by
  constructor
  · have := Int.mul_le_mul h.1 h.1 (by omega) (by omega); omega
  · exact Int.mul_le_mul h.2 h.2 (by omega) (by omega)
theorem cpsq (p : P) : IntKind.wrap .i64 ((cp p).2 * (cp p).2) = (cp p).2 * (cp p).2 ∧ 1 ≤ (cp p).2 * (cp p).2 ∧ (cp p).2 * (cp p).2 ≤ 16777216 := by
  have := sq (cp2 p)
  refine ⟨i64_id (by omega) (by omega), by omega, by omega⟩
theorem sOf_in (p : P) : 0 ≤ sOf p ∧ sOf p ≤ 67108864 := by
  have h1 := cp1 p; have h2 := cp2 p
  unfold sOf
  rw [i64_id (e := (cp p).1 * 1024) (by omega) (by omega), tdiv_e (by omega)]
  have h3 : 0 ≤ (cp p).1 * 1024 / (cp p).2 := Int.ediv_nonneg (by omega) (by omega)
  have h4 : (cp p).1 * 1024 / (cp p).2 ≤ (cp p).1 * 1024 := Int.ediv_le_self _ (by omega)
  rw [i64_id (by omega) (by omega)]; omega
theorem foldS_in : ∀ (l : List P) (s : Int), 0 ≤ s → s + l.length * 67108864 ≤ 1099511627776 → 0 ≤ foldS l s ∧ foldS l s ≤ s + l.length * 67108864
  | [], s, h, _ => by simp [foldS]; omega
  | p :: l, s, h, h2 => by
    have := sOf_in p
    simp only [List.length_cons, Int.natCast_add, Int.natCast_one] at h2 ⊢
    rw [foldS, i64_id (by omega) (by omega)]
    have := foldS_in l (s + sOf p) (by omega) (by omega)
    omega

theorem codeLoop (l : List P) (hl : l.length ≤ 64) : ∀ (m i : Nat), i + m = l.length → ∀ (t b s : Int), Ev (fun n => f38_cwnd_Alpha_L3 n t b s l ((l.length : Nat) : Int) (i : Int)) (fun r => r = (foldT (l.drop i) t, foldB (l.drop i) b, foldS (l.drop i) s))
  | 0, i, hi, t, b, s => by
    apply Ev.succ
    simp only [f38_cwnd_Alpha_L3]
    rw [List.drop_eq_nil_of_le (by omega)]
    exact Ev.neg (by simp; omega) (Ev.some rfl)
  | m + 1, i, hi, t, b, s => by
    apply Ev.succ
    simp only [f38_cwnd_Alpha_L3]
    rw [drop_cons (show i < l.length by omega) (0, 0), Int.toNat_natCast]
    generalize hp : l.getD i (0, 0) = p
    refine Ev.pos (by simp; omega) (Ev.guard (by omega) (Ev.guard ?_ (Ev.guard ?_ ?_)))
    · have := cpsq p
      show IntKind.wrap .i64 ((cp p).2 * (cp p).2) ≠ 0
      omega
    · have := cp2 p
      show (cp p).2 ≠ 0
      omega
    · rw [show IntKind.wrap .i64 ((i : Int) + 1) = ((i + 1 : Nat) : Int) by rw [i64_id] <;> omega]
      exact codeLoop l hl m (i + 1) (by omega) _ _ _

theorem pathsLoop (l : List P) (hl : l.length ≤ 140737488351232) : ∀ (m i : Nat), i + m = (l.take 64).length → Ev (fun n => f70_broughamref13_paths_L3 n l (((l.take 64).take i).map cp) (i : Int)) (fun r => r = (l.take 64).map cp)
  | 0, i, hi => by
    apply Ev.succ
    simp only [f70_broughamref13_paths_L3]
    have h : (l.take 64).take i = l.take 64 := List.take_of_length_le (by omega)
    rw [h]
    rw [List.length_take] at hi
    refine Ev.ite (fun a => Ev.neg ?_ (Ev.some rfl)) (fun _ => Ev.some rfl)
    simp only [decide_eq_true_eq] at a ⊢
    omega
  | m + 1, i, hi => by
    apply Ev.succ
    simp only [f70_broughamref13_paths_L3]
    have hi2 := hi
    rw [List.length_take] at hi2
    have hg : (l.take 64).getD i (0, 0) = l.getD i (0, 0) := by
      simp only [List.getD]; rw [List.getElem?_take_of_lt (by omega)]
    refine Ev.pos (by simp; omega) (Ev.pos (by simp; omega) (Ev.guard (by omega) ?_))
    rw [Int.toNat_natCast]
    refine Ev.bind (Ev.of (within1 (by omega)) rfl) ?_
    rintro _ rfl
    refine Ev.guard (by omega) ?_
    refine Ev.bind (Ev.of (within1 (by omega)) rfl) ?_
    rintro _ rfl
    refine Ev.guard ?_ ?_
    · simp only [List.length_map, List.length_take, List.length_cons, List.length_nil, maxLen]; omega
    · rw [show IntKind.wrap .i64 ((i : Int) + 1) = ((i + 1 : Nat) : Int) by rw [i64_id] <;> omega]
      have e : ((l.take 64).take i).map cp ++ [(cz (l.getD i (0, 0)).1 65536, cz (l.getD i (0, 0)).2 4096)] = ((l.take 64).take (i + 1)).map cp := by
        have h2 : (l.take 64).take (i + 1) = (l.take 64).take i ++ [(l.take 64).getD i (0, 0)] := by
          rw [List.take_succ_eq_append_getElem (by omega)]
          simp [List.getD, List.getElem?_eq_getElem (show i < (l.take 64).length by omega)]
        rw [h2, hg, List.map_append]; rfl
      rw [e]
      exact pathsLoop l hl m (i + 1) (by omega)
theorem paths_is (l : List P) (hl : l.length ≤ 140737488351232) : Ev (fun n => f70_broughamref13_paths n l) (fun r => r = (l.take 64).map cp) := by
  unfold f70_broughamref13_paths
  refine Ev.bind (pathsLoop l hl (l.take 64).length 0 (by omega)) ?_
  rintro _ rfl
  exact Ev.some rfl
theorem map_getD (l : List P) {i : Nat} (h : i < l.length) : (l.map cp).getD i (0, 0) = cp (l.getD i (0, 0)) := by
  simp [List.getD, List.getElem?_eq_getElem h]

theorem totalLoop (l : List P) (hl : l.length ≤ 64) : ∀ (m i : Nat), i + m = l.length → ∀ (t : Int), Ev (fun n => f72_broughamref13_total_L3 n (l.map cp) t (i : Int)) (fun r => r = foldT (l.drop i) t)
  | 0, i, hi, t => by
    apply Ev.succ
    simp only [f72_broughamref13_total_L3, List.length_map]
    rw [List.drop_eq_nil_of_le (by omega)]
    exact Ev.neg (by simp; omega) (Ev.some rfl)
  | m + 1, i, hi, t => by
    apply Ev.succ
    simp only [f72_broughamref13_total_L3, List.length_map]
    rw [drop_cons (show i < l.length by omega) (0, 0), Int.toNat_natCast, map_getD l (by omega)]
    refine Ev.pos (by simp; omega) (Ev.guard (by omega) ?_)
    rw [show IntKind.wrap .i64 ((i : Int) + 1) = ((i + 1 : Nat) : Int) by rw [i64_id] <;> omega]
    exact totalLoop l hl m (i + 1) (by omega) _
theorem total_is (l : List P) (hl : l.length ≤ 64) : Ev (fun n => f72_broughamref13_total n (l.map cp)) (fun r => r = foldT l 0) := by
  unfold f72_broughamref13_total
  refine Ev.bind (totalLoop l hl l.length 0 (by omega) 0) ?_
  rintro _ rfl
  exact Ev.some rfl

theorem refLoop (l : List P) (hl : l.length ≤ 64) : ∀ (m i : Nat), i + m = l.length → ∀ (b s : Int), Ev (fun n => f39_broughamref13_Alpha_L4 n (l.map cp) b s (i : Int)) (fun r => r = (l.map cp, foldB (l.drop i) b, foldS (l.drop i) s))
  | 0, i, hi, b, s => by
    apply Ev.succ
    simp only [f39_broughamref13_Alpha_L4, List.length_map]
    rw [List.drop_eq_nil_of_le (by omega)]
    exact Ev.neg (by simp; omega) (Ev.some rfl)
  | m + 1, i, hi, b, s => by
    apply Ev.succ
    simp only [f39_broughamref13_Alpha_L4, List.length_map]
    rw [drop_cons (show i < l.length by omega) (0, 0), Int.toNat_natCast, map_getD l (by omega)]
    generalize hp : l.getD i (0, 0) = p
    have hB : foldB (p :: l.drop (i + 1)) b = foldB (l.drop (i + 1)) (if b < bOf p then bOf p else b) := rfl
    have h2 := cp2 p
    have h3 := cpsq p
    refine Ev.pos (by simp; omega) (Ev.guard (by omega) (Ev.guard (by omega) (Ev.guard (by omega) (Ev.guard (by omega) (Ev.ite (fun a => ?_) (fun a => ?_))))))
    all_goals
      refine Ev.guard (by omega) (Ev.guard (by omega) (Ev.guard (by omega) ?_))
      rw [show IntKind.wrap .i64 ((i : Int) + 1) = ((i + 1 : Nat) : Int) by rw [i64_id] <;> omega]
    · have a2 : b < bOf p := by simp only [decide_eq_true_eq] at a; exact a
      rw [hB, if_pos a2]
      exact refLoop l hl m (i + 1) (by omega) _ _
    · have a2 : ¬ b < bOf p := by simp only [decide_eq_true_eq] at a; exact a
      rw [hB, if_neg a2]
      exact refLoop l hl m (i + 1) (by omega) _ _

/-- What both answer. -/
def alphaOf (l : List P) : Int :=
  let q := l.take 64
  let s := IntKind.wrap .i64 (Int.tdiv (foldS q 0) 1024)
  if foldB q 0 = 0 then 1024 else if s = 0 then 1024 else cz (IntKind.wrap .i64 (Int.tdiv (IntKind.wrap .i64 (foldT q 0 * foldB q 0)) (IntKind.wrap .i64 (s * s)))) 65536
theorem alphaOf_in (l : List P) : 1 ≤ alphaOf l ∧ alphaOf l ≤ 65536 := by
  unfold alphaOf; dsimp only
  split
  · omega
  · split
    · omega
    · exact cz_in (by omega)
theorem take_len (l : List P) : (l.take 64).length ≤ 64 := by rw [List.length_take]; omega
theorem s_in (l : List P) : IntKind.wrap .i64 (Int.tdiv (foldS (l.take 64) 0) 1024) = foldS (l.take 64) 0 / 1024 ∧ 0 ≤ foldS (l.take 64) 0 ∧ foldS (l.take 64) 0 / 1024 ≤ 4194304 := by
  have h1 := take_len l
  have h := foldS_in (l.take 64) 0 (by omega) (by omega)
  rw [tdiv_e h.1, i64_id (by omega) (by omega)]
  omega
theorem s_sq (l : List P) (h : IntKind.wrap .i64 (Int.tdiv (foldS (l.take 64) 0) 1024) ≠ 0) : IntKind.wrap .i64 (IntKind.wrap .i64 (Int.tdiv (foldS (l.take 64) 0) 1024) * IntKind.wrap .i64 (Int.tdiv (foldS (l.take 64) 0) 1024)) ≠ 0 := by
  have h1 := s_in l
  rw [h1.1] at h ⊢
  have := sq (x := foldS (l.take 64) 0 / 1024) (hi := 4194304) (by omega)
  rw [i64_id (by omega) (by omega)]; omega

theorem first_is (l : List P) : f69_cwnd_first l = some (l.take 64) := by
  unfold f69_cwnd_first
  rw [if_pos (by simp [cutOk]; split <;> omega)]
  congr 1
  split
  · rfl
  · rw [List.take_of_length_le (by omega), List.take_of_length_le (by omega)]

theorem code_is (l : List P) : Ev (fun n => f38_cwnd_Alpha n l) (fun r => r = alphaOf l) := by
  unfold f38_cwnd_Alpha
  refine Ev.bind (Ev.of (first_is l) rfl) ?_
  rintro _ rfl
  refine Ev.bind (codeLoop (l.take 64) (take_len l) (l.take 64).length 0 (by omega) 0 0 0) ?_
  rintro _ rfl
  rw [List.drop_zero]
  dsimp only
  have h1 := s_in l
  have hss := s_sq l
  unfold alphaOf
  dsimp only
  refine Ev.ite (fun a => ?_) (fun a => Ev.ite (fun b => ?_) (fun b => Ev.ite (fun c => ?_) (fun c => Ev.guard ?_ ?_)))
  · simp only [beq_iff_eq] at a
    refine Ev.some ?_
    rw [h1.1, a, if_pos (show (0 : Int) / 1024 = 0 from rfl)]
    split <;> rfl
  · simp only [beq_iff_eq] at b
    exact Ev.some (by rw [if_pos b])
  · simp only [beq_iff_eq] at c
    exact Ev.some (by rw [if_pos c]; split <;> rfl)
  · simp only [beq_iff_eq] at c
    exact hss c
  · simp only [beq_iff_eq] at b c
    rw [if_neg b, if_neg c]
    exact Ev.some rfl
theorem ref_is (l : List P) (hl : l.length ≤ 140737488351232) : Ev (fun n => f39_broughamref13_Alpha n l) (fun r => r = alphaOf l) := by
  unfold f39_broughamref13_Alpha
  refine Ev.bind (paths_is l hl) ?_
  rintro _ rfl
  refine Ev.bind (refLoop (l.take 64) (take_len l) (l.take 64).length 0 (by omega) 0 0) ?_
  rintro _ rfl
  rw [List.drop_zero]
  dsimp only
  have hss := s_sq l
  unfold alphaOf
  dsimp only
  refine Ev.ite (fun b => ?_) (fun b => Ev.ite (fun c => ?_) (fun c => ?_))
  · simp only [beq_iff_eq] at b
    exact Ev.some (by rw [if_pos b])
  · simp only [beq_iff_eq] at c
    exact Ev.some (by rw [if_pos c]; split <;> rfl)
  · simp only [beq_iff_eq] at b c
    rw [if_neg b, if_neg c]
    refine Ev.bind (total_is (l.take 64) (take_len l)) ?_
    rintro _ rfl
    refine Ev.guard (hss c) ?_
    exact Ev.bind (Ev.of (within1 (by omega)) rfl) (fun r hr => Ev.some hr.symm)

theorem take_snoc (l : List P) {i : Nat} (h : i < l.length) : l.take (i + 1) = l.take i ++ [l.getD i (0, 0)] := by
  rw [List.take_succ_eq_append_getElem h]
  simp [List.getD, List.getElem?_eq_getElem h]
theorem plainLoop (l : List P) (hl : l.length ≤ 8796093022207) : ∀ (m i : Nat), i + m = l.length → Ev (fun n => f40_broughamlaw13_plain_L3 n l (l.take i) (i : Int)) (fun r => r = l)
  | 0, i, hi => by
    apply Ev.succ
    simp only [f40_broughamlaw13_plain_L3]
    rw [List.take_of_length_le (by omega)]
    exact Ev.neg (by simp; omega) (Ev.some rfl)
  | m + 1, i, hi => by
    apply Ev.succ
    simp only [f40_broughamlaw13_plain_L3]
    refine Ev.pos (by simp; omega) (Ev.guard (by omega) (Ev.guard (by omega) (Ev.guard ?_ ?_)))
    · simp only [List.length_take, List.length_cons, List.length_nil, maxLen]; omega
    · rw [show IntKind.wrap .i64 ((i : Int) + 1) = ((i + 1 : Nat) : Int) by rw [i64_id] <;> omega, Int.toNat_natCast, ← take_snoc l (by omega)]
      exact plainLoop l hl m (i + 1) (by omega)
theorem plain_is (l : List P) (hl : l.length ≤ 8796093022207) : Ev (fun n => f40_broughamlaw13_plain n l) (fun r => r = l) := by
  unfold f40_broughamlaw13_plain
  refine Ev.bind (plainLoop l hl l.length 0 (by omega)) ?_
  rintro _ rfl
  exact Ev.some rfl

theorem CwndAlpha (l : List P) (h0 : K.ok (.slice (.pair (.int .i64) (.int .i64))) l) : ∃ n, f7_broughamlaw13_CwndAlpha n l = some true := by
  apply Ev.true
  unfold f7_broughamlaw13_CwndAlpha
  refine Ev.ite (fun _ => Ev.some rfl) fun a => ?_
  simp only [decide_eq_true_eq] at a
  refine Ev.bind (code_is l) ?_
  rintro _ rfl
  refine Ev.bind (plain_is l (by omega)) ?_
  intro r hr
  rw [hr]
  refine Ev.bind (ref_is l (by omega)) ?_
  rintro _ rfl
  refine Ev.pos (by simp only [beq_self_eq_true]) ?_
  exact Ev.bind alive_ev (fun r hr => Ev.some hr)
end Go.Proofs.YtjimlfjhhmdcdaaF13
