/- Texts KM0, KN0, KNA00, KNB0, KNT000, KNA01, KNT001, KNB1, KNT010, KNT011, KNA10, KNT100, KNA11, KNT101, KNT110, KNT111 of our own machine for the walk of WholeChallenges, one behind the other. -/
import Derived.Test.YtiammpabkpoidaaGreatW23
import Derived.Test.YtiammpabkpoidaaGreatW24
namespace Zed
set_option linter.unusedVariables false
set_option linter.unusedSimpArgs false
/-- The sum of n from place m on. -/
noncomputable def sumR (xs : List Int) (m n : Nat) : Int := ((xs.drop m).take n).sum
theorem sumR_zero (xs : List Int) (m : Nat) : sumR xs m 0 = 0 := by simp [sumR]
theorem take_succ' : ∀ (n : Nat) (ys : List Int), (ys.take (n + 1)).sum = (ys.take n).sum + ys.getD n 0
  | 0, [] => by simp
  | 0, y :: ys => by simp
  | n + 1, [] => by simp
  | n + 1, y :: ys => by
    have := take_succ' n ys
    simp only [List.take_succ_cons, List.sum_cons, List.getD_cons_succ, this]
    omega
theorem sumR_succ (xs : List Int) (m n : Nat) : sumR xs m (n + 1) = sumR xs m n + xs.getD (m + n) 0 := by
  unfold sumR
  rw [take_succ']
  congr 1
  simp [List.getD_eq_getElem?_getD, List.getElem?_drop]
/-- What was done, and what is left, of a bucket. -/
structure Bk (b r t : Int) (xs : List Int) : Prop where
  t0 : 0 ≤ t
  nn : ∀ x ∈ xs, 0 ≤ x
  left : ∀ m, m ≤ xs.length → (xs.drop m).sum + t ≤ b + r * ((xs.length - m : Nat) : Int)
  good : ∀ m n, m + n < xs.length → sumR xs m (n + 1) ≤ b + r * (n : Int)
theorem Bk.start {b r t : Int} (h0 : 0 ≤ t) (h1 : t ≤ b) : Bk b r t [] := ⟨h0, by simp, fun m hm => by
  have : m = 0 := by simpa using hm
  subst this; simp; exact h1, fun m n h => by simp at h⟩
theorem Bk.step {b r t x t' : Int} {xs : List Int} (h : Bk b r t xs) (hr : 0 ≤ r) (hx : 0 ≤ x) (hxt : x ≤ t) (ht : t' = t - x + r ∨ t' = b) (hle : t' ≤ t - x + r) (hb : t' ≤ b) (h0 : 0 ≤ t') : Bk b r t' (xs ++ [x]) := by
  refine ⟨h0, ?_, ?_, ?_⟩
  · intro y hy
    rcases List.mem_append.1 hy with hy | hy
    · exact h.nn y hy
    · have : y = x := by simpa using hy
      rw [this]; exact hx
  · intro m hm
    rw [List.length_append, List.length_singleton] at hm
    by_cases hmx : m ≤ xs.length
    · have := h.left m hmx
      rw [List.drop_append_of_le_length hmx, List.sum_append, List.length_append, List.length_singleton]
      have e : ((xs.length + 1 - m : Nat) : Int) = ((xs.length - m : Nat) : Int) + 1 := by omega
      rw [e, Int.mul_add, Int.mul_one]
      simp only [List.sum_cons, List.sum_nil, Int.add_zero]
      omega
    · have e : m = xs.length + 1 := by omega
      subst e
      rw [List.drop_of_length_le (by simp)]
      simp
      exact hb
  · intro m n hmn
    rw [List.length_append, List.length_singleton] at hmn
    by_cases hlt : m + n < xs.length
    · have := h.good m n hlt
      have e : sumR (xs ++ [x]) m (n + 1) = sumR xs m (n + 1) := by
        unfold sumR
        rw [List.drop_append_of_le_length (by omega), List.take_append_of_le_length (by rw [List.length_drop]; omega)]
      rw [e]; exact this
    · have e : m + n = xs.length := by omega
      have hm : m ≤ xs.length := by omega
      have := h.left m hm
      have e2 : sumR (xs ++ [x]) m (n + 1) = (xs.drop m).sum + x := by
        unfold sumR
        rw [List.drop_append_of_le_length hm, List.take_of_length_le (by rw [List.length_append, List.length_drop, List.length_singleton]; omega), List.sum_append]
        simp
      rw [e2]
      have e3 : ((xs.length - m : Nat) : Int) = (n : Int) := by omega
      rw [e3] at this
      omega
theorem sum_nonneg : ∀ {xs : List Int}, (∀ x ∈ xs, 0 ≤ x) → 0 ≤ xs.sum
  | [], _ => by simp
  | x :: xs, h => by
    have := sum_nonneg (xs := xs) fun y hy => h y (List.mem_cons_of_mem _ hy)
    have := h x (by simp)
    simp; omega
theorem Bk.pos {b r t : Int} {xs : List Int} (h : Bk b r t xs) (m n : Nat) : 0 ≤ sumR xs m n := by
  unfold sumR
  exact sum_nonneg fun x hx => h.nn x (List.mem_of_mem_drop (List.mem_of_mem_take hx))
end Zed
namespace Zed
open Go
set_option linter.unusedVariables false
noncomputable abbrev PK := Int × (Int × List Int)
/-- What moves of two hosts' state. -/
structure Pa where
  b : Int
  r : Int
  cb : Int
  cr : Int
  W : List PK
  G : List PK
  tk0 : Int
  tk1 : Int
  ch : Int
  lm : Int
  s0 : Int
  j0 : Int
  n0 : Int
  s1 : Int
  j1 : Int
  n1 : Int
  i0 : Int
  q0 : Int
  a0 : Int
  i1 : Int
  q1 : Int
  a1 : Int
  h0 : Int
  p0 : Int
  k0 : Int
  pt : Int
  p1 : Int
  tk : Int
noncomputable def pkA : PK := (0, (0, [0, 80, 0, 5, 47, 166, 55, 113, 197, 250, 58, 208, 2, 31, 3, 29, 0, 0, 0, 0, 0, 0, 0, 0, 0, 0, 0, 0, 0, 0, 0, 0, 0, 0, 0, 0, 64, 245, 255, 213, 105, 8, 110, 169, 10]))
noncomputable def pkB : PK := (1, (0, [0, 5, 0, 80, 197, 250, 58, 208, 47, 166, 55, 113, 2, 31, 3, 29, 2, 0, 0, 0, 0, 0, 0, 0, 0, 0, 0, 0, 0, 0, 0, 0, 0, 0, 0, 0, 64, 196, 242, 126, 12, 42, 96, 122, 140]))
noncomputable def pkC : PK := (0, (0, [0, 80, 0, 5, 47, 166, 55, 113, 197, 250, 58, 208, 2, 31, 3, 29, 2, 0, 0, 0, 0, 0, 0, 0, 0, 0, 0, 0, 0, 0, 0, 0, 0, 0, 0, 0, 64, 136, 188, 112, 151, 91, 76, 146, 168]))
noncomputable def pkD : PK := (1, (0, [0, 5, 0, 80, 197, 250, 58, 208, 47, 166, 55, 113, 2, 31, 3, 29, 0, 0, 0, 0, 0, 0, 0, 0, 0, 0, 0, 0, 0, 0, 0, 0, 0, 0, 0, 0, 64, 100, 86, 33, 201, 43, 8, 42, 199]))
noncomputable def noPost : Z1 := .d (.sl .unit ([] : List Unit))
noncomputable def bxN (lw lg : Nat) (p : Pa) : List (Nat × List Z1) := [(0, [.ptr 1 0, .ptr 2 0, .own lw (.pair (.int .i64) (.pair (.int .i64) (.slice (.int .u8)))) p.W, .own lg (.pair (.int .i64) (.pair (.int .i64) (.slice (.int .u8)))) p.G, .d (.int .i64 0)]),
  (1, [.d (.int .i64 p.tk0), .d (.int .i64 0), .d (.int .i64 0), .d (.int .i64 0), .d (.int .i64 0), .d (.int .i64 0), .d (.int .i64 0), .d (.int .i64 0), .d (.int .i64 0), .d (.int .i64 0), .d (.int .i64 2), .d (.int .i64 2), .d (.int .i64 3), .d (.int .i64 3), .d (.int .i64 64), .d (.int .i64 16), .d (.int .i64 4), .d (.int .i64 3), .d (.int .i64 8), .d (.int .i64 200), .d (.int .i64 20), .d (.int .i64 p.b), .d (.int .i64 p.r), .d (.int .i64 8), .d (.int .i64 1), .d (.int .u64 5), .d (.int .u64 0), .d (.int .u64 2), .d (.sl (.unit) ([] : List (Unit))), .mref 5, .d (.int .i64 2), .d (.sl (.unit) ([] : List (Unit)))]),
  (2, [.d (.int .i64 p.tk1), .d (.int .i64 0), .d (.int .i64 0), .d (.int .i64 p.ch), .d (.int .i64 p.lm), .d (.int .i64 0), .d (.int .i64 0), .d (.int .i64 0), .d (.int .i64 0), .d (.int .i64 1), .d (.int .i64 2), .d (.int .i64 2), .d (.int .i64 3), .d (.int .i64 3), .d (.int .i64 64), .d (.int .i64 16), .d (.int .i64 4), .d (.int .i64 3), .d (.int .i64 8), .d (.int .i64 200), .d (.int .i64 20), .d (.int .i64 p.b), .d (.int .i64 p.r), .d (.int .i64 8), .d (.int .i64 1), .d (.int .u64 6), .d (.int .u64 0), .d (.int .u64 2), .hd 6 0 1 1, .mref 7, .d (.int .i64 2), .d (.sl (.unit) ([] : List (Unit)))]),
  (5, [.mpp .i64 [(1, 8, 0)] 1]),
  (6, [.ptr 9 0]),
  (7, [.mpp .i64 [(1, 10, 0)] 1]),
  (8, [.d (.int .u64 20554536112169412), .d (.int .u64 9078619435652525030), .d (.int .u64 11187311201632187518), .d (.int .u64 9578650552141225761), .d (.int .u64 11002307143085013570), .d (.int .u64 15285112367537032273), .d (.int .u64 16251747843416768207), .d (.int .u64 8379221946427090521), .d (.int .u32 697040625), .d (.int .i64 2), .d (.int .i64 2), .d (.int .i64 3), .d (.int .i64 3), .d (.int .i64 64), .d (.int .i64 16), .d (.int .i64 4), .d (.int .i64 3), .d (.int .i64 8), .d (.int .i64 200), .d (.int .i64 20), .d (.int .i64 p.b), .d (.int .i64 p.r), .d (.int .i64 8), .d (.int .i64 1), .d (.int .i64 1), .d (.int .i64 3), .d (.int .i64 0), .d (.int .u64 7581156179079225149), .d (.int .u64 463306154070289016), .d (.bool true), .d (.int .i64 0), .d (.int .u16 5), .d (.int .u16 80), .hd 11 0 1 1, .d (.int .i64 1), .ptr 12 0, .ptr 13 0, .ptr 14 0, .ptr 15 0, .own 16 (.int .i64) ([0] : List (Int)), .d (.int .u64 0), .d (.int .u64 64), .d (.int .u32 0), .d (.int .u32 0), .d (.int .i64 0), .d (.int .i64 p.s0), .d (.int .i64 0), .d (.int .i64 p.j0), .d (.int .i64 p.n0), .d (.sl (.unit) ([] : List (Unit)))]),
  (9, [.d (.int .i64 80), .hd 17 0 0 1, .own 18 (.int .i64) ([] : List (Int))]),
  (10, [.d (.int .u64 20554536112169412), .d (.int .u64 9078619435652525030), .d (.int .u64 11187311201632187518), .d (.int .u64 9578650552141225761), .d (.int .u64 11002307143085013570), .d (.int .u64 15285112367537032273), .d (.int .u64 16251747843416768207), .d (.int .u64 8379221946427090521), .d (.int .u32 697040625), .d (.int .i64 2), .d (.int .i64 2), .d (.int .i64 3), .d (.int .i64 3), .d (.int .i64 64), .d (.int .i64 16), .d (.int .i64 4), .d (.int .i64 3), .d (.int .i64 8), .d (.int .i64 200), .d (.int .i64 20), .d (.int .i64 p.b), .d (.int .i64 p.r), .d (.int .i64 8), .d (.int .i64 1), .d (.int .i64 2), .d (.int .i64 3), .d (.int .i64 0), .d (.int .u64 463306154070289016), .d (.int .u64 7581156179079225149), .d (.bool true), .d (.int .i64 0), .d (.int .u16 80), .d (.int .u16 5), .hd 19 0 1 1, .d (.int .i64 1), .ptr 20 0, .ptr 21 0, .ptr 22 0, .ptr 23 0, .own 24 (.int .i64) ([0] : List (Int)), .d (.int .u64 0), .d (.int .u64 64), .d (.int .u32 0), .d (.int .u32 0), .d (.int .i64 0), .d (.int .i64 p.s1), .d (.int .i64 0), .d (.int .i64 p.j1), .d (.int .i64 p.n1), .d (.sl (.unit) ([] : List (Unit)))]),
  (11, [.ptr 25 0]),
  (12, [.ptr 26 0, .d (.int .u64 0), .d (.bool false), .d (.bool false)]),
  (13, [.ptr 27 0, .ptr 28 0, .d (.int .u64 0), .d (.int .u64 0), .d (.bool false)]),
  (14, [.d (.int .i64 16), .d (.sl (.unit) ([] : List (Unit)))]),
  (15, [.ptr 29 0, .d (.int .i64 4), .d (.int .i64 3), .d (.sl (.unit) ([] : List (Unit)))]),
  (17, [.d (.nilP)]),
  (19, [.ptr 30 0]),
  (20, [.ptr 31 0, .d (.int .u64 0), .d (.bool false), .d (.bool false)]),
  (21, [.ptr 32 0, .ptr 33 0, .d (.int .u64 0), .d (.int .u64 0), .d (.bool false)]),
  (22, [.d (.int .i64 16), .d (.sl (.unit) ([] : List (Unit)))]),
  (23, [.ptr 34 0, .d (.int .i64 4), .d (.int .i64 3), .d (.sl (.unit) ([] : List (Unit)))]),
  (25, [.d (.int .i64 3), .d (.int .u32 3321510607), .d (.int .u32 3321510608), .d (.int .u32 3321510608), .d (.int .u32 799422321), .d (.int .i64 0), .d (.int .i64 0), .d (.bool false), .d (.int .i64 0), .d (.int .i64 0), .d (.int .i64 0), .d (.int .u16 5), .d (.int .u16 80), .d (.bool false), .d (.bool true), .d (.int .u32 0), .d (.int .u32 0), .ptr 35 0, .ptr 36 0, .ptr 37 0, .d (.int .i64 p.i0), .d (.int .i64 p.q0), .d (.bool true), .d (.int .i64 p.a0), .d (.int .i64 0)]),
  (26, [.hd 38 0 64 64, .d (.int .i64 0), .d (.int .i64 0)]),
  (27, [.hd 39 0 64 64, .d (.int .i64 0), .d (.int .i64 0)]),
  (28, [.d (.int .i64 16), .d (.sl (.unit) ([] : List (Unit)))]),
  (29, [.d (.int .i64 64), .d (.int .i64 1), .d (.int .i64 64)]),
  (30, [.d (.int .i64 3), .d (.int .u32 799422320), .d (.int .u32 799422321), .d (.int .u32 799422321), .d (.int .u32 3321510608), .d (.int .i64 0), .d (.int .i64 0), .d (.bool false), .d (.int .i64 0), .d (.int .i64 0), .d (.int .i64 0), .d (.int .u16 80), .d (.int .u16 5), .d (.bool false), .d (.bool true), .d (.int .u32 0), .d (.int .u32 0), .ptr 40 0, .ptr 41 0, .ptr 42 0, .d (.int .i64 p.i1), .d (.int .i64 p.q1), .d (.bool true), .d (.int .i64 p.a1), .d (.int .i64 0)]),
  (31, [.hd 43 0 64 64, .d (.int .i64 0), .d (.int .i64 0)]),
  (32, [.hd 44 0 64 64, .d (.int .i64 0), .d (.int .i64 0)]),
  (33, [.d (.int .i64 16), .d (.sl (.unit) ([] : List (Unit)))]),
  (34, [.d (.int .i64 64), .d (.int .i64 1), .d (.int .i64 64)]),
  (35, [.d (.int .i64 8), .d (.int .i64 32), .d (.int .i64 512), .d (.int .i64 0), .d (.int .i64 0)]),
  (36, [.d (.int .i64 p.h0), .d (.int .i64 8), .d (.int .i64 p.p0)]),
  (37, [.d (.int .i64 p.cb), .d (.int .i64 p.cr), .d (.int .i64 p.k0)]),
  (38, List.replicate 64 (.d (.int .u8 0))),
  (39, List.replicate 64 (.d (.int .u8 0))),
  (40, [.d (.int .i64 8), .d (.int .i64 32), .d (.int .i64 512), .d (.int .i64 0), .d (.int .i64 0)]),
  (41, [.d (.int .i64 p.pt), .d (.int .i64 8), .d (.int .i64 p.p1)]),
  (42, [.d (.int .i64 p.cb), .d (.int .i64 p.cr), .d (.int .i64 p.tk)]),
  (43, List.replicate 64 (.d (.int .u8 0))),
  (44, List.replicate 64 (.d (.int .u8 0)))]
noncomputable def bxA (post : Z1) (p : Pa) : List (Nat × List Z1) := [(0, [.d (.int .i64 p.tk0), .d (.int .i64 0), .d (.int .i64 0), .d (.int .i64 0), .d (.int .i64 0), .d (.int .i64 0), .d (.int .i64 0), .d (.int .i64 0), .d (.int .i64 0), .d (.int .i64 0), .d (.int .i64 2), .d (.int .i64 2), .d (.int .i64 3), .d (.int .i64 3), .d (.int .i64 64), .d (.int .i64 16), .d (.int .i64 4), .d (.int .i64 3), .d (.int .i64 8), .d (.int .i64 200), .d (.int .i64 20), .d (.int .i64 p.b), .d (.int .i64 p.r), .d (.int .i64 8), .d (.int .i64 1), .d (.int .u64 5), .d (.int .u64 0), .d (.int .u64 2), .d (.sl (.unit) ([] : List (Unit))), .mref 1, .d (.int .i64 2), post]),
  (1, [.mpp .i64 [(1, 2, 0)] 1]),
  (2, [.d (.int .u64 20554536112169412), .d (.int .u64 9078619435652525030), .d (.int .u64 11187311201632187518), .d (.int .u64 9578650552141225761), .d (.int .u64 11002307143085013570), .d (.int .u64 15285112367537032273), .d (.int .u64 16251747843416768207), .d (.int .u64 8379221946427090521), .d (.int .u32 697040625), .d (.int .i64 2), .d (.int .i64 2), .d (.int .i64 3), .d (.int .i64 3), .d (.int .i64 64), .d (.int .i64 16), .d (.int .i64 4), .d (.int .i64 3), .d (.int .i64 8), .d (.int .i64 200), .d (.int .i64 20), .d (.int .i64 p.b), .d (.int .i64 p.r), .d (.int .i64 8), .d (.int .i64 1), .d (.int .i64 1), .d (.int .i64 3), .d (.int .i64 0), .d (.int .u64 7581156179079225149), .d (.int .u64 463306154070289016), .d (.bool true), .d (.int .i64 0), .d (.int .u16 5), .d (.int .u16 80), .hd 3 0 1 1, .d (.int .i64 1), .ptr 4 0, .ptr 5 0, .ptr 6 0, .ptr 7 0, .own 8 (.int .i64) ([0] : List (Int)), .d (.int .u64 0), .d (.int .u64 64), .d (.int .u32 0), .d (.int .u32 0), .d (.int .i64 0), .d (.int .i64 p.s0), .d (.int .i64 0), .d (.int .i64 p.j0), .d (.int .i64 p.n0), .d (.sl (.unit) ([] : List (Unit)))]),
  (3, [.ptr 9 0]),
  (4, [.ptr 10 0, .d (.int .u64 0), .d (.bool false), .d (.bool false)]),
  (5, [.ptr 11 0, .ptr 12 0, .d (.int .u64 0), .d (.int .u64 0), .d (.bool false)]),
  (6, [.d (.int .i64 16), .d (.sl (.unit) ([] : List (Unit)))]),
  (7, [.ptr 13 0, .d (.int .i64 4), .d (.int .i64 3), .d (.sl (.unit) ([] : List (Unit)))]),
  (9, [.d (.int .i64 3), .d (.int .u32 3321510607), .d (.int .u32 3321510608), .d (.int .u32 3321510608), .d (.int .u32 799422321), .d (.int .i64 0), .d (.int .i64 0), .d (.bool false), .d (.int .i64 0), .d (.int .i64 0), .d (.int .i64 0), .d (.int .u16 5), .d (.int .u16 80), .d (.bool false), .d (.bool true), .d (.int .u32 0), .d (.int .u32 0), .ptr 14 0, .ptr 15 0, .ptr 16 0, .d (.int .i64 p.i0), .d (.int .i64 p.q0), .d (.bool true), .d (.int .i64 p.a0), .d (.int .i64 0)]),
  (10, [.hd 17 0 64 64, .d (.int .i64 0), .d (.int .i64 0)]),
  (11, [.hd 18 0 64 64, .d (.int .i64 0), .d (.int .i64 0)]),
  (12, [.d (.int .i64 16), .d (.sl (.unit) ([] : List (Unit)))]),
  (13, [.d (.int .i64 64), .d (.int .i64 1), .d (.int .i64 64)]),
  (14, [.d (.int .i64 8), .d (.int .i64 32), .d (.int .i64 512), .d (.int .i64 0), .d (.int .i64 0)]),
  (15, [.d (.int .i64 p.h0), .d (.int .i64 8), .d (.int .i64 p.p0)]),
  (16, [.d (.int .i64 p.cb), .d (.int .i64 p.cr), .d (.int .i64 p.k0)]),
  (17, List.replicate 64 (.d (.int .u8 0))),
  (18, List.replicate 64 (.d (.int .u8 0)))]
noncomputable def bxB (post : Z1) (p : Pa) : List (Nat × List Z1) := [(0, [.d (.int .i64 p.tk1), .d (.int .i64 0), .d (.int .i64 0), .d (.int .i64 p.ch), .d (.int .i64 p.lm), .d (.int .i64 0), .d (.int .i64 0), .d (.int .i64 0), .d (.int .i64 0), .d (.int .i64 1), .d (.int .i64 2), .d (.int .i64 2), .d (.int .i64 3), .d (.int .i64 3), .d (.int .i64 64), .d (.int .i64 16), .d (.int .i64 4), .d (.int .i64 3), .d (.int .i64 8), .d (.int .i64 200), .d (.int .i64 20), .d (.int .i64 p.b), .d (.int .i64 p.r), .d (.int .i64 8), .d (.int .i64 1), .d (.int .u64 6), .d (.int .u64 0), .d (.int .u64 2), .hd 1 0 1 1, .mref 2, .d (.int .i64 2), post]),
  (1, [.ptr 3 0]),
  (2, [.mpp .i64 [(1, 4, 0)] 1]),
  (3, [.d (.int .i64 80), .hd 5 0 0 1, .own 6 (.int .i64) ([] : List (Int))]),
  (4, [.d (.int .u64 20554536112169412), .d (.int .u64 9078619435652525030), .d (.int .u64 11187311201632187518), .d (.int .u64 9578650552141225761), .d (.int .u64 11002307143085013570), .d (.int .u64 15285112367537032273), .d (.int .u64 16251747843416768207), .d (.int .u64 8379221946427090521), .d (.int .u32 697040625), .d (.int .i64 2), .d (.int .i64 2), .d (.int .i64 3), .d (.int .i64 3), .d (.int .i64 64), .d (.int .i64 16), .d (.int .i64 4), .d (.int .i64 3), .d (.int .i64 8), .d (.int .i64 200), .d (.int .i64 20), .d (.int .i64 p.b), .d (.int .i64 p.r), .d (.int .i64 8), .d (.int .i64 1), .d (.int .i64 2), .d (.int .i64 3), .d (.int .i64 0), .d (.int .u64 463306154070289016), .d (.int .u64 7581156179079225149), .d (.bool true), .d (.int .i64 0), .d (.int .u16 80), .d (.int .u16 5), .hd 7 0 1 1, .d (.int .i64 1), .ptr 8 0, .ptr 9 0, .ptr 10 0, .ptr 11 0, .own 12 (.int .i64) ([0] : List (Int)), .d (.int .u64 0), .d (.int .u64 64), .d (.int .u32 0), .d (.int .u32 0), .d (.int .i64 0), .d (.int .i64 p.s1), .d (.int .i64 0), .d (.int .i64 p.j1), .d (.int .i64 p.n1), .d (.sl (.unit) ([] : List (Unit)))]),
  (5, [.d (.nilP)]),
  (7, [.ptr 13 0]),
  (8, [.ptr 14 0, .d (.int .u64 0), .d (.bool false), .d (.bool false)]),
  (9, [.ptr 15 0, .ptr 16 0, .d (.int .u64 0), .d (.int .u64 0), .d (.bool false)]),
  (10, [.d (.int .i64 16), .d (.sl (.unit) ([] : List (Unit)))]),
  (11, [.ptr 17 0, .d (.int .i64 4), .d (.int .i64 3), .d (.sl (.unit) ([] : List (Unit)))]),
  (13, [.d (.int .i64 3), .d (.int .u32 799422320), .d (.int .u32 799422321), .d (.int .u32 799422321), .d (.int .u32 3321510608), .d (.int .i64 0), .d (.int .i64 0), .d (.bool false), .d (.int .i64 0), .d (.int .i64 0), .d (.int .i64 0), .d (.int .u16 80), .d (.int .u16 5), .d (.bool false), .d (.bool true), .d (.int .u32 0), .d (.int .u32 0), .ptr 18 0, .ptr 19 0, .ptr 20 0, .d (.int .i64 p.i1), .d (.int .i64 p.q1), .d (.bool true), .d (.int .i64 p.a1), .d (.int .i64 0)]),
  (14, [.hd 21 0 64 64, .d (.int .i64 0), .d (.int .i64 0)]),
  (15, [.hd 22 0 64 64, .d (.int .i64 0), .d (.int .i64 0)]),
  (16, [.d (.int .i64 16), .d (.sl (.unit) ([] : List (Unit)))]),
  (17, [.d (.int .i64 64), .d (.int .i64 1), .d (.int .i64 64)]),
  (18, [.d (.int .i64 8), .d (.int .i64 32), .d (.int .i64 512), .d (.int .i64 0), .d (.int .i64 0)]),
  (19, [.d (.int .i64 p.pt), .d (.int .i64 8), .d (.int .i64 p.p1)]),
  (20, [.d (.int .i64 p.cb), .d (.int .i64 p.cr), .d (.int .i64 p.tk)]),
  (21, List.replicate 64 (.d (.int .u8 0))),
  (22, List.replicate 64 (.d (.int .u8 0)))]
noncomputable def lvN : List (Nat × Ow) := [(3, ⟨79, 0⟩), (4, ⟨79, 0⟩), (16, ⟨3, 1⟩), (18, ⟨3, 0⟩), (24, ⟨3, 1⟩)]
noncomputable def innN (args : List V1) (p : Pa) : Inn := ⟨.c (.ptr 0 0) :: args, lvN, bxN 3 4 p, 45⟩
noncomputable def innA (post : Z1) (args : List V1) (p : Pa) : Inn := ⟨.c (.ptr 0 0) :: args, [(8, ⟨3, 1⟩)], bxA post p, 19⟩
noncomputable def innB (post : Z1) (args : List V1) (p : Pa) : Inn := ⟨.c (.ptr 0 0) :: args, [(6, ⟨3, 0⟩), (12, ⟨3, 1⟩)], bxB post p, 23⟩
noncomputable def wS (n : Int) : Int := IntKind.i64.wrap n
noncomputable def seqX (x : Int) : Int := wrapE .u32 (bits .or .u64 3321510400 (wrapE .u64 x))
noncomputable def injA (x : Int) : List V1 := [.c (.d (.int .i64 1)), .c (.d (.int .i64 0)), .c (.d (.sl (.int .u8) ([0, 5, 0, 80, 197, 250, 58, x, 0, 0, 0, 0, 4, 0] : List Int)))]
noncomputable def parN (i : Inn) : Pa := ⟨cellI i 1 21, cellI i 1 22, cellI i 37 0, cellI i 37 1, cellR (.pair (.int .i64) (.pair (.int .i64) (.slice (.int .u8)))) i 0 2, cellR (.pair (.int .i64) (.pair (.int .i64) (.slice (.int .u8)))) i 0 3, cellI i 1 0, cellI i 2 0, cellI i 2 3, cellI i 2 4, cellI i 8 45, cellI i 8 47, cellI i 8 48, cellI i 10 45, cellI i 10 47, cellI i 10 48, cellI i 25 20, cellI i 25 21, cellI i 25 23, cellI i 30 20, cellI i 30 21, cellI i 30 23, cellI i 36 0, cellI i 36 2, cellI i 37 2, cellI i 41 0, cellI i 41 2, cellI i 42 2⟩
noncomputable def parA (i : Inn) : Pa := ⟨cellI i 0 21, cellI i 0 22, cellI i 16 0, cellI i 16 1, [], [], cellI i 0 0, 0, 0, 0, cellI i 2 45, cellI i 2 47, cellI i 2 48, 0, 0, 0, cellI i 9 20, cellI i 9 21, cellI i 9 23, 0, 0, 0, cellI i 15 0, cellI i 15 2, cellI i 16 2, 0, 0, 0⟩
noncomputable def parB (i : Inn) : Pa := ⟨cellI i 0 21, cellI i 0 22, cellI i 20 0, cellI i 20 1, [], [], 0, cellI i 0 0, cellI i 0 3, cellI i 0 4, 0, 0, 0, cellI i 4 45, cellI i 4 47, cellI i 4 48, 0, 0, 0, cellI i 13 20, cellI i 13 21, cellI i 13 23, 0, 0, 0, cellI i 19 0, cellI i 19 2, cellI i 20 2⟩
end Zed
namespace Zed
open Go
set_option maxRecDepth 100000
set_option linter.unusedVariables false
noncomputable def dirsA00 : DirT := (.n none (.n none (.n none (.n none .e (.n none (.n none (.n none (.n none (.n (some [(3, 9999, .finV)]) .e .e) .e) .e) .e) .e)) (.n none (.n none (.n none (.n (some [(3, 0, .row)]) .e .e) .e) (.n none (.n none (.n (some [(1, 7, .lz), (1, 8, .lz)]) .e .e) .e) (.n (some [(1, 4, .lz), (1, 9, .lz), (1, 10, .lz), (1, 11, .lz), (1, 15, .lz), (1, 16, .lz)]) .e .e))) .e)) (.n none (.n none .e (.n none (.n none (.n none (.n none (.n (some [(27, 9999, .fin), (28, 9999, .fin)]) .e .e) .e) .e) .e) (.n none .e (.n (some [(0, 3, .lz), (0, 4, .lz), (1, 9, .lz), (1, 10, .asm true)]) (.n (some [(0, 3, .lz), (0, 7, .lz), (1, 4, .lz), (1, 8, .lz), (1, 9, .lz), (1, 10, .lz), (1, 11, .lz), (2, 3, .lz), (2, 4, .lz)]) .e .e) .e)))) (.n none (.n none .e (.n none .e (.n (some [(0, 4, .lz), (0, 5, .lz), (0, 6, .lz), (1, 4, .lz), (1, 5, .lz), (1, 6, .lz), (2, 4, .lz), (2, 5, .lz), (2, 6, .lz)]) .e .e))) .e))) (.n none (.n none (.n none (.n none (.n none .e (.n none (.n none (.n (some [(6, 9999, .fin)]) .e .e) .e) .e)) .e) (.n none (.n (some [(6, 9999, .fin)]) .e .e) (.n none (.n none .e (.n (some [(2, 9999, .fin)]) .e .e)) .e))) (.n none (.n none (.n none (.n (some [(1, 3, .lz), (1, 4, .lz), (3, 3, .lz), (3, 4, .lz), (4, 3, .lz), (4, 9, .asm false)]) .e .e) .e) .e) (.n none .e (.n none (.n (some [(9, 9999, .fin)]) (.n none (.n (some [(7, 3, .row)]) .e .e) .e) .e) .e)))) (.n none (.n none .e (.n none (.n none .e (.n none (.n none (.n (some [(1, 9999, .fin)]) .e .e) .e) .e)) (.n none (.n none .e (.n (some [(3, 7, .row)]) .e .e)) .e))) (.n none (.n none .e (.n none .e (.n (some [(10, 3, .lz), (10, 7, .asm false), (12, 11, .lz), (23, 3, .lz), (23, 9, .asm false), (10, 9999, .fin), (12, 9999, .fin)]) .e .e))) (.n none (.n none .e (.n none .e (.n (some [(9999, 9999, .hd)]) .e .e))) .e)))))
noncomputable def cfA00 : Cfg := { cfW with dir := dirOf dirsA00, prim := prim0 true false }
noncomputable def stA00 (p : Pa) : Pa := { p with n0 := wI (p.n0 + 1), s0 := wI (p.s0 + 1), j0 := wI (p.j0 + 1), i0 := mnI (wI (p.i0 + 1)) 4096, q0 := mnI (wI (p.q0 + 1)) 16384, a0 := mnI (wI (p.a0 + 1)) 4096, h0 := mxI (wS (p.h0 - wS ((wI (p.p0 + 1)).tdiv 8))) 0, p0 := (wI (p.p0 + 1)).tmod 8, k0 := mnI (wS (p.k0 + wS (1 * p.cr))) p.cb }
noncomputable def outA00 (p : Pa) : Out := ⟨.tup [], [(8, ⟨3, 1⟩)], bxA noPost (stA00 p), 19⟩
noncomputable def condA00 (p : Pa) : List Prop := [decide (wI (p.j0 + 1) < 16) = true, decide (mnI (wI (p.i0 + 1)) 4096 ≥ 20) = false, decide (mnI (wI (p.q0 + 1)) 16384 ≥ 60) = false, decide (wI (p.s0 + 1) ≥ 200) = false]
theorem runA00 (p : Pa) : fnT (evalF cfA00 40) true 38 (innA noPost [] p) [] = some (outA00 p, condA00 p) := by kernel_rfl
theorem okA00 (p : Pa) (h : AllC (condA00 p)) : FnOK Go.Proofs.Tryz.prog 38 (innA noPost [] p) (outA00 p) := (fnT_ok (evalF_ok (cf := cfA00) hmG htG prim0_ok (fnsOf_ok hfG) 40) (runA00 p) h).2
end Zed
namespace Zed
open Go
set_option maxRecDepth 100000
set_option linter.unusedVariables false
noncomputable def dirsB0 : DirT := (.n none (.n none (.n none (.n none .e (.n none (.n none (.n none (.n none (.n (some [(3, 9999, .finV)]) .e .e) .e) .e) .e) .e)) (.n none (.n none (.n none (.n (some [(3, 0, .row)]) .e .e) .e) (.n none (.n none (.n (some [(1, 7, .lz), (1, 8, .lz)]) .e .e) .e) (.n (some [(1, 4, .lz), (1, 9, .lz), (1, 10, .lz), (1, 11, .lz), (1, 15, .lz), (1, 16, .lz)]) .e .e))) .e)) (.n none (.n none .e (.n none (.n none (.n none (.n none (.n (some [(27, 9999, .fin), (28, 9999, .fin)]) .e .e) .e) .e) .e) (.n none .e (.n (some [(0, 3, .lz), (0, 4, .lz)]) (.n (some [(0, 3, .lz), (0, 7, .lz), (1, 4, .lz), (1, 8, .lz), (1, 9, .lz), (1, 10, .lz), (1, 11, .lz), (2, 3, .lz), (2, 4, .lz)]) .e .e) .e)))) (.n none (.n none .e (.n none .e (.n (some [(0, 4, .lz), (0, 5, .lz), (0, 6, .lz), (1, 4, .lz), (1, 5, .lz), (1, 6, .lz), (2, 4, .lz), (2, 5, .lz), (2, 6, .lz)]) .e .e))) .e))) (.n none (.n none (.n none (.n none (.n none .e (.n none (.n none (.n (some [(6, 9999, .fin)]) .e .e) .e) .e)) .e) (.n none (.n (some [(6, 9999, .fin)]) .e .e) (.n none (.n none .e (.n (some [(2, 9999, .fin)]) .e .e)) .e))) (.n none (.n none (.n none (.n (some [(1, 3, .lz), (1, 4, .lz), (3, 3, .lz), (3, 4, .lz), (4, 3, .lz), (4, 9, .asm false)]) .e .e) .e) .e) (.n none .e (.n none (.n (some [(9, 9999, .fin)]) (.n none (.n (some [(7, 3, .row)]) .e .e) .e) .e) .e)))) (.n none (.n none .e (.n none (.n none .e (.n none (.n none (.n (some [(1, 9999, .fin)]) .e .e) .e) .e)) (.n none (.n none .e (.n (some [(3, 7, .row)]) .e .e)) .e))) (.n none (.n none .e (.n none .e (.n (some [(10, 3, .lz), (10, 7, .asm false), (12, 11, .lz), (23, 3, .lz), (23, 9, .asm false), (10, 9999, .fin), (12, 9999, .fin)]) .e .e))) (.n none (.n none .e (.n none .e (.n (some [(9999, 9999, .hd)]) .e .e))) .e)))))
noncomputable def cfB0 : Cfg := { cfW with dir := dirOf dirsB0, prim := prim0 true false }
noncomputable def stB0 (p : Pa) : Pa := { p with n1 := wI (p.n1 + 1), s1 := wI (p.s1 + 1), j1 := wI (p.j1 + 1), i1 := mnI (wI (p.i1 + 1)) 4096, q1 := mnI (wI (p.q1 + 1)) 16384, a1 := mnI (wI (p.a1 + 1)) 4096, pt := mxI (wS (p.pt - wS ((wI (p.p1 + 1)).tdiv 8))) 0, p1 := (wI (p.p1 + 1)).tmod 8, tk := mnI (wS (p.tk + wS (1 * p.cr))) p.cb }
noncomputable def outB0 (p : Pa) : Out := ⟨.tup [], [(6, ⟨3, 0⟩), (12, ⟨3, 1⟩)], bxB noPost (stB0 p), 23⟩
noncomputable def condB0 (p : Pa) : List Prop := [decide (mnI (wI (p.i1 + 1)) 4096 ≥ 20) = false, decide (mnI (wI (p.q1 + 1)) 16384 ≥ 60) = false, decide (wI (p.s1 + 1) ≥ 200) = false]
theorem runB0 (p : Pa) : fnT (evalF cfB0 40) true 38 (innB noPost [] p) [] = some (outB0 p, condB0 p) := by kernel_rfl
theorem okB0 (p : Pa) (h : AllC (condB0 p)) : FnOK Go.Proofs.Tryz.prog 38 (innB noPost [] p) (outB0 p) := (fnT_ok (evalF_ok (cf := cfB0) hmG htG prim0_ok (fnsOf_ok hfG) 40) (runB0 p) h).2
end Zed
namespace Zed
open Go
set_option maxRecDepth 100000
set_option linter.unusedVariables false
noncomputable def symT000A : SymE Go.Proofs.Tryz.prog := ⟨38, fun i => iEq (cellI i 0 25) 5, fun i => innA noPost [] (parA i), fun i => outA00 (parA i), fun i => condA00 (parA i), fun i hc h => by
  have := okA00 (parA i) hc
  rw [← h] at this; exact this⟩
noncomputable def symT000B : SymE Go.Proofs.Tryz.prog := ⟨38, fun i => iEq (cellI i 0 25) 6, fun i => innB noPost [] (parB i), fun i => outB0 (parB i), fun i => condB0 (parB i), fun i hc h => by
  have := okB0 (parB i) hc
  rw [← h] at this; exact this⟩
noncomputable def primT000 : EvT := primS (Nat.beq 38) (symT [symT000A, symT000B]) (prim0 true false)
theorem primT000_ok : EvOK Go.Proofs.Tryz.prog primT000 := primS_ok (symT_ok _) prim0_ok
noncomputable def cfT000 : Cfg := { cfW with dir := dirOf (.n none (.n none (.n none (.n none .e (.n (some [(7, 4, .lz), (7, 7, .col)]) (.n none (.n none (.n none (.n (some [(3, 9999, .finV)]) .e .e) .e) .e) .e) .e)) (.n none (.n none (.n none (.n (some [(3, 0, .row)]) .e .e) .e) .e) .e)) (.n none (.n none .e (.n none (.n none (.n none (.n none (.n (some [(27, 9999, .fin), (28, 9999, .fin)]) .e .e) .e) .e) .e) .e)) .e)) (.n none (.n none (.n none (.n none (.n none .e (.n none (.n none (.n (some [(6, 9999, .fin)]) .e .e) .e) .e)) .e) (.n none (.n (some [(6, 9999, .fin)]) .e .e) (.n none (.n none .e (.n (some [(2, 9999, .fin)]) .e .e)) .e))) (.n none .e (.n none .e (.n none (.n (some [(9, 9999, .fin)]) (.n none (.n (some [(7, 3, .row)]) .e .e) .e) .e) .e)))) (.n none (.n none (.n none .e (.n (some [(1, 3, .lz), (1, 4, .lz), (1, 5, .asm false), (4, 4, .lz), (4, 7, .col)]) .e .e)) (.n none (.n none .e (.n none (.n none (.n (some [(1, 9999, .fin)]) .e .e) .e) .e)) (.n none (.n none .e (.n (some [(3, 7, .row)]) .e .e)) .e))) (.n none (.n none .e (.n none .e (.n (some [(10, 9999, .fin), (12, 9999, .fin)]) .e .e))) (.n none (.n none .e (.n none .e (.n (some [(9999, 9999, .hd)]) .e .e))) .e))))), prim := primT000 }
noncomputable def stT000 (p : Pa) : Pa := { p with n0 := wI (p.n0 + 1), s0 := wI (p.s0 + 1), j0 := wI (p.j0 + 1), i0 := mnI (wI (p.i0 + 1)) 4096, q0 := mnI (wI (p.q0 + 1)) 16384, a0 := mnI (wI (p.a0 + 1)) 4096, h0 := mxI (wS (p.h0 - wS ((wI (p.p0 + 1)).tdiv 8))) 0, p0 := (wI (p.p0 + 1)).tmod 8, k0 := mnI (wS (p.k0 + wS (1 * p.cr))) p.cb, n1 := wI (p.n1 + 1), s1 := wI (p.s1 + 1), j1 := wI (p.j1 + 1), i1 := mnI (wI (p.i1 + 1)) 4096, q1 := mnI (wI (p.q1 + 1)) 16384, a1 := mnI (wI (p.a1 + 1)) 4096, pt := mxI (wS (p.pt - wS ((wI (p.p1 + 1)).tdiv 8))) 0, p1 := (wI (p.p1 + 1)).tmod 8, tk := mnI (wS (p.tk + wS (1 * p.cr))) p.cb, W := p.W, G := p.G }
noncomputable def outT000 (p : Pa) : Out := ⟨.tup [], [(3, ⟨79, 0⟩), (4, ⟨79, 0⟩), (16, ⟨3, 1⟩), (18, ⟨3, 0⟩), (24, ⟨3, 1⟩)], bxN 3 4 (stT000 p), 45⟩
noncomputable def condFT000 (p : Pa) : List Prop := []
noncomputable def hostAT000 (p : Pa) : Pa := parA (innA noPost [] p)
noncomputable def hostBT000 (p : Pa) : Pa := parB (innB noPost [] p)
noncomputable def condT000 (p : Pa) : List Prop := condFT000 p ++ ((innB noPost [] (hostBT000 p) = innB noPost [] (hostBT000 p)) :: (condB0 (hostBT000 p) ++ ((innA noPost [] (hostAT000 p) = innA noPost [] (hostAT000 p)) :: condA00 (hostAT000 p))))
theorem runT000 (p : Pa) : fnT (evalF cfT000 40) true 13 (innN [] p) [] = some (outT000 p, condT000 p) := by kernel_rfl
theorem okT000 (p : Pa) (h : AllC (condT000 p)) : FnOK Go.Proofs.Tryz.prog 13 (innN [] p) (outT000 p) := (fnT_ok (evalF_ok (cf := cfT000) hmG htG primT000_ok (fnsOf_ok hfG) 40) (runT000 p) h).2
end Zed
namespace Zed
open Go
set_option maxRecDepth 100000
set_option linter.unusedVariables false
noncomputable def dirsA01 : DirT := (.n none (.n none (.n none (.n none .e (.n none (.n none (.n none (.n none (.n (some [(3, 9999, .finV)]) .e .e) .e) .e) .e) .e)) (.n none (.n none (.n none (.n (some [(3, 0, .row)]) .e .e) .e) (.n none (.n none (.n (some [(1, 7, .lz), (1, 8, .lz)]) .e .e) .e) (.n (some [(1, 4, .lz), (1, 9, .lz), (1, 10, .lz), (1, 11, .lz), (1, 15, .lz), (1, 16, .lz)]) .e .e))) .e)) (.n none (.n none .e (.n none (.n none (.n none (.n none (.n (some [(27, 9999, .fin), (28, 9999, .fin)]) .e .e) .e) .e) .e) (.n none .e (.n (some [(0, 3, .lz), (0, 4, .lz), (1, 9, .lz), (1, 10, .asm false)]) (.n (some [(0, 3, .lz), (0, 7, .lz), (1, 4, .lz), (1, 8, .lz), (1, 9, .lz), (1, 10, .lz), (1, 11, .lz), (2, 3, .lz), (2, 4, .lz)]) .e .e) .e)))) (.n none (.n none .e (.n none .e (.n (some [(0, 4, .lz), (0, 5, .lz), (0, 6, .lz), (1, 4, .lz), (1, 5, .lz), (1, 6, .lz), (2, 4, .lz), (2, 5, .lz), (2, 6, .lz)]) .e .e))) .e))) (.n none (.n none (.n none (.n none (.n none .e (.n none (.n none (.n (some [(6, 9999, .fin)]) .e .e) .e) .e)) .e) (.n none (.n (some [(6, 9999, .fin)]) .e .e) (.n none (.n none .e (.n (some [(2, 9999, .fin)]) .e .e)) .e))) (.n none (.n none (.n none (.n (some [(1, 3, .lz), (1, 4, .lz), (3, 3, .lz), (3, 4, .lz), (4, 3, .lz), (4, 9, .asm false)]) .e .e) .e) .e) (.n none .e (.n none (.n (some [(9, 9999, .fin)]) (.n none (.n (some [(7, 3, .row)]) .e .e) .e) .e) .e)))) (.n none (.n none .e (.n none (.n none .e (.n none (.n none (.n (some [(1, 9999, .fin)]) .e .e) .e) .e)) (.n none (.n none .e (.n (some [(3, 7, .row)]) .e .e)) .e))) (.n none (.n none .e (.n none .e (.n (some [(10, 3, .lz), (10, 7, .asm false), (12, 11, .lz), (23, 3, .lz), (23, 9, .asm false), (10, 9999, .fin), (12, 9999, .fin)]) .e .e))) (.n none (.n none .e (.n none .e (.n (some [(9999, 9999, .hd)]) .e .e))) .e)))))
noncomputable def cfA01 : Cfg := { cfW with dir := dirOf dirsA01, prim := prim0 true false }
noncomputable def stA01 (p : Pa) : Pa := { p with n0 := wI (p.n0 + 1), s0 := wI (p.s0 + 1), j0 := 0, i0 := mnI (wI (p.i0 + 1)) 4096, q0 := mnI (wI (p.q0 + 1)) 16384, a0 := mnI (wI (p.a0 + 1)) 4096, h0 := mxI (wS (p.h0 - wS ((wI (p.p0 + 1)).tdiv 8))) 0, p0 := (wI (p.p0 + 1)).tmod 8, k0 := mnI (wS (p.k0 + wS (1 * p.cr))) p.cb }
noncomputable def outA01 (p : Pa) : Out := ⟨.tup [], [(8, ⟨3, 1⟩)], bxA noPost (stA01 p), 19⟩
noncomputable def condA01 (p : Pa) : List Prop := [decide (wI (p.j0 + 1) < 16) = false, decide (mnI (wI (p.i0 + 1)) 4096 ≥ 20) = false, decide (mnI (wI (p.q0 + 1)) 16384 ≥ 60) = false, decide (wI (p.s0 + 1) ≥ 200) = false]
theorem runA01 (p : Pa) : fnT (evalF cfA01 40) true 38 (innA noPost [] p) [] = some (outA01 p, condA01 p) := by kernel_rfl
theorem okA01 (p : Pa) (h : AllC (condA01 p)) : FnOK Go.Proofs.Tryz.prog 38 (innA noPost [] p) (outA01 p) := (fnT_ok (evalF_ok (cf := cfA01) hmG htG prim0_ok (fnsOf_ok hfG) 40) (runA01 p) h).2
end Zed
namespace Zed
open Go
set_option maxRecDepth 100000
set_option linter.unusedVariables false
noncomputable def symT001A : SymE Go.Proofs.Tryz.prog := ⟨38, fun i => iEq (cellI i 0 25) 5, fun i => innA noPost [] (parA i), fun i => outA01 (parA i), fun i => condA01 (parA i), fun i hc h => by
  have := okA01 (parA i) hc
  rw [← h] at this; exact this⟩
noncomputable def symT001B : SymE Go.Proofs.Tryz.prog := ⟨38, fun i => iEq (cellI i 0 25) 6, fun i => innB noPost [] (parB i), fun i => outB0 (parB i), fun i => condB0 (parB i), fun i hc h => by
  have := okB0 (parB i) hc
  rw [← h] at this; exact this⟩
noncomputable def primT001 : EvT := primS (Nat.beq 38) (symT [symT001A, symT001B]) (prim0 true false)
theorem primT001_ok : EvOK Go.Proofs.Tryz.prog primT001 := primS_ok (symT_ok _) prim0_ok
noncomputable def cfT001 : Cfg := { cfW with dir := dirOf (.n none (.n none (.n none (.n none .e (.n (some [(7, 4, .lz), (7, 7, .col)]) (.n none (.n none (.n none (.n (some [(3, 9999, .finV)]) .e .e) .e) .e) .e) .e)) (.n none (.n none (.n none (.n (some [(3, 0, .row)]) .e .e) .e) .e) .e)) (.n none (.n none .e (.n none (.n none (.n none (.n none (.n (some [(27, 9999, .fin), (28, 9999, .fin)]) .e .e) .e) .e) .e) .e)) .e)) (.n none (.n none (.n none (.n none (.n none .e (.n none (.n none (.n (some [(6, 9999, .fin)]) .e .e) .e) .e)) .e) (.n none (.n (some [(6, 9999, .fin)]) .e .e) (.n none (.n none .e (.n (some [(2, 9999, .fin)]) .e .e)) .e))) (.n none .e (.n none .e (.n none (.n (some [(9, 9999, .fin)]) (.n none (.n (some [(7, 3, .row)]) .e .e) .e) .e) .e)))) (.n none (.n none (.n none .e (.n (some [(1, 3, .lz), (1, 4, .lz), (1, 5, .asm false), (4, 4, .lz), (4, 7, .col)]) .e .e)) (.n none (.n none .e (.n none (.n none (.n (some [(1, 9999, .fin)]) .e .e) .e) .e)) (.n none (.n none .e (.n (some [(3, 7, .row)]) .e .e)) .e))) (.n none (.n none .e (.n none .e (.n (some [(10, 9999, .fin), (12, 9999, .fin)]) .e .e))) (.n none (.n none .e (.n none .e (.n (some [(9999, 9999, .hd)]) .e .e))) .e))))), prim := primT001 }
noncomputable def stT001 (p : Pa) : Pa := { p with n0 := wI (p.n0 + 1), s0 := wI (p.s0 + 1), j0 := 0, i0 := mnI (wI (p.i0 + 1)) 4096, q0 := mnI (wI (p.q0 + 1)) 16384, a0 := mnI (wI (p.a0 + 1)) 4096, h0 := mxI (wS (p.h0 - wS ((wI (p.p0 + 1)).tdiv 8))) 0, p0 := (wI (p.p0 + 1)).tmod 8, k0 := mnI (wS (p.k0 + wS (1 * p.cr))) p.cb, n1 := wI (p.n1 + 1), s1 := wI (p.s1 + 1), j1 := wI (p.j1 + 1), i1 := mnI (wI (p.i1 + 1)) 4096, q1 := mnI (wI (p.q1 + 1)) 16384, a1 := mnI (wI (p.a1 + 1)) 4096, pt := mxI (wS (p.pt - wS ((wI (p.p1 + 1)).tdiv 8))) 0, p1 := (wI (p.p1 + 1)).tmod 8, tk := mnI (wS (p.tk + wS (1 * p.cr))) p.cb, W := p.W, G := p.G }
noncomputable def outT001 (p : Pa) : Out := ⟨.tup [], [(3, ⟨79, 0⟩), (4, ⟨79, 0⟩), (16, ⟨3, 1⟩), (18, ⟨3, 0⟩), (24, ⟨3, 1⟩)], bxN 3 4 (stT001 p), 45⟩
noncomputable def condFT001 (p : Pa) : List Prop := []
noncomputable def hostAT001 (p : Pa) : Pa := parA (innA noPost [] p)
noncomputable def hostBT001 (p : Pa) : Pa := parB (innB noPost [] p)
noncomputable def condT001 (p : Pa) : List Prop := condFT001 p ++ ((innB noPost [] (hostBT001 p) = innB noPost [] (hostBT001 p)) :: (condB0 (hostBT001 p) ++ ((innA noPost [] (hostAT001 p) = innA noPost [] (hostAT001 p)) :: condA01 (hostAT001 p))))
theorem runT001 (p : Pa) : fnT (evalF cfT001 40) true 13 (innN [] p) [] = some (outT001 p, condT001 p) := by kernel_rfl
theorem okT001 (p : Pa) (h : AllC (condT001 p)) : FnOK Go.Proofs.Tryz.prog 13 (innN [] p) (outT001 p) := (fnT_ok (evalF_ok (cf := cfT001) hmG htG primT001_ok (fnsOf_ok hfG) 40) (runT001 p) h).2
end Zed
namespace Zed
open Go
set_option maxRecDepth 100000
set_option linter.unusedVariables false
noncomputable def dirsB1 : DirT := (.n none (.n none (.n none (.n none .e (.n none (.n none (.n none (.n none (.n (some [(3, 9999, .finV)]) .e .e) .e) .e) .e) .e)) (.n none (.n none (.n none (.n (some [(3, 0, .row)]) .e .e) .e) (.n none (.n none (.n (some [(1, 7, .lz), (1, 8, .lz)]) .e .e) .e) (.n (some [(1, 4, .lz), (1, 9, .lz), (1, 10, .lz), (1, 11, .lz), (1, 15, .lz), (1, 16, .lz)]) .e .e))) .e)) (.n none (.n none .e (.n none (.n none (.n none (.n none (.n (some [(27, 9999, .fin), (28, 9999, .fin)]) .e .e) .e) .e) .e) (.n none .e (.n (some [(0, 3, .lz), (0, 4, .lz)]) (.n (some [(0, 3, .lz), (0, 7, .lz), (1, 4, .lz), (1, 8, .lz), (1, 9, .lz), (1, 10, .lz), (1, 11, .lz), (2, 3, .lz), (2, 4, .lz)]) .e .e) .e)))) (.n none (.n none .e (.n none .e (.n (some [(0, 4, .lz), (0, 5, .lz), (0, 6, .lz), (1, 4, .lz), (1, 5, .lz), (1, 6, .lz), (2, 4, .lz), (2, 5, .lz), (2, 6, .lz)]) .e .e))) .e))) (.n none (.n none (.n none (.n none (.n none .e (.n none (.n none (.n (some [(6, 9999, .fin)]) .e .e) .e) .e)) .e) (.n none (.n (some [(6, 9999, .fin)]) .e .e) (.n none (.n none .e (.n (some [(2, 9999, .fin)]) .e .e)) .e))) (.n none (.n none (.n none (.n (some [(1, 3, .lz), (1, 4, .lz), (3, 3, .lz), (3, 4, .lz), (4, 3, .lz), (4, 9, .asm false)]) .e .e) .e) .e) (.n none .e (.n none (.n (some [(9, 9999, .fin)]) (.n none (.n (some [(7, 3, .row)]) .e .e) .e) .e) .e)))) (.n none (.n none .e (.n none (.n none .e (.n none (.n none (.n (some [(1, 9999, .fin)]) .e .e) .e) .e)) (.n none (.n none .e (.n (some [(3, 7, .row)]) .e .e)) .e))) (.n none (.n none .e (.n none .e (.n (some [(10, 3, .lz), (10, 7, .asm false), (12, 11, .lz), (23, 3, .lz), (23, 9, .asm true), (10, 9999, .fin), (12, 9999, .fin)]) .e .e))) (.n none (.n none .e (.n none .e (.n (some [(9999, 9999, .hd)]) .e .e))) .e)))))
noncomputable def cfB1 : Cfg := { cfW with dir := dirOf dirsB1, prim := prim0 true false }
noncomputable def stB1 (p : Pa) : Pa := { p with n1 := wI (p.n1 + 1), s1 := wI (p.s1 + 1), j1 := wI (p.j1 + 1), i1 := 0, q1 := mnI (wI (p.q1 + 1)) 16384, a1 := mnI (wI (p.a1 + 1)) 4096, pt := mxI (wS (p.pt - wS ((wI (p.p1 + 1)).tdiv 8))) 0, p1 := (wI (p.p1 + 1)).tmod 8, tk := mnI (wS (p.tk + wS (1 * p.cr))) p.cb }
noncomputable def outB1 (p : Pa) : Out := ⟨.tup [], [(6, ⟨3, 0⟩), (12, ⟨3, 1⟩), (23, ⟨77, 0⟩)], bxB (.own 23 (.pair (.int .i64) (.slice (.int .u8))) [pkC.2]) (stB1 p), 24⟩
noncomputable def condB1 (p : Pa) : List Prop := [decide (mnI (wI (p.i1 + 1)) 4096 ≥ 20) = true, decide (mnI (wI (p.q1 + 1)) 16384 ≥ 60) = false, decide (wI (p.s1 + 1) ≥ 200) = false]
theorem runB1 (p : Pa) : fnT (evalF cfB1 40) true 38 (innB noPost [] p) [] = some (outB1 p, condB1 p) := by kernel_rfl
theorem okB1 (p : Pa) (h : AllC (condB1 p)) : FnOK Go.Proofs.Tryz.prog 38 (innB noPost [] p) (outB1 p) := (fnT_ok (evalF_ok (cf := cfB1) hmG htG prim0_ok (fnsOf_ok hfG) 40) (runB1 p) h).2
end Zed
namespace Zed
open Go
set_option maxRecDepth 100000
set_option linter.unusedVariables false
noncomputable def symT010A : SymE Go.Proofs.Tryz.prog := ⟨38, fun i => iEq (cellI i 0 25) 5, fun i => innA noPost [] (parA i), fun i => outA00 (parA i), fun i => condA00 (parA i), fun i hc h => by
  have := okA00 (parA i) hc
  rw [← h] at this; exact this⟩
noncomputable def symT010B : SymE Go.Proofs.Tryz.prog := ⟨38, fun i => iEq (cellI i 0 25) 6, fun i => innB noPost [] (parB i), fun i => outB1 (parB i), fun i => condB1 (parB i), fun i hc h => by
  have := okB1 (parB i) hc
  rw [← h] at this; exact this⟩
noncomputable def primT010 : EvT := primS (Nat.beq 38) (symT [symT010A, symT010B]) (prim0 true false)
theorem primT010_ok : EvOK Go.Proofs.Tryz.prog primT010 := primS_ok (symT_ok _) prim0_ok
noncomputable def cfT010 : Cfg := { cfW with dir := dirOf (.n none (.n none (.n none (.n none .e (.n (some [(7, 4, .lz), (7, 7, .col)]) (.n none (.n none (.n none (.n (some [(3, 9999, .finV)]) .e .e) .e) .e) .e) .e)) (.n none (.n none (.n none (.n (some [(3, 0, .row)]) .e .e) .e) .e) .e)) (.n none (.n none .e (.n none (.n none (.n none (.n none (.n (some [(27, 9999, .fin), (28, 9999, .fin)]) .e .e) .e) .e) .e) .e)) .e)) (.n none (.n none (.n none (.n none (.n none .e (.n none (.n none (.n (some [(6, 9999, .fin)]) .e .e) .e) .e)) .e) (.n none (.n (some [(6, 9999, .fin)]) .e .e) (.n none (.n none .e (.n (some [(2, 9999, .fin)]) .e .e)) .e))) (.n none .e (.n none .e (.n none (.n (some [(9, 9999, .fin)]) (.n none (.n (some [(7, 3, .row)]) .e .e) .e) .e) .e)))) (.n none (.n none (.n none .e (.n (some [(1, 3, .lz), (1, 4, .lz), (1, 5, .asm false), (4, 4, .lz), (4, 7, .col)]) .e .e)) (.n none (.n none .e (.n none (.n none (.n (some [(1, 9999, .fin)]) .e .e) .e) .e)) (.n none (.n none .e (.n (some [(3, 7, .row)]) .e .e)) .e))) (.n none (.n none .e (.n none .e (.n (some [(10, 9999, .fin), (12, 9999, .fin)]) .e .e))) (.n none (.n none .e (.n none .e (.n (some [(9999, 9999, .hd)]) .e .e))) .e))))), prim := primT010 }
noncomputable def stT010 (p : Pa) : Pa := { p with n0 := wI (p.n0 + 1), s0 := wI (p.s0 + 1), j0 := wI (p.j0 + 1), i0 := mnI (wI (p.i0 + 1)) 4096, q0 := mnI (wI (p.q0 + 1)) 16384, a0 := mnI (wI (p.a0 + 1)) 4096, h0 := mxI (wS (p.h0 - wS ((wI (p.p0 + 1)).tdiv 8))) 0, p0 := (wI (p.p0 + 1)).tmod 8, k0 := mnI (wS (p.k0 + wS (1 * p.cr))) p.cb, n1 := wI (p.n1 + 1), s1 := wI (p.s1 + 1), j1 := wI (p.j1 + 1), i1 := 0, q1 := mnI (wI (p.q1 + 1)) 16384, a1 := mnI (wI (p.a1 + 1)) 4096, pt := mxI (wS (p.pt - wS ((wI (p.p1 + 1)).tdiv 8))) 0, p1 := (wI (p.p1 + 1)).tmod 8, tk := mnI (wS (p.tk + wS (1 * p.cr))) p.cb, W := (p.W ++ [pkC]), G := (p.G ++ [pkC]) }
noncomputable def outT010 (p : Pa) : Out := ⟨.tup [], [(16, ⟨3, 1⟩), (18, ⟨3, 0⟩), (24, ⟨3, 1⟩), (45, ⟨79, 0⟩), (46, ⟨79, 0⟩)], bxN 45 46 (stT010 p), 47⟩
noncomputable def condFT010 (p : Pa) : List Prop := [p.W.length + [pkC].length ≤ maxLen ∧ (p.W.length + [pkC].length) * 40 ≤ 140737488355328, decide ((p.W.length : Int) ≥ 256) = false, p.G.length + [pkC].length ≤ maxLen ∧ (p.G.length + [pkC].length) * 40 ≤ 140737488355328]
noncomputable def hostAT010 (p : Pa) : Pa := parA (innA noPost [] p)
noncomputable def hostBT010 (p : Pa) : Pa := parB (innB noPost [] p)
noncomputable def condT010 (p : Pa) : List Prop := condFT010 p ++ ((innB noPost [] (hostBT010 p) = innB noPost [] (hostBT010 p)) :: (condB1 (hostBT010 p) ++ ((innA noPost [] (hostAT010 p) = innA noPost [] (hostAT010 p)) :: condA00 (hostAT010 p))))
theorem runT010 (p : Pa) : fnT (evalF cfT010 40) true 13 (innN [] p) [] = some (outT010 p, condT010 p) := by kernel_rfl
theorem okT010 (p : Pa) (h : AllC (condT010 p)) : FnOK Go.Proofs.Tryz.prog 13 (innN [] p) (outT010 p) := (fnT_ok (evalF_ok (cf := cfT010) hmG htG primT010_ok (fnsOf_ok hfG) 40) (runT010 p) h).2
end Zed
namespace Zed
open Go
set_option maxRecDepth 100000
set_option linter.unusedVariables false
noncomputable def symT011A : SymE Go.Proofs.Tryz.prog := ⟨38, fun i => iEq (cellI i 0 25) 5, fun i => innA noPost [] (parA i), fun i => outA01 (parA i), fun i => condA01 (parA i), fun i hc h => by
  have := okA01 (parA i) hc
  rw [← h] at this; exact this⟩
noncomputable def symT011B : SymE Go.Proofs.Tryz.prog := ⟨38, fun i => iEq (cellI i 0 25) 6, fun i => innB noPost [] (parB i), fun i => outB1 (parB i), fun i => condB1 (parB i), fun i hc h => by
  have := okB1 (parB i) hc
  rw [← h] at this; exact this⟩
noncomputable def primT011 : EvT := primS (Nat.beq 38) (symT [symT011A, symT011B]) (prim0 true false)
theorem primT011_ok : EvOK Go.Proofs.Tryz.prog primT011 := primS_ok (symT_ok _) prim0_ok
noncomputable def cfT011 : Cfg := { cfW with dir := dirOf (.n none (.n none (.n none (.n none .e (.n (some [(7, 4, .lz), (7, 7, .col)]) (.n none (.n none (.n none (.n (some [(3, 9999, .finV)]) .e .e) .e) .e) .e) .e)) (.n none (.n none (.n none (.n (some [(3, 0, .row)]) .e .e) .e) .e) .e)) (.n none (.n none .e (.n none (.n none (.n none (.n none (.n (some [(27, 9999, .fin), (28, 9999, .fin)]) .e .e) .e) .e) .e) .e)) .e)) (.n none (.n none (.n none (.n none (.n none .e (.n none (.n none (.n (some [(6, 9999, .fin)]) .e .e) .e) .e)) .e) (.n none (.n (some [(6, 9999, .fin)]) .e .e) (.n none (.n none .e (.n (some [(2, 9999, .fin)]) .e .e)) .e))) (.n none .e (.n none .e (.n none (.n (some [(9, 9999, .fin)]) (.n none (.n (some [(7, 3, .row)]) .e .e) .e) .e) .e)))) (.n none (.n none (.n none .e (.n (some [(1, 3, .lz), (1, 4, .lz), (1, 5, .asm false), (4, 4, .lz), (4, 7, .col)]) .e .e)) (.n none (.n none .e (.n none (.n none (.n (some [(1, 9999, .fin)]) .e .e) .e) .e)) (.n none (.n none .e (.n (some [(3, 7, .row)]) .e .e)) .e))) (.n none (.n none .e (.n none .e (.n (some [(10, 9999, .fin), (12, 9999, .fin)]) .e .e))) (.n none (.n none .e (.n none .e (.n (some [(9999, 9999, .hd)]) .e .e))) .e))))), prim := primT011 }
noncomputable def stT011 (p : Pa) : Pa := { p with n0 := wI (p.n0 + 1), s0 := wI (p.s0 + 1), j0 := 0, i0 := mnI (wI (p.i0 + 1)) 4096, q0 := mnI (wI (p.q0 + 1)) 16384, a0 := mnI (wI (p.a0 + 1)) 4096, h0 := mxI (wS (p.h0 - wS ((wI (p.p0 + 1)).tdiv 8))) 0, p0 := (wI (p.p0 + 1)).tmod 8, k0 := mnI (wS (p.k0 + wS (1 * p.cr))) p.cb, n1 := wI (p.n1 + 1), s1 := wI (p.s1 + 1), j1 := wI (p.j1 + 1), i1 := 0, q1 := mnI (wI (p.q1 + 1)) 16384, a1 := mnI (wI (p.a1 + 1)) 4096, pt := mxI (wS (p.pt - wS ((wI (p.p1 + 1)).tdiv 8))) 0, p1 := (wI (p.p1 + 1)).tmod 8, tk := mnI (wS (p.tk + wS (1 * p.cr))) p.cb, W := (p.W ++ [pkC]), G := (p.G ++ [pkC]) }
noncomputable def outT011 (p : Pa) : Out := ⟨.tup [], [(16, ⟨3, 1⟩), (18, ⟨3, 0⟩), (24, ⟨3, 1⟩), (45, ⟨79, 0⟩), (46, ⟨79, 0⟩)], bxN 45 46 (stT011 p), 47⟩
noncomputable def condFT011 (p : Pa) : List Prop := [p.W.length + [pkC].length ≤ maxLen ∧ (p.W.length + [pkC].length) * 40 ≤ 140737488355328, decide ((p.W.length : Int) ≥ 256) = false, p.G.length + [pkC].length ≤ maxLen ∧ (p.G.length + [pkC].length) * 40 ≤ 140737488355328]
noncomputable def hostAT011 (p : Pa) : Pa := parA (innA noPost [] p)
noncomputable def hostBT011 (p : Pa) : Pa := parB (innB noPost [] p)
noncomputable def condT011 (p : Pa) : List Prop := condFT011 p ++ ((innB noPost [] (hostBT011 p) = innB noPost [] (hostBT011 p)) :: (condB1 (hostBT011 p) ++ ((innA noPost [] (hostAT011 p) = innA noPost [] (hostAT011 p)) :: condA01 (hostAT011 p))))
theorem runT011 (p : Pa) : fnT (evalF cfT011 40) true 13 (innN [] p) [] = some (outT011 p, condT011 p) := by kernel_rfl
theorem okT011 (p : Pa) (h : AllC (condT011 p)) : FnOK Go.Proofs.Tryz.prog 13 (innN [] p) (outT011 p) := (fnT_ok (evalF_ok (cf := cfT011) hmG htG primT011_ok (fnsOf_ok hfG) 40) (runT011 p) h).2
end Zed
namespace Zed
open Go
set_option maxRecDepth 100000
set_option linter.unusedVariables false
noncomputable def dirsA10 : DirT := (.n none (.n none (.n none (.n none .e (.n none (.n none (.n none (.n none (.n (some [(3, 9999, .finV)]) .e .e) .e) .e) .e) .e)) (.n none (.n none (.n none (.n (some [(3, 0, .row)]) .e .e) .e) (.n none (.n none (.n (some [(1, 7, .lz), (1, 8, .lz)]) .e .e) .e) (.n (some [(1, 4, .lz), (1, 9, .lz), (1, 10, .lz), (1, 11, .lz), (1, 15, .lz), (1, 16, .lz)]) .e .e))) .e)) (.n none (.n none .e (.n none (.n none (.n none (.n none (.n (some [(27, 9999, .fin), (28, 9999, .fin)]) .e .e) .e) .e) .e) (.n none .e (.n (some [(0, 3, .lz), (0, 4, .lz), (1, 9, .lz), (1, 10, .asm true)]) (.n (some [(0, 3, .lz), (0, 7, .lz), (1, 4, .lz), (1, 8, .lz), (1, 9, .lz), (1, 10, .lz), (1, 11, .lz), (2, 3, .lz), (2, 4, .lz)]) .e .e) .e)))) (.n none (.n none .e (.n none .e (.n (some [(0, 4, .lz), (0, 5, .lz), (0, 6, .lz), (1, 4, .lz), (1, 5, .lz), (1, 6, .lz), (2, 4, .lz), (2, 5, .lz), (2, 6, .lz)]) .e .e))) .e))) (.n none (.n none (.n none (.n none (.n none .e (.n none (.n none (.n (some [(6, 9999, .fin)]) .e .e) .e) .e)) .e) (.n none (.n (some [(6, 9999, .fin)]) .e .e) (.n none (.n none .e (.n (some [(2, 9999, .fin)]) .e .e)) .e))) (.n none (.n none (.n none (.n (some [(1, 3, .lz), (1, 4, .lz), (3, 3, .lz), (3, 4, .lz), (4, 3, .lz), (4, 9, .asm false)]) .e .e) .e) .e) (.n none .e (.n none (.n (some [(9, 9999, .fin)]) (.n none (.n (some [(7, 3, .row)]) .e .e) .e) .e) .e)))) (.n none (.n none .e (.n none (.n none .e (.n none (.n none (.n (some [(1, 9999, .fin)]) .e .e) .e) .e)) (.n none (.n none .e (.n (some [(3, 7, .row)]) .e .e)) .e))) (.n none (.n none .e (.n none .e (.n (some [(10, 3, .lz), (10, 7, .asm false), (12, 11, .lz), (23, 3, .lz), (23, 9, .asm true), (10, 9999, .fin), (12, 9999, .fin)]) .e .e))) (.n none (.n none .e (.n none .e (.n (some [(9999, 9999, .hd)]) .e .e))) .e)))))
noncomputable def cfA10 : Cfg := { cfW with dir := dirOf dirsA10, prim := prim0 true false }
noncomputable def stA10 (p : Pa) : Pa := { p with n0 := wI (p.n0 + 1), s0 := wI (p.s0 + 1), j0 := wI (p.j0 + 1), i0 := 0, q0 := mnI (wI (p.q0 + 1)) 16384, a0 := mnI (wI (p.a0 + 1)) 4096, h0 := mxI (wS (p.h0 - wS ((wI (p.p0 + 1)).tdiv 8))) 0, p0 := (wI (p.p0 + 1)).tmod 8, k0 := mnI (wS (p.k0 + wS (1 * p.cr))) p.cb }
noncomputable def outA10 (p : Pa) : Out := ⟨.tup [], [(8, ⟨3, 1⟩), (19, ⟨77, 0⟩)], bxA (.own 19 (.pair (.int .i64) (.slice (.int .u8))) [pkB.2]) (stA10 p), 20⟩
noncomputable def condA10 (p : Pa) : List Prop := [decide (wI (p.j0 + 1) < 16) = true, decide (mnI (wI (p.i0 + 1)) 4096 ≥ 20) = true, decide (mnI (wI (p.q0 + 1)) 16384 ≥ 60) = false, decide (wI (p.s0 + 1) ≥ 200) = false]
theorem runA10 (p : Pa) : fnT (evalF cfA10 40) true 38 (innA noPost [] p) [] = some (outA10 p, condA10 p) := by kernel_rfl
theorem okA10 (p : Pa) (h : AllC (condA10 p)) : FnOK Go.Proofs.Tryz.prog 38 (innA noPost [] p) (outA10 p) := (fnT_ok (evalF_ok (cf := cfA10) hmG htG prim0_ok (fnsOf_ok hfG) 40) (runA10 p) h).2
end Zed
namespace Zed
open Go
set_option maxRecDepth 100000
set_option linter.unusedVariables false
noncomputable def symT100A : SymE Go.Proofs.Tryz.prog := ⟨38, fun i => iEq (cellI i 0 25) 5, fun i => innA noPost [] (parA i), fun i => outA10 (parA i), fun i => condA10 (parA i), fun i hc h => by
  have := okA10 (parA i) hc
  rw [← h] at this; exact this⟩
noncomputable def symT100B : SymE Go.Proofs.Tryz.prog := ⟨38, fun i => iEq (cellI i 0 25) 6, fun i => innB noPost [] (parB i), fun i => outB0 (parB i), fun i => condB0 (parB i), fun i hc h => by
  have := okB0 (parB i) hc
  rw [← h] at this; exact this⟩
noncomputable def primT100 : EvT := primS (Nat.beq 38) (symT [symT100A, symT100B]) (prim0 true false)
theorem primT100_ok : EvOK Go.Proofs.Tryz.prog primT100 := primS_ok (symT_ok _) prim0_ok
noncomputable def cfT100 : Cfg := { cfW with dir := dirOf (.n none (.n none (.n none (.n none .e (.n (some [(7, 4, .lz), (7, 7, .col)]) (.n none (.n none (.n none (.n (some [(3, 9999, .finV)]) .e .e) .e) .e) .e) .e)) (.n none (.n none (.n none (.n (some [(3, 0, .row)]) .e .e) .e) .e) .e)) (.n none (.n none .e (.n none (.n none (.n none (.n none (.n (some [(27, 9999, .fin), (28, 9999, .fin)]) .e .e) .e) .e) .e) .e)) .e)) (.n none (.n none (.n none (.n none (.n none .e (.n none (.n none (.n (some [(6, 9999, .fin)]) .e .e) .e) .e)) .e) (.n none (.n (some [(6, 9999, .fin)]) .e .e) (.n none (.n none .e (.n (some [(2, 9999, .fin)]) .e .e)) .e))) (.n none .e (.n none .e (.n none (.n (some [(9, 9999, .fin)]) (.n none (.n (some [(7, 3, .row)]) .e .e) .e) .e) .e)))) (.n none (.n none (.n none .e (.n (some [(1, 3, .lz), (1, 4, .lz), (1, 5, .asm false), (4, 4, .lz), (4, 7, .col)]) .e .e)) (.n none (.n none .e (.n none (.n none (.n (some [(1, 9999, .fin)]) .e .e) .e) .e)) (.n none (.n none .e (.n (some [(3, 7, .row)]) .e .e)) .e))) (.n none (.n none .e (.n none .e (.n (some [(10, 9999, .fin), (12, 9999, .fin)]) .e .e))) (.n none (.n none .e (.n none .e (.n (some [(9999, 9999, .hd)]) .e .e))) .e))))), prim := primT100 }
noncomputable def stT100 (p : Pa) : Pa := { p with n0 := wI (p.n0 + 1), s0 := wI (p.s0 + 1), j0 := wI (p.j0 + 1), i0 := 0, q0 := mnI (wI (p.q0 + 1)) 16384, a0 := mnI (wI (p.a0 + 1)) 4096, h0 := mxI (wS (p.h0 - wS ((wI (p.p0 + 1)).tdiv 8))) 0, p0 := (wI (p.p0 + 1)).tmod 8, k0 := mnI (wS (p.k0 + wS (1 * p.cr))) p.cb, n1 := wI (p.n1 + 1), s1 := wI (p.s1 + 1), j1 := wI (p.j1 + 1), i1 := mnI (wI (p.i1 + 1)) 4096, q1 := mnI (wI (p.q1 + 1)) 16384, a1 := mnI (wI (p.a1 + 1)) 4096, pt := mxI (wS (p.pt - wS ((wI (p.p1 + 1)).tdiv 8))) 0, p1 := (wI (p.p1 + 1)).tmod 8, tk := mnI (wS (p.tk + wS (1 * p.cr))) p.cb, W := (p.W ++ [pkB]), G := (p.G ++ [pkB]) }
noncomputable def outT100 (p : Pa) : Out := ⟨.tup [], [(16, ⟨3, 1⟩), (18, ⟨3, 0⟩), (24, ⟨3, 1⟩), (45, ⟨79, 0⟩), (46, ⟨79, 0⟩)], bxN 45 46 (stT100 p), 47⟩
noncomputable def condFT100 (p : Pa) : List Prop := [p.W.length + [pkB].length ≤ maxLen ∧ (p.W.length + [pkB].length) * 40 ≤ 140737488355328, decide ((p.W.length : Int) ≥ 256) = false, p.G.length + [pkB].length ≤ maxLen ∧ (p.G.length + [pkB].length) * 40 ≤ 140737488355328]
noncomputable def hostAT100 (p : Pa) : Pa := parA (innA noPost [] p)
noncomputable def hostBT100 (p : Pa) : Pa := parB (innB noPost [] p)
noncomputable def condT100 (p : Pa) : List Prop := condFT100 p ++ ((innB noPost [] (hostBT100 p) = innB noPost [] (hostBT100 p)) :: (condB0 (hostBT100 p) ++ ((innA noPost [] (hostAT100 p) = innA noPost [] (hostAT100 p)) :: condA10 (hostAT100 p))))
theorem runT100 (p : Pa) : fnT (evalF cfT100 40) true 13 (innN [] p) [] = some (outT100 p, condT100 p) := by kernel_rfl
theorem okT100 (p : Pa) (h : AllC (condT100 p)) : FnOK Go.Proofs.Tryz.prog 13 (innN [] p) (outT100 p) := (fnT_ok (evalF_ok (cf := cfT100) hmG htG primT100_ok (fnsOf_ok hfG) 40) (runT100 p) h).2
end Zed
namespace Zed
open Go
set_option maxRecDepth 100000
set_option linter.unusedVariables false
noncomputable def dirsA11 : DirT := (.n none (.n none (.n none (.n none .e (.n none (.n none (.n none (.n none (.n (some [(3, 9999, .finV)]) .e .e) .e) .e) .e) .e)) (.n none (.n none (.n none (.n (some [(3, 0, .row)]) .e .e) .e) (.n none (.n none (.n (some [(1, 7, .lz), (1, 8, .lz)]) .e .e) .e) (.n (some [(1, 4, .lz), (1, 9, .lz), (1, 10, .lz), (1, 11, .lz), (1, 15, .lz), (1, 16, .lz)]) .e .e))) .e)) (.n none (.n none .e (.n none (.n none (.n none (.n none (.n (some [(27, 9999, .fin), (28, 9999, .fin)]) .e .e) .e) .e) .e) (.n none .e (.n (some [(0, 3, .lz), (0, 4, .lz), (1, 9, .lz), (1, 10, .asm false)]) (.n (some [(0, 3, .lz), (0, 7, .lz), (1, 4, .lz), (1, 8, .lz), (1, 9, .lz), (1, 10, .lz), (1, 11, .lz), (2, 3, .lz), (2, 4, .lz)]) .e .e) .e)))) (.n none (.n none .e (.n none .e (.n (some [(0, 4, .lz), (0, 5, .lz), (0, 6, .lz), (1, 4, .lz), (1, 5, .lz), (1, 6, .lz), (2, 4, .lz), (2, 5, .lz), (2, 6, .lz)]) .e .e))) .e))) (.n none (.n none (.n none (.n none (.n none .e (.n none (.n none (.n (some [(6, 9999, .fin)]) .e .e) .e) .e)) .e) (.n none (.n (some [(6, 9999, .fin)]) .e .e) (.n none (.n none .e (.n (some [(2, 9999, .fin)]) .e .e)) .e))) (.n none (.n none (.n none (.n (some [(1, 3, .lz), (1, 4, .lz), (3, 3, .lz), (3, 4, .lz), (4, 3, .lz), (4, 9, .asm false)]) .e .e) .e) .e) (.n none .e (.n none (.n (some [(9, 9999, .fin)]) (.n none (.n (some [(7, 3, .row)]) .e .e) .e) .e) .e)))) (.n none (.n none .e (.n none (.n none .e (.n none (.n none (.n (some [(1, 9999, .fin)]) .e .e) .e) .e)) (.n none (.n none .e (.n (some [(3, 7, .row)]) .e .e)) .e))) (.n none (.n none .e (.n none .e (.n (some [(10, 3, .lz), (10, 7, .asm false), (12, 11, .lz), (23, 3, .lz), (23, 9, .asm true), (10, 9999, .fin), (12, 9999, .fin)]) .e .e))) (.n none (.n none .e (.n none .e (.n (some [(9999, 9999, .hd)]) .e .e))) .e)))))
noncomputable def cfA11 : Cfg := { cfW with dir := dirOf dirsA11, prim := prim0 true false }
noncomputable def stA11 (p : Pa) : Pa := { p with n0 := wI (p.n0 + 1), s0 := wI (p.s0 + 1), j0 := 0, i0 := 0, q0 := mnI (wI (p.q0 + 1)) 16384, a0 := mnI (wI (p.a0 + 1)) 4096, h0 := mxI (wS (p.h0 - wS ((wI (p.p0 + 1)).tdiv 8))) 0, p0 := (wI (p.p0 + 1)).tmod 8, k0 := mnI (wS (p.k0 + wS (1 * p.cr))) p.cb }
noncomputable def outA11 (p : Pa) : Out := ⟨.tup [], [(8, ⟨3, 1⟩), (19, ⟨77, 0⟩)], bxA (.own 19 (.pair (.int .i64) (.slice (.int .u8))) [pkB.2]) (stA11 p), 20⟩
noncomputable def condA11 (p : Pa) : List Prop := [decide (wI (p.j0 + 1) < 16) = false, decide (mnI (wI (p.i0 + 1)) 4096 ≥ 20) = true, decide (mnI (wI (p.q0 + 1)) 16384 ≥ 60) = false, decide (wI (p.s0 + 1) ≥ 200) = false]
theorem runA11 (p : Pa) : fnT (evalF cfA11 40) true 38 (innA noPost [] p) [] = some (outA11 p, condA11 p) := by kernel_rfl
theorem okA11 (p : Pa) (h : AllC (condA11 p)) : FnOK Go.Proofs.Tryz.prog 38 (innA noPost [] p) (outA11 p) := (fnT_ok (evalF_ok (cf := cfA11) hmG htG prim0_ok (fnsOf_ok hfG) 40) (runA11 p) h).2
end Zed
namespace Zed
open Go
set_option maxRecDepth 100000
set_option linter.unusedVariables false
noncomputable def symT101A : SymE Go.Proofs.Tryz.prog := ⟨38, fun i => iEq (cellI i 0 25) 5, fun i => innA noPost [] (parA i), fun i => outA11 (parA i), fun i => condA11 (parA i), fun i hc h => by
  have := okA11 (parA i) hc
  rw [← h] at this; exact this⟩
noncomputable def symT101B : SymE Go.Proofs.Tryz.prog := ⟨38, fun i => iEq (cellI i 0 25) 6, fun i => innB noPost [] (parB i), fun i => outB0 (parB i), fun i => condB0 (parB i), fun i hc h => by
  have := okB0 (parB i) hc
  rw [← h] at this; exact this⟩
noncomputable def primT101 : EvT := primS (Nat.beq 38) (symT [symT101A, symT101B]) (prim0 true false)
theorem primT101_ok : EvOK Go.Proofs.Tryz.prog primT101 := primS_ok (symT_ok _) prim0_ok
noncomputable def cfT101 : Cfg := { cfW with dir := dirOf (.n none (.n none (.n none (.n none .e (.n (some [(7, 4, .lz), (7, 7, .col)]) (.n none (.n none (.n none (.n (some [(3, 9999, .finV)]) .e .e) .e) .e) .e) .e)) (.n none (.n none (.n none (.n (some [(3, 0, .row)]) .e .e) .e) .e) .e)) (.n none (.n none .e (.n none (.n none (.n none (.n none (.n (some [(27, 9999, .fin), (28, 9999, .fin)]) .e .e) .e) .e) .e) .e)) .e)) (.n none (.n none (.n none (.n none (.n none .e (.n none (.n none (.n (some [(6, 9999, .fin)]) .e .e) .e) .e)) .e) (.n none (.n (some [(6, 9999, .fin)]) .e .e) (.n none (.n none .e (.n (some [(2, 9999, .fin)]) .e .e)) .e))) (.n none .e (.n none .e (.n none (.n (some [(9, 9999, .fin)]) (.n none (.n (some [(7, 3, .row)]) .e .e) .e) .e) .e)))) (.n none (.n none (.n none .e (.n (some [(1, 3, .lz), (1, 4, .lz), (1, 5, .asm false), (4, 4, .lz), (4, 7, .col)]) .e .e)) (.n none (.n none .e (.n none (.n none (.n (some [(1, 9999, .fin)]) .e .e) .e) .e)) (.n none (.n none .e (.n (some [(3, 7, .row)]) .e .e)) .e))) (.n none (.n none .e (.n none .e (.n (some [(10, 9999, .fin), (12, 9999, .fin)]) .e .e))) (.n none (.n none .e (.n none .e (.n (some [(9999, 9999, .hd)]) .e .e))) .e))))), prim := primT101 }
noncomputable def stT101 (p : Pa) : Pa := { p with n0 := wI (p.n0 + 1), s0 := wI (p.s0 + 1), j0 := 0, i0 := 0, q0 := mnI (wI (p.q0 + 1)) 16384, a0 := mnI (wI (p.a0 + 1)) 4096, h0 := mxI (wS (p.h0 - wS ((wI (p.p0 + 1)).tdiv 8))) 0, p0 := (wI (p.p0 + 1)).tmod 8, k0 := mnI (wS (p.k0 + wS (1 * p.cr))) p.cb, n1 := wI (p.n1 + 1), s1 := wI (p.s1 + 1), j1 := wI (p.j1 + 1), i1 := mnI (wI (p.i1 + 1)) 4096, q1 := mnI (wI (p.q1 + 1)) 16384, a1 := mnI (wI (p.a1 + 1)) 4096, pt := mxI (wS (p.pt - wS ((wI (p.p1 + 1)).tdiv 8))) 0, p1 := (wI (p.p1 + 1)).tmod 8, tk := mnI (wS (p.tk + wS (1 * p.cr))) p.cb, W := (p.W ++ [pkB]), G := (p.G ++ [pkB]) }
noncomputable def outT101 (p : Pa) : Out := ⟨.tup [], [(16, ⟨3, 1⟩), (18, ⟨3, 0⟩), (24, ⟨3, 1⟩), (45, ⟨79, 0⟩), (46, ⟨79, 0⟩)], bxN 45 46 (stT101 p), 47⟩
noncomputable def condFT101 (p : Pa) : List Prop := [p.W.length + [pkB].length ≤ maxLen ∧ (p.W.length + [pkB].length) * 40 ≤ 140737488355328, decide ((p.W.length : Int) ≥ 256) = false, p.G.length + [pkB].length ≤ maxLen ∧ (p.G.length + [pkB].length) * 40 ≤ 140737488355328]
noncomputable def hostAT101 (p : Pa) : Pa := parA (innA noPost [] p)
noncomputable def hostBT101 (p : Pa) : Pa := parB (innB noPost [] p)
noncomputable def condT101 (p : Pa) : List Prop := condFT101 p ++ ((innB noPost [] (hostBT101 p) = innB noPost [] (hostBT101 p)) :: (condB0 (hostBT101 p) ++ ((innA noPost [] (hostAT101 p) = innA noPost [] (hostAT101 p)) :: condA11 (hostAT101 p))))
theorem runT101 (p : Pa) : fnT (evalF cfT101 40) true 13 (innN [] p) [] = some (outT101 p, condT101 p) := by kernel_rfl
theorem okT101 (p : Pa) (h : AllC (condT101 p)) : FnOK Go.Proofs.Tryz.prog 13 (innN [] p) (outT101 p) := (fnT_ok (evalF_ok (cf := cfT101) hmG htG primT101_ok (fnsOf_ok hfG) 40) (runT101 p) h).2
end Zed
namespace Zed
open Go
set_option maxRecDepth 100000
set_option linter.unusedVariables false
noncomputable def symT110A : SymE Go.Proofs.Tryz.prog := ⟨38, fun i => iEq (cellI i 0 25) 5, fun i => innA noPost [] (parA i), fun i => outA10 (parA i), fun i => condA10 (parA i), fun i hc h => by
  have := okA10 (parA i) hc
  rw [← h] at this; exact this⟩
noncomputable def symT110B : SymE Go.Proofs.Tryz.prog := ⟨38, fun i => iEq (cellI i 0 25) 6, fun i => innB noPost [] (parB i), fun i => outB1 (parB i), fun i => condB1 (parB i), fun i hc h => by
  have := okB1 (parB i) hc
  rw [← h] at this; exact this⟩
noncomputable def primT110 : EvT := primS (Nat.beq 38) (symT [symT110A, symT110B]) (prim0 true false)
theorem primT110_ok : EvOK Go.Proofs.Tryz.prog primT110 := primS_ok (symT_ok _) prim0_ok
noncomputable def cfT110 : Cfg := { cfW with dir := dirOf (.n none (.n none (.n none (.n none .e (.n (some [(7, 4, .lz), (7, 7, .col)]) (.n none (.n none (.n none (.n (some [(3, 9999, .finV)]) .e .e) .e) .e) .e) .e)) (.n none (.n none (.n none (.n (some [(3, 0, .row)]) .e .e) .e) .e) .e)) (.n none (.n none .e (.n none (.n none (.n none (.n none (.n (some [(27, 9999, .fin), (28, 9999, .fin)]) .e .e) .e) .e) .e) .e)) .e)) (.n none (.n none (.n none (.n none (.n none .e (.n none (.n none (.n (some [(6, 9999, .fin)]) .e .e) .e) .e)) .e) (.n none (.n (some [(6, 9999, .fin)]) .e .e) (.n none (.n none .e (.n (some [(2, 9999, .fin)]) .e .e)) .e))) (.n none .e (.n none .e (.n none (.n (some [(9, 9999, .fin)]) (.n none (.n (some [(7, 3, .row)]) .e .e) .e) .e) .e)))) (.n none (.n none (.n none .e (.n (some [(1, 3, .lz), (1, 4, .lz), (1, 5, .asm false), (4, 4, .lz), (4, 7, .col)]) .e .e)) (.n none (.n none .e (.n none (.n none (.n (some [(1, 9999, .fin)]) .e .e) .e) .e)) (.n none (.n none .e (.n (some [(3, 7, .row)]) .e .e)) .e))) (.n none (.n none .e (.n none .e (.n (some [(10, 9999, .fin), (12, 9999, .fin)]) .e .e))) (.n none (.n none .e (.n none .e (.n (some [(9999, 9999, .hd)]) .e .e))) .e))))), prim := primT110 }
noncomputable def stT110 (p : Pa) : Pa := { p with n0 := wI (p.n0 + 1), s0 := wI (p.s0 + 1), j0 := wI (p.j0 + 1), i0 := 0, q0 := mnI (wI (p.q0 + 1)) 16384, a0 := mnI (wI (p.a0 + 1)) 4096, h0 := mxI (wS (p.h0 - wS ((wI (p.p0 + 1)).tdiv 8))) 0, p0 := (wI (p.p0 + 1)).tmod 8, k0 := mnI (wS (p.k0 + wS (1 * p.cr))) p.cb, n1 := wI (p.n1 + 1), s1 := wI (p.s1 + 1), j1 := wI (p.j1 + 1), i1 := 0, q1 := mnI (wI (p.q1 + 1)) 16384, a1 := mnI (wI (p.a1 + 1)) 4096, pt := mxI (wS (p.pt - wS ((wI (p.p1 + 1)).tdiv 8))) 0, p1 := (wI (p.p1 + 1)).tmod 8, tk := mnI (wS (p.tk + wS (1 * p.cr))) p.cb, W := ((p.W ++ [pkB]) ++ [pkC]), G := ((p.G ++ [pkB]) ++ [pkC]) }
noncomputable def outT110 (p : Pa) : Out := ⟨.tup [], [(16, ⟨3, 1⟩), (18, ⟨3, 0⟩), (24, ⟨3, 1⟩), (45, ⟨79, 0⟩), (46, ⟨79, 0⟩)], bxN 45 46 (stT110 p), 47⟩
noncomputable def condFT110 (p : Pa) : List Prop := [(p.W ++ [pkB]).length + [pkC].length ≤ maxLen ∧ ((p.W ++ [pkB]).length + [pkC].length) * 40 ≤ 140737488355328, decide (((p.W ++ [pkB]).length : Int) ≥ 256) = false, (p.G ++ [pkB]).length + [pkC].length ≤ maxLen ∧ ((p.G ++ [pkB]).length + [pkC].length) * 40 ≤ 140737488355328, p.W.length + [pkB].length ≤ maxLen ∧ (p.W.length + [pkB].length) * 40 ≤ 140737488355328, decide ((p.W.length : Int) ≥ 256) = false, p.G.length + [pkB].length ≤ maxLen ∧ (p.G.length + [pkB].length) * 40 ≤ 140737488355328]
noncomputable def hostAT110 (p : Pa) : Pa := parA (innA noPost [] p)
noncomputable def hostBT110 (p : Pa) : Pa := parB (innB noPost [] p)
noncomputable def condT110 (p : Pa) : List Prop := condFT110 p ++ ((innB noPost [] (hostBT110 p) = innB noPost [] (hostBT110 p)) :: (condB1 (hostBT110 p) ++ ((innA noPost [] (hostAT110 p) = innA noPost [] (hostAT110 p)) :: condA10 (hostAT110 p))))
theorem runT110 (p : Pa) : fnT (evalF cfT110 40) true 13 (innN [] p) [] = some (outT110 p, condT110 p) := by kernel_rfl
theorem okT110 (p : Pa) (h : AllC (condT110 p)) : FnOK Go.Proofs.Tryz.prog 13 (innN [] p) (outT110 p) := (fnT_ok (evalF_ok (cf := cfT110) hmG htG primT110_ok (fnsOf_ok hfG) 40) (runT110 p) h).2
end Zed
namespace Zed
open Go
set_option maxRecDepth 100000
set_option linter.unusedVariables false
noncomputable def symT111A : SymE Go.Proofs.Tryz.prog := ⟨38, fun i => iEq (cellI i 0 25) 5, fun i => innA noPost [] (parA i), fun i => outA11 (parA i), fun i => condA11 (parA i), fun i hc h => by
  have := okA11 (parA i) hc
  rw [← h] at this; exact this⟩
noncomputable def symT111B : SymE Go.Proofs.Tryz.prog := ⟨38, fun i => iEq (cellI i 0 25) 6, fun i => innB noPost [] (parB i), fun i => outB1 (parB i), fun i => condB1 (parB i), fun i hc h => by
  have := okB1 (parB i) hc
  rw [← h] at this; exact this⟩
noncomputable def primT111 : EvT := primS (Nat.beq 38) (symT [symT111A, symT111B]) (prim0 true false)
theorem primT111_ok : EvOK Go.Proofs.Tryz.prog primT111 := primS_ok (symT_ok _) prim0_ok
noncomputable def cfT111 : Cfg := { cfW with dir := dirOf (.n none (.n none (.n none (.n none .e (.n (some [(7, 4, .lz), (7, 7, .col)]) (.n none (.n none (.n none (.n (some [(3, 9999, .finV)]) .e .e) .e) .e) .e) .e)) (.n none (.n none (.n none (.n (some [(3, 0, .row)]) .e .e) .e) .e) .e)) (.n none (.n none .e (.n none (.n none (.n none (.n none (.n (some [(27, 9999, .fin), (28, 9999, .fin)]) .e .e) .e) .e) .e) .e)) .e)) (.n none (.n none (.n none (.n none (.n none .e (.n none (.n none (.n (some [(6, 9999, .fin)]) .e .e) .e) .e)) .e) (.n none (.n (some [(6, 9999, .fin)]) .e .e) (.n none (.n none .e (.n (some [(2, 9999, .fin)]) .e .e)) .e))) (.n none .e (.n none .e (.n none (.n (some [(9, 9999, .fin)]) (.n none (.n (some [(7, 3, .row)]) .e .e) .e) .e) .e)))) (.n none (.n none (.n none .e (.n (some [(1, 3, .lz), (1, 4, .lz), (1, 5, .asm false), (4, 4, .lz), (4, 7, .col)]) .e .e)) (.n none (.n none .e (.n none (.n none (.n (some [(1, 9999, .fin)]) .e .e) .e) .e)) (.n none (.n none .e (.n (some [(3, 7, .row)]) .e .e)) .e))) (.n none (.n none .e (.n none .e (.n (some [(10, 9999, .fin), (12, 9999, .fin)]) .e .e))) (.n none (.n none .e (.n none .e (.n (some [(9999, 9999, .hd)]) .e .e))) .e))))), prim := primT111 }
noncomputable def stT111 (p : Pa) : Pa := { p with n0 := wI (p.n0 + 1), s0 := wI (p.s0 + 1), j0 := 0, i0 := 0, q0 := mnI (wI (p.q0 + 1)) 16384, a0 := mnI (wI (p.a0 + 1)) 4096, h0 := mxI (wS (p.h0 - wS ((wI (p.p0 + 1)).tdiv 8))) 0, p0 := (wI (p.p0 + 1)).tmod 8, k0 := mnI (wS (p.k0 + wS (1 * p.cr))) p.cb, n1 := wI (p.n1 + 1), s1 := wI (p.s1 + 1), j1 := wI (p.j1 + 1), i1 := 0, q1 := mnI (wI (p.q1 + 1)) 16384, a1 := mnI (wI (p.a1 + 1)) 4096, pt := mxI (wS (p.pt - wS ((wI (p.p1 + 1)).tdiv 8))) 0, p1 := (wI (p.p1 + 1)).tmod 8, tk := mnI (wS (p.tk + wS (1 * p.cr))) p.cb, W := ((p.W ++ [pkB]) ++ [pkC]), G := ((p.G ++ [pkB]) ++ [pkC]) }
noncomputable def outT111 (p : Pa) : Out := ⟨.tup [], [(16, ⟨3, 1⟩), (18, ⟨3, 0⟩), (24, ⟨3, 1⟩), (45, ⟨79, 0⟩), (46, ⟨79, 0⟩)], bxN 45 46 (stT111 p), 47⟩
noncomputable def condFT111 (p : Pa) : List Prop := [(p.W ++ [pkB]).length + [pkC].length ≤ maxLen ∧ ((p.W ++ [pkB]).length + [pkC].length) * 40 ≤ 140737488355328, decide (((p.W ++ [pkB]).length : Int) ≥ 256) = false, (p.G ++ [pkB]).length + [pkC].length ≤ maxLen ∧ ((p.G ++ [pkB]).length + [pkC].length) * 40 ≤ 140737488355328, p.W.length + [pkB].length ≤ maxLen ∧ (p.W.length + [pkB].length) * 40 ≤ 140737488355328, decide ((p.W.length : Int) ≥ 256) = false, p.G.length + [pkB].length ≤ maxLen ∧ (p.G.length + [pkB].length) * 40 ≤ 140737488355328]
noncomputable def hostAT111 (p : Pa) : Pa := parA (innA noPost [] p)
noncomputable def hostBT111 (p : Pa) : Pa := parB (innB noPost [] p)
noncomputable def condT111 (p : Pa) : List Prop := condFT111 p ++ ((innB noPost [] (hostBT111 p) = innB noPost [] (hostBT111 p)) :: (condB1 (hostBT111 p) ++ ((innA noPost [] (hostAT111 p) = innA noPost [] (hostAT111 p)) :: condA11 (hostAT111 p))))
theorem runT111 (p : Pa) : fnT (evalF cfT111 40) true 13 (innN [] p) [] = some (outT111 p, condT111 p) := by kernel_rfl
theorem okT111 (p : Pa) (h : AllC (condT111 p)) : FnOK Go.Proofs.Tryz.prog 13 (innN [] p) (outT111 p) := (fnT_ok (evalF_ok (cf := cfT111) hmG htG primT111_ok (fnsOf_ok hfG) 40) (runT111 p) h).2
end Zed
