/- What options and segments say: of the functions that text F26 prints. Conditions: none. -/
import Derived.Test.YtjoibacjpapncaaPureText26
namespace Go.Proofs.YtjoibacjpapncaaF26
open Go Zed Go.Proofs.YtjoibacjpapncaaLeaf
set_option linter.unusedVariables false
set_option linter.unusedSimpArgs false

/-- A text's bytes. -/
def D (a : ByteArray) : List UInt8 := a.data.toList
theorem D_app (a b : ByteArray) : D (a ++ b) = D a ++ D b := by simp [D]
theorem D_lit (l : List UInt8) : D ⟨l.toArray⟩ = l := rfl
theorem sz_D (a : ByteArray) : a.size = (D a).length := size_len a
theorem sz_app (a b : ByteArray) : (a ++ b).size = a.size + b.size := by rw [sz_D, D_app, List.length_append, ← sz_D, ← sz_D]
theorem sz_lit (l : List UInt8) : (⟨l.toArray⟩ : ByteArray).size = l.length := by rw [sz_D, D_lit]
theorem D_eq {a b : ByteArray} (h : D a = D b) : (a.toList == b.toList) = true := by
  rw [str_dec, decide_eq_true_eq]; exact h
theorem ext_D {a b : ByteArray} (h : D a = D b) : a = b := by
  apply ByteArray.ext
  exact Array.toList_inj.1 h
/-- Behind a blank, if there is anything. -/
def tl (y : List UInt8) : List UInt8 := if y = [] then [] else 32 :: y
theorem tl_ne {y : List UInt8} (h : y ≠ []) : tl y = 32 :: y := if_neg h
theorem tl_nil : tl [] = [] := rfl
theorem tl_len (y : List UInt8) : (tl y).length ≤ 1 + y.length := by unfold tl; split <;> simp; omega
def ne (x : ByteArray) : Bool := decide (D x ≠ [])
def lineB (l : List ByteArray) : ByteArray := YtjoibacjpapncaaLeaf.joinB (l.filter ne) ⟨[32].toArray⟩
theorem tail_is : ∀ r : List ByteArray, Lib.joinTail [32] ((r.filter ne).map D) = r.flatMap fun y => tl (D y)
  | [] => rfl
  | y :: r => by
    have ih := tail_is r
    rw [List.filter_cons, List.flatMap_cons]
    by_cases h : D y = []
    · rw [if_neg (by simp [ne, h]), ih, h, tl_nil]; rfl
    · rw [if_pos (by simp [ne, h]), tl_ne h, ← ih]
      simp [Lib.joinTail]
theorem line_D (x : ByteArray) (r : List ByteArray) (hx : D x ≠ []) : D (lineB (x :: r)) = D x ++ r.flatMap fun y => tl (D y) := by
  rw [← tail_is]
  unfold lineB
  rw [List.filter_cons, if_pos (by simp [ne, hx])]
  show Lib.join ((x :: r.filter ne).map D) [32] = _
  rw [List.map_cons, Lib.join_cons]
theorem flat_len : ∀ r : List ByteArray, (r.flatMap fun y => tl (D y)).length ≤ (r.map fun y => 1 + y.size).sum
  | [] => Nat.le_refl _
  | y :: r => by
    have := flat_len r
    have h := tl_len (D y)
    rw [← sz_D] at h
    rw [List.flatMap_cons, List.length_append, List.map_cons, List.sum_cons]; omega
theorem line_sz (x : ByteArray) (r : List ByteArray) (hx : D x ≠ []) : (lineB (x :: r)).size ≤ x.size + (r.map fun y => 1 + y.size).sum := by
  have := flat_len r
  rw [sz_D, line_D x r hx, List.length_append, ← sz_D]; omega
theorem line_loop (l : List ByteArray) (hl : l.length ≤ 100) : ∀ (d i : Nat) (hi : i + d = l.length) (out : List ByteArray) (ho : out.length ≤ i),
    Ev (fun n => f101_num_Line_L3 n out l ((l.length : Nat) : Int) (i : Int)) (fun w => w = out ++ (l.drop i).filter ne)
  | 0, i, hi, out, ho => by
    apply Ev.succ
    unfold f101_num_Line_L3
    refine Ev.neg (by simp only [decide_eq_true_eq]; omega) (Ev.some ?_)
    rw [List.drop_eq_nil_of_le (by omega)]; simp
  | d + 1, i, hi, out, ho => by
    have e1 : l.drop i = l.getD i ByteArray.empty :: l.drop (i + 1) := drop_cons (by omega) _
    apply Ev.succ
    unfold f101_num_Line_L3
    rw [Int.toNat_natCast, i64_id (e := (i : Int) + 1) (by omega) (by omega), e1, List.filter_cons, str_dec]
    generalize l.getD i ByteArray.empty = x
    have hx : (!decide (x.data.toList = (⟨#[]⟩ : ByteArray).data.toList)) = ne x := by
      unfold ne D
      by_cases h : x.data.toList = []
      · rw [decide_eq_true h, decide_eq_false (by simpa using h)]; rfl
      · rw [decide_eq_false h, decide_eq_true (by simpa using h)]; rfl
    rw [hx]
    refine Ev.pos (by simp only [decide_eq_true_eq]; omega) (Ev.guard (by omega) (Ev.ite (fun c => Ev.guard (by simp only [List.length_singleton, maxLen]; omega) ?_) (fun c => ?_)))
    · refine (line_loop l hl d (i + 1) (by omega) _ (by simp; omega)).mono ?_
      rintro _ rfl
      rw [if_pos c]; simp
    · refine (line_loop l hl d (i + 1) (by omega) _ (by omega)).mono ?_
      rintro _ rfl
      rw [if_neg c]
theorem line_ev (l : List ByteArray) (hl : l.length ≤ 100) (hs : (lineB l).size ≤ 100000000) : Ev (fun n => f101_num_Line n l) (fun r => r = lineB l) := by
  unfold f101_num_Line
  refine Ev.bind (line_loop l hl l.length 0 (by omega) [] (by simp)) ?_
  rintro _ rfl
  rw [List.drop_zero, List.nil_append]
  refine Ev.bind (P := fun r => r = lineB l) ?_ (fun r hr => Ev.some hr)
  unfold f131_strings_Join
  refine Ev.pos ⟨?_, ?_⟩ (Ev.some rfl)
  · have := List.length_filter_le ne l; omega
  · have : (lineB l).size ≤ 140737488355328 := by omega
    exact this
/-! Pieces. -/
theorem text_sz (n : Int) : 1 ≤ (textB n).size ∧ (textB n).size ≤ 20 := by
  unfold textB textL
  rw [sz_lit]
  refine ⟨?_, textF_len _ _⟩
  show 1 ≤ (if n.toNat < 10 then _ else _ : List UInt8).length
  split <;> simp
theorem ne_of_sz {a : ByteArray} (h : 1 ≤ a.size) : D a ≠ [] := by
  intro e; rw [sz_D, e] at h; simp at h
theorem hexB_sz (b : List Int) : 1 ≤ (hexB b).size ∧ (hexB b).size ≤ 2 * b.length + 1 := by
  unfold hexB
  split
  · rename_i h; subst h; exact ⟨Nat.le_refl _, Nat.le_refl _⟩
  · rename_i h
    rw [sz_lit, hexL_len, List.length_map]
    have : b.length ≠ 0 := fun e => h (List.eq_nil_of_length_eq_zero e)
    omega
def hxB (s : Nat) (v : Int) : ByteArray := hexB (be s v)
theorem hxB_sz (s : Nat) (v : Int) : 1 ≤ (hxB s v).size ∧ (hxB s v).size ≤ 2 * s + 1 := by
  have := hexB_sz (be s v); rw [be_len] at this; exact this
theorem hx_ev (s : Nat) (hs : 1 ≤ s ∧ s ≤ 8) (v : Int) (hv : 0 ≤ v ∧ v < 18446744073709551616) : Ev (fun n => f103_trace_hex n v (s : Int)) (fun r => r = hxB s v) := by
  unfold f103_trace_hex
  refine Ev.bind (put_is [] [((s : Int), v)] (by simp) (by simp) (by simp; omega)) ?_
  rintro _ rfl
  have e : ([] : List Int) ++ enc [((s : Int), v)] = be s v := by
    simp [enc, fieldB]; omega
  rw [e]
  refine Ev.bind (hex_ev (be s v) (by rw [be_len]; omega) (be_bytes _ _)) ?_
  rintro _ rfl
  exact Ev.some rfl
theorem refhx_ev (s : Nat) (hs : 1 ≤ s ∧ s ≤ 8) (v : Int) (hv : 0 ≤ v ∧ v < 18446744073709551616) : Ev (fun n => f106_broughamref26_hex n v (s : Int)) (fun r => r = hxB s v) := by
  unfold f106_broughamref26_hex
  refine Ev.bind (refPut2 s v hs.2 hv) ?_
  rintro _ rfl
  refine Ev.bind (refhex_is (be s v) (by rw [be_len]; omega) (be_bytes _ _)) ?_
  rintro _ rfl
  exact Ev.some rfl
def whenB (b : Bool) (w : ByteArray) : ByteArray := if b = true then w else ⟨([] : List UInt8).toArray⟩
theorem when_ev (b : Bool) (w : ByteArray) : Ev (fun _ => f110_trace_when b w) (fun r => r = whenB b w) := by
  unfold f110_trace_when whenB
  cases b
  · exact Ev.neg (by simp) (Ev.some rfl)
  · exact Ev.pos rfl (Ev.some rfl)
theorem refwhen_ev (b : Bool) (w : ByteArray) (hw : w.size ≤ 100000) (h1 : 1 ≤ w.size) : Ev (fun _ => f105_broughamref26_when b w) (fun r => D r = tl (D (whenB b w)) ∧ r.size ≤ 1 + w.size) := by
  unfold f105_broughamref26_when whenB
  cases b
  · exact Ev.neg (by simp) (Ev.some ⟨rfl, Nat.zero_le _⟩)
  · refine Ev.pos rfl (Ev.guard (by rw [show (⟨#[32]⟩ : ByteArray).size = 1 from rfl]; omega) (Ev.some ⟨?_, ?_⟩))
    · rw [D_app, if_pos rfl, tl_ne (ne_of_sz h1)]; rfl
    · rw [sz_app, show (⟨#[32]⟩ : ByteArray).size = 1 from rfl]; omega
theorem whenB_sz (b : Bool) (w : ByteArray) : (whenB b w).size ≤ w.size := by
  unfold whenB; split
  · exact Nat.le_refl _
  · rw [sz_lit]; exact Nat.zero_le _
def sumW (t : Int) : ByteArray := ⟨[115, 117, 109, 32].toArray⟩ ++ hxB 8 t
theorem sumW_sz (t : Int) : 1 ≤ (sumW t).size ∧ (sumW t).size ≤ 21 := by
  have := hxB_sz 8 t
  unfold sumW
  rw [sz_app, sz_lit]; simp only [List.length_cons, List.length_nil]; omega
theorem sum_ev (b : Bool) (t : Int) (ht : 0 ≤ t ∧ t < 18446744073709551616) : Ev (fun n => f108_trace_sum n b t) (fun r => r = whenB b (sumW t)) := by
  have hz := hxB_sz 8 t
  unfold f108_trace_sum whenB
  cases b
  · exact Ev.pos (by simp) (Ev.some rfl)
  · refine Ev.neg (by simp) (Ev.bind (hx_ev 8 (by omega) t ht) ?_)
    rintro _ rfl
    refine Ev.guard (by rw [show (⟨#[115, 117, 109, 32]⟩ : ByteArray).size = 4 from rfl]; omega) (Ev.some rfl)
def wideB (n : Int) : ByteArray := if n < 4611686018427387904 then textB n else hxB 8 n
theorem wideB_sz (n : Int) : 1 ≤ (wideB n).size ∧ (wideB n).size ≤ 20 := by
  have h1 := text_sz n; have h2 := hxB_sz 8 n
  unfold wideB; split <;> omega
theorem wide_ev (n : Int) (hn : 0 ≤ n ∧ n < 18446744073709551616) : Ev (fun k => f112_trace_wide k n) (fun r => r = wideB n) := by
  unfold f112_trace_wide wideB
  refine Ev.ite (fun c => ?_) (fun c => ?_)
  · simp only [decide_eq_true_eq] at c
    rw [if_pos c, i64_id (by omega) (by omega)]
    exact Ev.bind (text_ev n (by omega) (by omega)) (fun r hr => Ev.some hr)
  · simp only [decide_eq_true_eq] at c
    rw [if_neg c]
    exact Ev.bind (hx_ev 8 (by omega) n hn) (fun r hr => Ev.some hr)
theorem refwide_ev (n : Int) (hn : 0 ≤ n ∧ n < 18446744073709551616) : Ev (fun k => f119_broughamref26_wide k n) (fun r => r = wideB n) := by
  unfold f119_broughamref26_wide wideB
  refine Ev.ite (fun c => ?_) (fun c => ?_)
  · simp only [decide_eq_true_eq] at c
    rw [if_neg (by omega)]
    exact Ev.bind (refhx_ev 8 (by omega) n hn) (fun r hr => Ev.some hr)
  · simp only [decide_eq_true_eq] at c
    rw [if_pos (by omega), i64_id (by omega) (by omega)]
    exact Ev.bind (textZ n (by omega) (by omega)) (fun r hr => Ev.some hr)
end Go.Proofs.YtjoibacjpapncaaF26
