/- What functions of this text leave, in plain numbers: proved for another text, and for this one by the same steps. Conditions: none. -/
import Derived.Test.YtakamchmiakicaaDoorF01
namespace Go.Proofs.YtakamchmiakicaaDoorF01
open Go Zed Go.Proofs.YtakamchmiakicaaDoorLeaf
set_option linter.unusedVariables false
set_option linter.unusedSimpArgs false

theorem str_dec (a b : ByteArray) : (a.toList == b.toList) = decide (a.data.toList = b.data.toList) := by
  rw [ByteArray.toList_eq, ByteArray.toList_eq, Bool.eq_iff_iff, beq_iff_eq, decide_eq_true_eq]
theorem size_len (s : ByteArray) : s.size = s.data.toList.length := Lib.size_eq s
theorem byte_at {s : ByteArray} {i : Nat} (h : i < s.data.toList.length) : byteAt s (i : Int) = ((s.data.toList[i]'h).toNat : Int) := by
  have h' : i < s.size := by rw [size_len]; exact h
  unfold byteAt
  rw [dif_pos (by rw [Int.toNat_natCast]; exact h')]
  simp only [Int.toNat_natCast]
  rfl
theorem alive_ev : Ev (fun n => f20_broughamlaw01_alive n) (fun r => r = true) := Ev.at 40 (fun m => by kernel_rfl) rfl
theorem text_ev (n : Int) (h0 : -9223372036854775808 ≤ n) (h1 : n < 9223372036854775808) : Ev (fun _ => f52_num_Text n) (fun r => r = textB n) := by
  unfold f52_num_Text
  exact Ev.pos ⟨h0, by omega⟩ (Ev.some rfl)
theorem parse_ev (s : ByteArray) (h : s.size ≤ 9223372036854775807) : Ev (fun _ => f51_num_Parse s) (fun r => r = parseR s.data.toList) := by
  unfold f51_num_Parse
  exact Ev.pos h (Ev.some rfl)
/-- A text's bytes. -/
def D (a : ByteArray) : List UInt8 := a.data.toList
theorem D_app (a b : ByteArray) : D (a ++ b) = D a ++ D b := by simp [D]
theorem D_lit (l : List UInt8) : D ⟨l.toArray⟩ = l := rfl
theorem sz_D (a : ByteArray) : a.size = (D a).length := size_len a
theorem sz_app (a b : ByteArray) : (a ++ b).size = a.size + b.size := by rw [sz_D, D_app, List.length_append, ← sz_D, ← sz_D]
theorem sz_lit (l : List UInt8) : (⟨l.toArray⟩ : ByteArray).size = l.length := by rw [sz_D, D_lit]
theorem D_eq {a b : ByteArray} (h : D a = D b) : (a.toList == b.toList) = true := by
  rw [str_dec, decide_eq_true_eq]; exact h
theorem ext_D {a b : ByteArray} (h : D a = D b) : a = b := by
  apply ByteArray.ext
  exact Array.toList_inj.1 h
def ne (x : ByteArray) : Bool := decide (D x ≠ [])
def lineB (l : List ByteArray) : ByteArray := YtakamchmiakicaaDoorLeaf.joinB (l.filter ne) ⟨[32].toArray⟩
theorem line_loop (l : List ByteArray) (hl : l.length ≤ 1000) : ∀ (d i : Nat) (hi : i + d = l.length) (out : List ByteArray) (ho : out.length ≤ i),
    Ev (fun n => f16_num_Line_L3 n out l ((l.length : Nat) : Int) (i : Int)) (fun w => w = out ++ (l.drop i).filter ne)
  | 0, i, hi, out, ho => by
    apply Ev.succ
    unfold f16_num_Line_L3
    refine Ev.neg (by simp only [decide_eq_true_eq]; omega) (Ev.some ?_)
    rw [List.drop_eq_nil_of_le (by omega)]; simp
  | d + 1, i, hi, out, ho => by
    have e1 : l.drop i = l.getD i ByteArray.empty :: l.drop (i + 1) := drop_cons (by omega) _
    apply Ev.succ
    unfold f16_num_Line_L3
    rw [Int.toNat_natCast, i64_id (e := (i : Int) + 1) (by omega) (by omega), e1, List.filter_cons, str_dec]
    generalize l.getD i ByteArray.empty = x
    have hx : (!decide (x.data.toList = (⟨#[]⟩ : ByteArray).data.toList)) = ne x := by
      unfold ne D
      by_cases h : x.data.toList = []
      · rw [decide_eq_true h, decide_eq_false (by simpa using h)]; rfl
      · rw [decide_eq_false h, decide_eq_true (by simpa using h)]; rfl
    rw [hx]
    refine Ev.pos (by simp only [decide_eq_true_eq]; omega) (Ev.guard (by omega) (Ev.ite (fun c => Ev.guard (by simp only [List.length_singleton, maxLen]; omega) ?_) (fun c => ?_)))
    · refine (line_loop l hl d (i + 1) (by omega) _ (by simp; omega)).mono ?_
      rintro _ rfl
      rw [if_pos c]; simp
    · refine (line_loop l hl d (i + 1) (by omega) _ (by omega)).mono ?_
      rintro _ rfl
      rw [if_neg c]
theorem line_ev (l : List ByteArray) (hl : l.length ≤ 1000) (hs : (lineB l).size ≤ 100000000) : Ev (fun n => f16_num_Line n l) (fun r => r = lineB l) := by
  unfold f16_num_Line
  refine Ev.bind (line_loop l hl l.length 0 (by omega) [] (by simp)) ?_
  rintro _ rfl
  rw [List.drop_zero, List.nil_append]
  refine Ev.bind (P := fun r => r = lineB l) ?_ (fun r hr => Ev.some hr)
  unfold f50_strings_Join
  refine Ev.pos ⟨?_, ?_⟩ (Ev.some rfl)
  · have := List.length_filter_le ne l; omega
  · have : (lineB l).size ≤ 140737488355328 := by omega
    exact this
/-! Pieces. -/
theorem ne_of_sz {a : ByteArray} (h : 1 ≤ a.size) : D a ≠ [] := by
  intro e; rw [sz_D, e] at h; simp at h
end Go.Proofs.YtakamchmiakicaaDoorF01
