/- num.Text walked: a count's digits. -/
import Derived.Test.YtakamchmiakicaaDoorShelf
import Derived.WalkKit
import Derived.BigCall
import Derived.Lib.Hide
namespace Go.Proofs
open Go.RowKit

/-- The decimal digits of a count. -/
def textF : Nat → Nat → List UInt8
  | 0, _ => []
  | k + 1, n => if n < 10 then [(48 + n).toUInt8] else textF k (n / 10) ++ [(48 + n % 10).toUInt8]
def textL (n : Nat) : List UInt8 := textF 20 n
set_option maxHeartbeats 4000000 in
set_option maxRecDepth 1000000 in
theorem text_walk (n : Int) (w : World) (h0 : -9223372036854775808 ≤ n) (h1 : n ≤ 9223372036854775807) :
    Calls Tryd.prog 52 #[.int .i64 n] w fun e w' => e = .returned (.string ⟨(textL n.toNat).toArray⟩) ∧ Below w.heap.size w w' := by
  obtain ⟨n0, hn0⟩ : ∃ n0 : Nat, max n 0 = (n0 : Int) := ⟨n.toNat, by omega⟩
  have hn1 : n0 ≤ 9223372036854775807 := by omega
  have HT := Lib.hid (show n.toNat = n0 by omega)
  go_enter Tryd.func52, Tryd.ntmps52
  go_wp2
  have HN := Lib.hid hn0
  clear hn0
  go_loopw [0, 4] (fun v at_ wr => ∃ (k m : Nat) (arr : Array Value) (D : List UInt8), k ≤ 20 ∧ at_ = .int .i64 k ∧ v = .int .i64 m ∧ wr.heap[w.heap.size]? = some (.cells arr 134 (0, 0)) ∧ arr.size = 20 ∧ arr.toList.drop k = Lib.byteCells D ∧ textL n.toNat = textF k m ++ D ∧ m < 10 ^ k ∧ (0 < m ∨ k = 20) ∧ m ≤ 9223372036854775807 ∧ Below w.heap.size w wr) (fun _ a _ => (intOf a).toNat)
  case atStart =>
    exact ⟨20, n0, _, [], Nat.le_refl _, rfl, rfl, heap_alloc_new w _, rfl, rfl, by rw [HT.out]; simp [textL], by omega, .inr rfl, hn1, (Below.refl _ w).alloc (Nat.le_refl _) _⟩
  case round =>
    obtain ⟨k, m, arr, D, hk, rfl, rfl, hh, hsz, hD, htx, hmk, hm0, hm1, hW⟩ := hrel
    obtain ⟨j, rfl⟩ : ∃ j, k = j + 1 := by
      cases k with
      | zero => exfalso; simp at hmk; omega
      | succ j => exact ⟨j, rfl⟩
    have hcell : ∃ v, wr.cell? ⟨w.heap.size, j, none⟩ = some v := ⟨arr[j], by simp [World.cell?, hh]⟩
    obtain ⟨v0, hcell⟩ := hcell
    have hfz : wr.frozen? ⟨w.heap.size, j, none⟩ = false := by simp [World.frozen?, hh]
    have hd8 : ((48 + m % 10).toUInt8).toNat = 48 + m % 10 := by
      simp; omega
    obtain ⟨d, hdd⟩ : ∃ d, (48 + m % 10).toUInt8 = d := ⟨_, rfl⟩
    rw [hdd] at hd8
    -- the array with one digit more
    have hh' : (wr.setCell ⟨w.heap.size, j, none⟩ (.int .u8 (48 + (m : Int) % 10))).heap[w.heap.size]? = some (.cells (arr.setIfInBounds j (.int .u8 (48 + (m : Int) % 10))) 134 (0, 0)) := by
      simp [World.setCell, Array.getElem?_modify, hh]
    have hD' : (arr.setIfInBounds j (.int .u8 (48 + (m : Int) % 10))).toList.drop j = Lib.byteCells (d :: D) := by
      have hj : j < arr.toList.length := by rw [Array.length_toList, hsz]; omega
      rw [Array.toList_setIfInBounds, List.drop_eq_getElem_cons (by rw [List.length_set]; exact hj), List.drop_set_of_lt (by omega), hD, List.getElem_set_self]
      show Value.int .u8 _ :: _ = Value.int .u8 _ :: _
      rw [hd8]; congr 2
    have hsz' : (arr.setIfInBounds j (.int .u8 (48 + (m : Int) % 10))).size = 20 := by rw [Array.size_setIfInBounds]; exact hsz
    have hW' : Below w.heap.size w (wr.setCell ⟨w.heap.size, j, none⟩ (.int .u8 (48 + (m : Int) % 10))) := hW.setCell (p := ⟨w.heap.size, j, none⟩) (Nat.le_refl _) _
    have hlen : 20 - j = (d :: D).length := by
      have := congrArg List.length hD'
      rw [List.length_drop, Array.length_toList, hsz', Lib.byteCells_length] at this
      exact this
    generalize harr : arr.setIfInBounds j (.int .u8 (48 + (m : Int) % 10)) = arr' at hh' hD' hsz'
    have hsl : ∀ W : World, (Instr.sliceAt 134 (.pointer (some ⟨w.heap.size, 0, none⟩)) (some (.int .i64 (j : Int))) none none).run Tryd.prog W = .ok (.slice (some ⟨w.heap.size, j, none⟩) (20 - j) (20 - j)) W := by
      intro W
      have hj : j ≤ 20 := by omega
      have hne : ¬ 20 = j := by omega
      simp [Instr.sliceAt, run_underlying Tryd.underlying134, Instr.sliceBounds, Instr.sliceBound, asIntOf, Instr.sureAddr, Tryd.sizeOf5, Addr.add, hj, hne]
      intro h; exact h.symm
    have hcv : (convert 54 9 (.slice (some ⟨w.heap.size, j, none⟩) (20 - j) (20 - j))).run Tryd.prog (wr.setCell ⟨w.heap.size, j, none⟩ (.int .u8 (48 + (m : Int) % 10))) = .ok (.string ⟨(d :: D).toArray⟩) (wr.setCell ⟨w.heap.size, j, none⟩ (.int .u8 (48 + (m : Int) % 10))) := by
      rw [hlen]
      refine run_convert_bytes_back _ 54 9 5 ⟨w.heap.size, j, none⟩ _ _ Tryd.underlying54 Tryd.underlying5 Tryd.underlying9 (fun q hq => ?_)
      have e : (⟨w.heap.size, j, none⟩ : Addr).add q = ⟨w.heap.size, j + q, none⟩ := by unfold Addr.add; split <;> simp_all
      rw [e]
      simp only [World.cell?, hh']
      have := congrArg (fun l : List Value => l[q]?) hD'
      simp only [List.getElem?_drop, Lib.byteCells, List.getElem?_map, List.getElem?_eq_getElem hq, Option.map_some, Array.getElem?_toList] at this
      exact this
    have HH := Lib.hid hh'; have HSZ := Lib.hid hsz'; have HD := Lib.hid hD'; have HTX := Lib.hid htx; have HMK := Lib.hid hmk; have HW := Lib.hid hW'; have HL := Lib.hid hlen
    have hws := hW.size
    have hlt := (Array.getElem?_eq_some_iff.1 hh).1
    have HA := Lib.hid harr; have H8 := Lib.hid hd8; have HDD := Lib.hid hdd
    clear hdd hh hsz hD htx hmk hW hh' hsz' hD' hW' hlen harr hd8
    by_cases hlt10 : m < 10
    · go_wp2
      go_ret
      refine ⟨?_, HW.out⟩
      have e : textL n.toNat = d :: D := by
        rw [HTX.out]
        show (if m < 10 then [(48 + m).toUInt8] else _) ++ D = _
        rw [if_pos hlt10, ← HDD.out, Nat.mod_eq_of_lt hlt10]; rfl
      rw [e]; rfl
    · go_wp2
      refine ⟨⟨j, m / 10, arr', d :: D, by omega, rfl, by go_num, HH.out, HSZ.out, HD.out, ?_, ?_, .inl (by omega), by omega, HW.out⟩, by simp [intOf]⟩
      · rw [HTX.out]
        show (if m < 10 then [(48 + m).toUInt8] else textF j (m / 10) ++ [(48 + m % 10).toUInt8]) ++ D = _
        rw [if_neg hlt10, HDD.out]; simp
      · have := HMK.out
        rw [Nat.pow_succ] at this
        omega
end Go.Proofs
