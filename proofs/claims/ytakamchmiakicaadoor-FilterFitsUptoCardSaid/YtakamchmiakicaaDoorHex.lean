/- num.Hex walked: what it writes of any bytes. -/
import Derived.Test.YtakamchmiakicaaDoorShelf
import Derived.WalkKit
import Derived.BigCall
import Derived.Lib.Hide
namespace Go.Proofs
open Go.RowKit

/-- A digit of the base 16. -/
def hexD (n : Nat) : UInt8 := if n < 10 then (48 + n).toUInt8 else (87 + n).toUInt8
def hexL (l : List UInt8) : List UInt8 := l.flatMap fun b => [hexD (b.toNat / 16), hexD (b.toNat % 16)]
theorem hexL_len (l : List UInt8) : (hexL l).length = 2 * l.length := by
  induction l with
  | nil => rfl
  | cons a l ih => simp only [hexL, List.flatMap_cons, List.length_append, List.length_cons, List.length_nil] at ih ⊢; omega
theorem hexL_snoc (l : List UInt8) (b : UInt8) : hexL (l ++ [b]) = hexL l ++ [hexD (b.toNat / 16)] ++ [hexD (b.toNat % 16)] := by simp [hexL]
theorem dig_fin : ∀ n : Fin 16, (⟨#[48, 49, 50, 51, 52, 53, 54, 55, 56, 57, 97, 98, 99, 100, 101, 102]⟩ : ByteArray)[n.val]'n.isLt = hexD n.val := by decide
theorem dig_is (n : Nat) (h : n < 16) : (⟨#[48, 49, 50, 51, 52, 53, 54, 55, 56, 57, 97, 98, 99, 100, 101, 102]⟩ : ByteArray)[n]'h = hexD n := dig_fin ⟨n, h⟩
set_option maxHeartbeats 4000000 in
set_option maxRecDepth 1000000 in
theorem hex_walk (bk o cap : Nat) (l : List UInt8) (w : World) (hc : ∀ (j : Nat) x, l[j]? = some x → w.cell? ⟨bk, o + j, none⟩ = some (.int .u8 x.toNat)) (hbk : bk < w.heap.size) (h0 : 0 < l.length) (hl : l.length ≤ 35184372088832) :
    Calls Tryd.prog 53 #[.slice (some ⟨bk, o, none⟩) l.length cap] w fun e w' => e = .returned (.string ⟨(hexL l).toArray⟩) ∧ Below w.heap.size w w' := by
  have HC := Lib.hid hc
  clear hc
  have hne : ((l.length : Int) == 0) = false := beq_eq_false_iff_ne.2 (by omega)
  go_enter Tryd.func53, Tryd.ntmps53
  go_wp2
  go_loopw [11] (fun i wr => ∃ k : Nat, k ≤ l.length ∧ i = .int .i64 k ∧ Lib.IsBuilder 104 5 w.heap.size w.heap.size (Lib.byteCells (hexL (l.take k))) wr ∧ Below w.heap.size w wr) (fun i _ => l.length - (intOf i).toNat)
  case atStart =>
    exact ⟨0, Nat.zero_le _, rfl, Lib.fresh_isBuilder 104 5 w, (Below.refl _ w).alloc (Nat.le_refl _) _⟩
  case round =>
    obtain ⟨k, hk, rfl, hB, hW⟩ := hrel
    have HB := Lib.hid hB
    have HW := Lib.hid hW
    have hsz := hW.size
    by_cases hlt : k < l.length
    · obtain ⟨x, hx⟩ : ∃ x, l[k]? = some x := ⟨l[k], List.getElem?_eq_getElem hlt⟩
      have hcell : wr.cell? ⟨bk, o + k, none⟩ = some (.int .u8 x.toNat) := by
        rw [hW.cell (p := ⟨bk, o + k, none⟩) hbk]; exact HC.out k x hx
      have Hx := Lib.hid hx
      clear hx hB hW
      have hx256 : x.toNat < 256 := x.toNat_lt
      have g1 : (0 : Int) ≤ (x.toNat : Int) / 16 ∧ (x.toNat : Int) / 16 < 16 := by omega
      have hk1 : (hexL (l.take k)).length ≤ 70368744177664 := by rw [hexL_len, List.length_take]; omega
      go_wp2_with fail
      refine (Tryd.Builder_WriteByte w.heap.size w.heap.size _ _ wr HB.out (by rw [Lib.byteCells_length]; omega) hsz).mono ?_
      rintro e w2 ⟨rfl, h2, hb2⟩
      have hBw2 : w.heap.size ≤ w2.heap.size := Nat.le_trans hsz hb2.size
      have H2 := Lib.hid h2
      have Hb2 := Lib.hid hb2
      clear h2 hb2
      go_wp2_with fail
      refine (Tryd.Builder_WriteByte w.heap.size w.heap.size _ _ w2 (Or.inr H2.out) (by rw [List.length_append, Lib.byteCells_length, List.length_singleton]; omega) hBw2).mono ?_
      rintro e w3 ⟨rfl, h3, hb3⟩
      have hcont : Lib.byteCells (hexL (l.take k)) ++ [Value.int .u8 ((hexD (x.toNat / 16)).toNat : Int)] ++ [Value.int .u8 ((hexD (x.toNat % 16)).toNat : Int)] = Lib.byteCells (hexL (l.take (k + 1))) := by
        rw [List.take_add_one, Hx.out]
        show _ = Lib.byteCells (hexL (l.take k ++ [x]))
        rw [hexL_snoc, Lib.byteCells_append, Lib.byteCells_append]; rfl
      rw [dig_is _ (by omega), dig_is _ (by omega), hcont] at h3
      have H3 := Lib.hid (Or.inr h3 : Lib.IsBuilder 104 5 w.heap.size w.heap.size _ w3)
      have Hb3 := Lib.hid ((HW.out.trans Hb2.out).trans hb3)
      clear h3 hb3 hcont
      go_wp2
      go_roundw
      case rel => exact ⟨k + 1, by omega, by go_num, H3.out, Hb3.out⟩
      case measure => simp [intOf]; omega
    · have hke : k = l.length := by omega
      subst hke
      clear hB hW
      go_wp2_with fail
      refine (Tryd.Builder_String_any w.heap.size w.heap.size (hexL (l.take l.length)) wr HB.out hsz).mono ?_
      rintro e w2 ⟨rfl, hb2⟩
      have Hb2 := Lib.hid (HW.out.trans hb2)
      clear hb2
      go_wp2
      go_ret
      exact ⟨rfl, Hb2.out⟩
end Go.Proofs
