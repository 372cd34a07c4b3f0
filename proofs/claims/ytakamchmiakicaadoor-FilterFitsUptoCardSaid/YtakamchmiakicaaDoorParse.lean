/- num.Parse walked: the count that a text tells. -/
import Derived.Test.YtakamchmiakicaaDoorText
import Derived.Lib.OthersKept
import Derived.Laws.RangeAny
namespace Go.Proofs
open Go.RowKit

/-- Digits read from the left, as long as what they tell stays below 2^31. -/
def parseF : List UInt8 → Nat → Option Nat
  | [], n => some n
  | c :: r, n => if 48 ≤ c.toNat ∧ c.toNat ≤ 57 ∧ n ≤ (2147483647 - (c.toNat - 48)) / 10 then parseF r (n * 10 + (c.toNat - 48)) else none
def parseR (l : List UInt8) : Int × Int := match parseF l 0 with
  | none => (0, 10)
  | some n => if textL n = l then (n, 0) else (0, 10)
theorem parseR_none {l : List UInt8} (h : parseF l 0 = none) : parseR l = (0, 10) := by rw [parseR, h]
set_option maxHeartbeats 4000000 in
set_option maxRecDepth 1000000 in
theorem parse_walk (s : ByteArray) (w : World) (hs : s.size ≤ 9223372036854775807) :
    Calls Tryd.prog 51 #[.string s] w fun e w' => e = .returned (.tuple #[.int .i64 (parseR s.data.toList).1, .int .i64 (parseR s.data.toList).2]) ∧ Below w.heap.size w w' := by
  go_enter Tryd.func51, Tryd.ntmps51
  go_wp2
  go_loopw [4] (fun v wr => ∃ (pos n : Nat), pos ≤ s.size ∧ v = .int .i64 n ∧ wr.heap[w.heap.size]? = some (.stringIter s pos) ∧ Below w.heap.size w wr ∧ parseF (s.data.toList.drop pos) n = parseF s.data.toList 0 ∧ n ≤ 2147483647) (fun _ wr => s.size - wr.iterPos w.heap.size)
  case atStart =>
    exact ⟨0, 0, Nat.zero_le _, rfl, World.iter_heap w s 0, (Below.refl _ w).alloc (Nat.le_refl _) _, rfl, by omega⟩
  case round =>
    obtain ⟨pos, n, hpos, rfl, hit, hW, hpf, hn⟩ := hrel
    have hws := hW.size
    have hlt := (Array.getElem?_eq_some_iff.1 hit).1
    by_cases hp : pos < s.size
    · have hdrop : s.data.toList.drop pos = s[pos] :: s.data.toList.drop (pos + 1) := List.drop_eq_getElem_cons (by simpa using hp)
      by_cases hhi : 128 ≤ (s[pos]'hp).toNat
      · have hnx : ∀ ty, (Instr.next (.pointer (some ⟨w.heap.size, 0, none⟩)) true ty).run Tryd.prog wr = _ := fun ty => Lib.run_next_any_at wr w.heap.size s pos ty hit hp
        have hit2 := Lib.iterAt_heap wr w.heap.size s pos (pos + (Utf8.decode s pos).2) hit
        have hbw2 := Lib.below_iterAt hW (k := w.heap.size) (Nat.le_refl _) s (pos + (Utf8.decode s pos).2)
        have hd1 := decode_le s pos
        have hd := (decode_high s pos hp hhi).1
        have hnone : parseF s.data.toList 0 = none := by
          rw [← hpf, hdrop, parseF, if_neg (by omega)]
        have HR := Lib.hid (parseR_none hnone)
        generalize hU : Utf8.decode s pos = U at hnx hd hd1 hbw2 hit2
        have HIT2 := Lib.hid hit2
        have HB := Lib.hid hbw2
        clear hU hnone hdrop hpf hit2 hbw2 hit
        go_wp2
        go_ret2
        exact ⟨by rw [HR.out]; rfl, HB.out⟩
      · have hnx : ∀ ty, (Instr.next (.pointer (some ⟨w.heap.size, 0, none⟩)) true ty).run Tryd.prog wr = _ := fun ty => Lib.run_next_ascii_at wr w.heap.size s pos ty hit hp (by omega)
        have hit2 := Lib.iterAt_heap wr w.heap.size s pos (pos + 1) hit
        have hbw2 := Lib.below_iterAt hW (k := w.heap.size) (Nat.le_refl _) s (pos + 1)
        have hx256 : (s[pos]'hp).toNat < 256 := (s[pos]'hp).toNat_lt
        have HIT := Lib.hid hit
        have HIT2 := Lib.hid hit2
        have HB := Lib.hid hbw2
        clear hit2 hbw2 hit
        by_cases h1 : 48 ≤ (s[pos]'hp).toNat ∧ (s[pos]'hp).toNat ≤ 57 ∧ n ≤ (2147483647 - ((s[pos]'hp).toNat - 48)) / 10
        · have hgo : parseF (s.data.toList.drop (pos + 1)) (n * 10 + ((s[pos]'hp).toNat - 48)) = parseF s.data.toList 0 := by
            rw [← hpf, hdrop, parseF, if_pos h1]
          have HGO := Lib.hid hgo
          clear hgo hdrop hpf
          obtain ⟨h1, h2, h3⟩ := h1
          generalize (s[pos]'hp).toNat = x at *
          go_wp2
          refine ⟨⟨pos + 1, n * 10 + (x - 48), by omega, ?_, HIT2.out, HB.out, HGO.out, by omega⟩, ?_⟩
          · show Value.int .i64 _ = Value.int .i64 _
            congr 1; omega
          · simp only [World.iterPos, HIT2.out, HIT.out]
            omega
        · have hnone : parseF s.data.toList 0 = none := by
            rw [← hpf, hdrop, parseF, if_neg h1]
          have HR := Lib.hid (parseR_none hnone)
          clear hnone hdrop hpf
          generalize (s[pos]'hp).toNat = x at *
          by_cases hx : 48 ≤ x ∧ x ≤ 57
          · have h3 : ¬ n ≤ (2147483647 - (x - 48)) / 10 := fun q => h1 ⟨hx.1, hx.2, q⟩
            clear h1
            obtain ⟨h1, h2⟩ := hx
            go_wp2
            go_ret2
            exact ⟨by rw [HR.out]; rfl, HB.out⟩
          · clear h1
            by_cases h1 : x < 48
            · clear hx
              go_wp2
              go_ret2
              exact ⟨by rw [HR.out]; rfl, HB.out⟩
            · have h2 : 57 < x := by omega
              clear hx
              go_wp2
              go_ret2
              exact ⟨by rw [HR.out]; rfl, HB.out⟩
    · have hnx : ∀ ty, (Instr.next (.pointer (some ⟨w.heap.size, 0, none⟩)) true ty).run Tryd.prog wr = _ := fun ty => Lib.run_next_end_at wr w.heap.size s pos ty hit hp
      have hpe : pos = s.size := by omega
      subst hpe
      have hend : parseF s.data.toList 0 = some n := by
        rw [← hpf, List.drop_eq_nil_of_le (by simp), parseF]
      have HEND := Lib.hid hend
      have HW := Lib.hid hW
      clear hend hpf hW hit
      go_wp2_with fail
      refine (text_walk (n : Int) wr (by omega) (by omega)).mono ?_
      rintro e w1 ⟨rfl, hb1⟩
      rw [Int.toNat_natCast]
      have HB := Lib.hid (HW.out.trans (hb1.mono hws))
      clear hb1
      by_cases ht : textL n = s.data.toList
      · have HT := Lib.hid ht
        have hb : (textL n == s.toList) = true := by rw [Lib.toList_data]; exact beq_iff_eq.2 ht
        clear ht
        go_wp2
        go_ret2
        refine ⟨?_, HB.out⟩
        rw [parseR, HEND.out]
        dsimp only
        rw [if_pos HT.out]; rfl
      · have HT := Lib.hid ht
        have hb : (textL n == s.toList) = false := by rw [Lib.toList_data]; exact beq_eq_false_iff_ne.2 ht
        clear ht
        go_wp2
        go_ret2
        refine ⟨?_, HB.out⟩
        rw [parseR, HEND.out]
        dsimp only
        rw [if_neg HT.out]; rfl
end Go.Proofs
