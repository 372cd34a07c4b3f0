/- Texts KDel of our own machine for the walk of WholeChallenges, one behind the other. -/
import Derived.WalkKit
import Derived.Tactics2
import Derived.RegionTactic
import Derived.Deep.RegionLaw
import Derived.Sort.WalkB12
import Derived.Lib.SliceRun
import Derived.Test.YtiammpabkpoidaaGreatW19
import Derived.Test.YtiammpabkpoidaaGreatW21
namespace Zed
open Go Go.RowKit Go.Sort
set_option maxRecDepth 10000
set_option linter.unusedVariables false
set_option linter.unusedSimpArgs false
theorem setCells_at {b : Nat} {tt : TypeId} {fr : Nat × Nat} : ∀ (vs : List Value) (o : Nat) (W : World) (cur : Array Value), W.heap[b]? = some (.cells cur tt fr) → o + vs.length ≤ cur.size →
    (W.setCells b o vs).heap[b]? = some (.cells (cur.toList.take o ++ vs ++ cur.toList.drop (o + vs.length)).toArray tt fr) ∧ Goes W (W.setCells b o vs) (· = b)
  | [], o, W, cur, h, hl => ⟨by simpa [World.setCells] using h, ⟨rfl, rfl, rfl, Nat.le_refl _, fun _ _ _ => rfl⟩⟩
  | v :: r, o, W, cur, h, hl => by
    simp only [List.length_cons] at hl
    have h1 : (W.setCell ⟨b, o, none⟩ v).heap[b]? = some (.cells (cur.setIfInBounds o v) tt fr) := by
      simp [World.setCell, Array.getElem?_modify, h]
    obtain ⟨q1, q2⟩ := setCells_at r (o + 1) (W.setCell ⟨b, o, none⟩ v) (cur.setIfInBounds o v) h1 (by simp; omega)
    refine ⟨?_, ⟨q2.os, q2.tape, q2.output, ?_, fun k hk hne => ?_⟩⟩
    · show ((W.setCell ⟨b, o, none⟩ v).setCells b (o + 1) r).heap[b]? = _
      rw [q1]
      congr 2
      have e : (cur.setIfInBounds o v).toList = cur.toList.set o v := by simp
      rw [e]
      have e1 : (cur.toList.set o v).take (o + 1) = cur.toList.take o ++ [v] := by
        apply List.ext_getElem?
        intro q
        rw [List.getElem?_take, List.getElem?_set, List.getElem?_append, List.length_take, Array.length_toList]
        by_cases h1 : q < o
        · rw [if_pos (by omega), if_neg (by omega), if_pos (by omega), List.getElem?_take, if_pos h1]
        · by_cases h2 : q = o
          · subst h2
            rw [if_pos (by omega), if_pos rfl, if_pos (by omega), if_neg (by omega), show q - min q cur.size = 0 from by omega]; rfl
          · rw [if_neg (by omega), if_neg (by omega), List.getElem?_eq_none (by simp; omega)]
      have e2 : (cur.toList.set o v).drop (o + 1 + r.length) = cur.toList.drop (o + (r.length + 1)) := by
        rw [List.drop_set_of_lt (by omega)]
        congr 1; omega
      rw [e1, e2]
      simp
    · show W.heap.size ≤ ((W.setCell ⟨b, o, none⟩ v).setCells b (o + 1) r).heap.size
      have := q2.size
      simp only [World.setCell, Array.size_modify] at this
      exact this
    · show ((W.setCell ⟨b, o, none⟩ v).setCells b (o + 1) r).heap[k]? = _
      rw [q2.block k (by simpa [World.setCell] using hk) hne]
      exact RowKit.Below.heap_setCell W ⟨b, o, none⟩ v k hne
theorem info79 : (Go.Proofs.Tryz.prog.info? 79).map TypeInfo.size = some 3 := by kernel_rfl
theorem und80 : Go.Proofs.Tryz.prog.underlying 80 = some (.slice 79) := by kernel_rfl
theorem clear3 : ∃ zs : List Value, zs.length = 3 ∧ ∀ (w : World) (ty : TypeId) (b o c : Nat) (hc : ∀ j, j < 3 → (w.cell? ⟨b, o + j, none⟩).isSome = true) (hf : ∀ j, j < 3 → w.frozen? ⟨b, o + j, none⟩ = false),
    (Builtin.clear_ #[80] ty #[.slice (some ⟨b, o, none⟩) 1 c]).run Go.Proofs.Tryz.prog w = .ok (.tuple #[]) (w.setCells b o zs) := by
  obtain ⟨i, hi, his, hiz⟩ : ∃ i, tlook tabG 79 = some i ∧ i.size = 3 ∧ i.zero = [.int .i64 0, .int .i64 0, .sl .unit []] := ⟨_, rfl, rfl, rfl⟩
  obtain ⟨ti, hti, hts, -, v, hv, hvs, hzl, hvz⟩ := (htG 79 i hi).info
  refine ⟨v.cells.toList, by simpa [his] using hvs, fun w ty b o c hc hf => ?_⟩
  have h3 : v.cells.size = 3 := by rw [hvs, his]
  have hst := run_storeCells_cells (P := Go.Proofs.Tryz.prog) b o v.cells.toList 0 w (by simpa [h3] using hc) (by simpa [h3] using hf) (by
    intro u hu
    obtain ⟨q, hq⟩ := List.mem_iff_getElem?.1 hu
    have hq3 : q < i.zero.length := by rw [hzl]; have := (List.getElem?_eq_some_iff.1 hq).1; rw [Array.length_toList] at this; omega
    exact one_of (W := w) (g := ⟨fun _ _ => False, fun _ => 0, fun _ => undef⟩) (z := .d i.zero[q]) (constD_rd (hvz q u i.zero[q] hq (List.getElem?_eq_getElem hq3))))
  simp only [Nat.add_zero] at hst
  have hzc : (Builtin.zeroCells v.cells 1).toList = v.cells.toList := by
    simp only [Builtin.zeroCells, h3]
    apply List.ext_getElem
    · simp [h3]
    · intro q h1 h2
      have : q < 3 := by simpa [h3] using h2
      simp [Nat.mod_eq_of_lt this, getElem!_pos v.cells q (by omega)]
  simp [Builtin.clear_, run_underlying und80, zeroValue, typeInfo, hti, hv, hzc, hst]
set_option maxHeartbeats 4000000 in
theorem del_run (W : World) (b N cap i : Nat) (cur : Array Value) (hg : W.heap[b]? = some (.cells cur 79 (0, 0))) (hsz : cur.size = cap * 3) (hi : i < N) (hN : N ≤ cap) (hcap : cap ≤ maxLen) (hone : ∀ u ∈ cur.toList.take (N * 3), u.oneCell' = true) (j : Nat) (hj : j = i + 1) :
    Calls Go.Proofs.Tryz.prog 66 #[.slice (some ⟨b, 0, none⟩) N cap, .int .i64 i, .int .i64 j] W fun e W' => ∃ zs : List Value, zs.length = 3 ∧ e = .returned (.slice (some ⟨b, 0, none⟩) (N - 1) cap) ∧
      W' = (W.drew.setCells b (i * 3) ((cur.toList.drop (j * 3)).take ((N - j) * 3))).setCells b ((N - 1) * 3) zs := by
  obtain ⟨zs, hzs, clear3⟩ := clear3
  obtain ⟨ti, hti, hts⟩ := Option.map_eq_some_iff.1 info79
  obtain ⟨news, hnews⟩ : ∃ news, news = (cur.toList.drop (j * 3)).take ((N - j) * 3) := ⟨_, rfl⟩
  have hcell : ∀ q, W.drew.cell? ⟨b, q, none⟩ = cur.toList[q]? := fun q => by simp [World.cell?, show W.drew.heap[b]? = some (.cells cur 79 (0, 0)) from hg]
  have hlen : news.length = (N - j) * 3 := by rw [hnews, List.length_take, List.length_drop, Array.length_toList, hsz]; omega
  obtain ⟨A, hA, hsrc⟩ : ∃ A : Addr, (if cap = j then (some ⟨b, 0, none⟩ : Option Addr) else some ⟨b, j * 3, none⟩) = some A ∧ Hid (∀ t u, news[t]? = some u → W.drew.cell? (A.add t) = some u) := by
    by_cases h : cap = j
    · refine ⟨⟨b, 0, none⟩, by simp [h], fun t u hu => ?_⟩
      have h0 : news.length = 0 := by rw [hlen]; omega
      rw [List.length_eq_zero_iff.1 h0] at hu
      simp at hu
    · refine ⟨⟨b, j * 3, none⟩, by simp [h], fun t u hu => ?_⟩
      rw [hnews, List.getElem?_take] at hu
      split at hu
      · rw [List.getElem?_drop] at hu
        rw [addr_add, hcell]; exact hu
      · cases hu
  have s1 : Hid (news.length = (N - j) * 3) := hlen
  have s2 : Hid (∀ u ∈ news, u.oneCell' = true) := fun u hu => by
    rw [hnews] at hu
    obtain ⟨q, hq⟩ := List.mem_iff_getElem?.1 hu
    rw [List.getElem?_take] at hq
    split at hq
    · rw [List.getElem?_drop] at hq
      exact hone u (List.mem_iff_getElem?.2 ⟨j * 3 + q, by rw [List.getElem?_take, if_pos (by omega)]; exact hq⟩)
    · cases hq
  have s3 : Hid (∀ t, t < news.length → (W.drew.cell? ⟨b, 0 + i * 3 + t, none⟩).isSome = true ∧ W.drew.frozen? ⟨b, 0 + i * 3 + t, none⟩ = false) := by
    intro t ht
    rw [hlen] at ht
    refine ⟨?_, by simp [World.frozen?, show W.drew.heap[b]? = some (.cells cur 79 (0, 0)) from hg]⟩
    rw [hcell, List.getElem?_eq_getElem (by rw [Array.length_toList, hsz]; omega)]; rfl
  obtain ⟨W1, hW1⟩ : ∃ W1, W1 = W.drew.setCells b (0 + i * 3) news := ⟨_, rfl⟩
  have hh1 : ∃ cur1 : Array Value, W1.heap[b]? = some (.cells cur1 79 (0, 0)) ∧ cur1.size = cur.size := by
    have := (setCells_at news (0 + i * 3) W.drew cur hg (by rw [hlen, hsz]; omega)).1
    rw [← hW1] at this
    exact ⟨_, this, by simp [hlen]; omega⟩
  obtain ⟨cur1, hc1, hc2⟩ := hh1
  have hcl : ∀ ty c, (Builtin.clear_ #[80] ty #[.slice (some ⟨b, (i + (N - j)) * 3, none⟩) (N - (i + (N - j))) c]).run Go.Proofs.Tryz.prog W1 = .ok (.tuple #[]) (W1.setCells b ((N - 1) * 3) zs) := by
    intro ty c
    have e1 : i + (N - j) = N - 1 := by omega
    rw [e1, show N - (N - 1) = 1 from by omega]
    refine clear3 W1 ty b _ c (fun q hq => ?_) (fun q hq => by simp [World.frozen?, hc1])
    simp only [World.cell?, hc1]
    rw [Array.getElem?_eq_getElem (by rw [hc2, hsz]; omega)]; rfl
  have hW : Hid (W1 = W.drew.setCells b (0 + i * 3) news) := hW1
  have hic : i ≤ cap := by omega
  have hjc : j ≤ cap := by omega
  have hns : Hid (news = (cur.toList.drop (j * 3)).take ((N - j) * 3)) := hnews
  have hij : i < j := by omega
  have hjN : j ≤ N := by omega
  have hjH : Hid (j = i + 1) := hj
  have e9 : Hid (i + (N - j) = N - 1) := by show _ = _; omega
  clear hW1 hcell hnews hlen hc1 hc2 hj
  go_enter Go.Proofs.Tryz.func66, Go.Proofs.Tryz.ntmps66
  go_wp2_with fail
  go_region_law (refine step_append_room rfl (.tmp 22) (.tmp 25) 80 rfl 79 ti 3 und80 hti hts b 0 i cap (by simp [Act.eval, Act.put]) A (N - j) (cap - j) news (by simp [Act.eval, Act.put]) s1.out hsrc.out s2.out (by have := hjH.out; omega) s3.out ?_; rw [← hW.out])
  go_wp2
  go_ret
  refine ⟨zs, hzs, by rw [show i + (N - j) = N - 1 from e9.out]; rfl, ?_⟩
  rw [show W1 = W.drew.setCells b (0 + i * 3) news from hW.out, Nat.zero_add, show news = _ from hns.out]
end Zed
