/- Functions that are walked by the kit's means (the library's contracts, and num's Hex, Text, Parse), as functions that Zed calls. -/
import Derived.Test.YtakamchmiakicaaDoorShelf
import Derived.Test.YtakamchmiakicaaDoorHex
import Derived.Test.YtakamchmiakicaaDoorText
import Derived.Test.YtakamchmiakicaaDoorParse
import Derived.Test.YtakamchmiakicaaDoorCuts
import Derived.Test.YtakamchmiakicaaDoorZedPc
namespace Go.Proofs.YtakamchmiakicaaDoorLeaf
open Go Zed Go.RowKit
set_option linter.unusedVariables false
set_option linter.unusedSimpArgs false

/-- A row of strings as a list. -/
theorem strs_of {W : World} {F : Nat → Nat → Prop} {v : Value} {xs : List ByteArray} (h : RD W F v (X.sl .str xs).raw) (hf : ∀ b o, F b o → b < W.heap.size) :
    (∃ a c, v = .slice a 0 c ∧ xs = []) ∨ ∃ b o c, v = .slice (some ⟨b, o, none⟩) xs.length c ∧ xs.length ≤ c ∧ b < W.heap.size ∧ ∀ (j : Nat) x, xs[j]? = some x → W.cell? ⟨b, o + j, none⟩ = some (.string x) := by
  have h : RD W F v (.sl 1 (xs.map fun x => [D.str x])) := h
  generalize hys : (xs.map fun x => [D.str x]) = ys at h
  have hl : ys.length = xs.length := by rw [← hys]; simp
  cases h with
  | slNil => exact .inl ⟨none, 0, rfl, List.eq_nil_of_length_eq_zero (by simpa using hl.symm)⟩
  | slZ a => exact .inl ⟨some a, 0, rfl, List.eq_nil_of_length_eq_zero (by simpa using hl.symm)⟩
  | sl b o len cap sz ys vs h1 h2 h3 h4 h5 h6 =>
    have hlen : len = xs.length := by omega
    have cell : ∀ (j : Nat) x, xs[j]? = some x → W.cell? ⟨b, o + j, none⟩ = some (.string x) ∧ F b (o + j) := by
      intro j x hx
      have hy : ys[j]? = some [D.str x] := by rw [← hys, List.getElem?_map, hx]; rfl
      have q1 := h5 j _ 0 _ hy rfl
      have q2 := h6 j _ 0 _ hy rfl
      simp only [Nat.mul_one, Nat.add_zero] at q1
      cases hv : vs j 0 <;> rw [hv] at q2 <;> cases q2
      rw [hv] at q1
      exact q1
    by_cases h0 : xs.length = 0
    · have : xs = [] := List.eq_nil_of_length_eq_zero h0
      exact .inl ⟨some ⟨b, o, none⟩, cap, by rw [show len = 0 by omega], this⟩
    · have hx0 : xs[0]? = some xs[0] := List.getElem?_eq_getElem (by omega)
      exact .inr ⟨b, o, cap, by rw [hlen], by omega, hf b _ (cell 0 _ hx0).2, fun j x hx => (cell j x hx).1⟩
/-- A row of bytes as a list. -/
theorem bytes_of {W : World} {F : Nat → Nat → Prop} {v : Value} {xs : List Int} (h : RD W F v (X.sl (.int .u8) xs).raw) (hf : ∀ b o, F b o → b < W.heap.size) (hx : ∀ x ∈ xs, 0 ≤ x ∧ x < 256) :
    (∃ a c, v = .slice a 0 c ∧ xs = []) ∨ ∃ b o c, v = .slice (some ⟨b, o, none⟩) (xs.map fun x => x.toNat.toUInt8).length c ∧ b < W.heap.size ∧ 0 < xs.length ∧ ∀ (j : Nat) x, (xs.map fun x => x.toNat.toUInt8)[j]? = some x → W.cell? ⟨b, o + j, none⟩ = some (.int .u8 x.toNat) := by
  have h : RD W F v (.sl 1 (xs.map fun x => [D.int .u8 x])) := h
  generalize hys : (xs.map fun x => [D.int .u8 x]) = ys at h
  have hl : ys.length = xs.length := by rw [← hys]; simp
  cases h with
  | slNil => exact .inl ⟨none, 0, rfl, List.eq_nil_of_length_eq_zero (by simpa using hl.symm)⟩
  | slZ a => exact .inl ⟨some a, 0, rfl, List.eq_nil_of_length_eq_zero (by simpa using hl.symm)⟩
  | sl b o len cap sz ys vs h1 h2 h3 h4 h5 h6 =>
    have hlen : len = xs.length := by omega
    have cell : ∀ (j : Nat) x, xs[j]? = some x → W.cell? ⟨b, o + j, none⟩ = some (.int .u8 x) ∧ F b (o + j) := by
      intro j x hx
      have hy : ys[j]? = some [D.int .u8 x] := by rw [← hys, List.getElem?_map, hx]; rfl
      have q1 := h5 j _ 0 _ hy rfl
      have q2 := h6 j _ 0 _ hy rfl
      simp only [Nat.mul_one, Nat.add_zero] at q1
      cases hv : vs j 0 <;> rw [hv] at q2 <;> cases q2
      rw [hv] at q1
      exact q1
    by_cases h0 : xs.length = 0
    · have : xs = [] := List.eq_nil_of_length_eq_zero h0
      exact .inl ⟨some ⟨b, o, none⟩, cap, by rw [show len = 0 by omega], this⟩
    · have hx0 : xs[0]? = some xs[0] := List.getElem?_eq_getElem (by omega)
      refine .inr ⟨b, o, cap, by rw [hlen, List.length_map], hf b _ (cell 0 _ hx0).2, by omega, fun j y hy => ?_⟩
      rw [List.getElem?_map] at hy
      obtain ⟨x, hxj, rfl⟩ := Option.map_eq_some_iff.1 hy
      rw [(cell j x hxj).1]
      have hr := hx x (List.mem_of_getElem? hxj)
      congr 2
      simp; omega

/-- strings.Join. -/
def joinB (xs : List ByteArray) (sep : ByteArray) : ByteArray := ⟨(Lib.join (xs.map (·.data.toList)) sep.data.toList).toArray⟩
def f50_strings_Join (elems : List ByteArray) (sep : ByteArray) : Option ByteArray := if elems.length ≤ 140737488355328 ∧ (joinB elems sep).size ≤ 140737488355328 then some (joinB elems sep) else none
def f50_strings_Join_in (elems : List ByteArray) (sep : ByteArray) : Inn := ⟨[.c (.d (.sl .str elems)), .c (.d (.str sep))], [], [], 0⟩
def f50_strings_Join_out (r : ByteArray) : Out := ⟨.one (.c (.d (.str r))), [], [], 0⟩
theorem f50_strings_Join_ok (elems : List ByteArray) (sep : ByteArray) (r : ByteArray) (h : f50_strings_Join elems sep = some r) : FnOK Tryd.prog 50 (f50_strings_Join_in elems sep) (f50_strings_Join_out r) := by
  unfold f50_strings_Join at h
  split at h
  · rename_i hc
    cases h
    refine FnOK.leaf (args := [.sl .str elems, .str sep]) (outs := .one (.c (.d (.str (joinB elems sep))))) Tryd.func50 (by kernel_rfl) (by kernel_rfl) rfl (fun F W vs ha hf => ?_)
    obtain ⟨u, v, rfl, hu, hv⟩ := ha.two
    cases hv
    rcases strs_of hu hf with ⟨a, c, rfl, rfl⟩ | ⟨b, o, c, rfl, h1, h2, h3⟩
    · refine (Tryd.strings_Join_none a c sep W).mono ?_
      rintro e W' ⟨rfl, rfl⟩
      exact ⟨_, F, rfl, Below.refl _ _, fun _ _ q => q, fun _ _ q => .inl q, fun ρ ω => .str _⟩
    · refine (Tryd.strings_Join b o c elems sep W h3 h2 hc.1 h1 (by have := hc.2; simpa [joinB, ByteArray.size] using this)).mono ?_
      rintro e W' ⟨rfl, hB⟩
      exact ⟨_, F, rfl, hB, fun _ _ q => q, fun _ _ q => .inl q, fun ρ ω => .str _⟩
  · cases h

/-- strings.IndexByte. -/
def f72_strings_IndexByte (s : ByteArray) (c : Int) : Option Int := some (Lib.indexByte s.data.toList c.toNat.toUInt8)
def f72_strings_IndexByte_in (s : ByteArray) (c : Int) : Inn := ⟨[.c (.d (.str s)), .c (.d (.int .u8 c))], [], [], 0⟩
def f72_strings_IndexByte_out (r : Int) : Out := ⟨.one (.c (.d (.int .i64 r))), [], [], 0⟩
theorem f72_strings_IndexByte_ok (s : ByteArray) (c : Int) (r : Int) (h : f72_strings_IndexByte s c = some r) : FnOK Tryd.prog 72 (f72_strings_IndexByte_in s c) (f72_strings_IndexByte_out r) := by
  cases h
  refine FnOK.leaf (args := [.str s, .int .u8 c]) (outs := .one (.c (.d (.int .i64 _)))) Tryd.func72 (by kernel_rfl) (by kernel_rfl) rfl (fun F W vs ha hf => ?_)
  obtain ⟨u, v, rfl, hu, hv⟩ := ha.two
  cases hu; cases hv
  refine (Tryd.strings_IndexByte s c W).mono ?_
  rintro e W' ⟨rfl, rfl⟩
  exact ⟨_, F, rfl, Below.refl _ _, fun _ _ q => q, fun _ _ q => .inl q, fun ρ ω => .int _ _⟩

/-- num.Hex. -/
def hexB (bs : List Int) : ByteArray := if bs = [] then ⟨#[45]⟩ else ⟨(hexL (bs.map fun x => x.toNat.toUInt8)).toArray⟩
def f53_num_Hex (b : List Int) : Option ByteArray := if b.length ≤ 35184372088832 ∧ ∀ x ∈ b, 0 ≤ x ∧ x < 256 then some (hexB b) else none
def f53_num_Hex_in (b : List Int) : Inn := ⟨[.c (.d (.sl (.int .u8) b))], [], [], 0⟩
def f53_num_Hex_out (r : ByteArray) : Out := ⟨.one (.c (.d (.str r))), [], [], 0⟩
theorem hex_none (a : Option Addr) (c : Nat) (w : World) : Calls Tryd.prog 53 #[.slice a 0 c] w fun e w' => e = .returned (.string ⟨#[45]⟩) ∧ w' = w := by
  go_enter Tryd.func53, Tryd.ntmps53
  go_wp2
  go_ret
  exact ⟨rfl, rfl⟩
theorem f53_num_Hex_ok (b : List Int) (r : ByteArray) (h : f53_num_Hex b = some r) : FnOK Tryd.prog 53 (f53_num_Hex_in b) (f53_num_Hex_out r) := by
  unfold f53_num_Hex at h
  split at h
  · rename_i hc
    cases h
    refine FnOK.leaf (args := [.sl (.int .u8) b]) (outs := .one (.c (.d (.str (hexB b))))) Tryd.func53 (by kernel_rfl) (by kernel_rfl) rfl (fun F W vs ha hf => ?_)
    obtain ⟨u, rfl, hu⟩ := ha.one
    rcases bytes_of hu hf hc.2 with ⟨a, c, rfl, rfl⟩ | ⟨bk, o, c, rfl, h1, h2, h3⟩
    · refine (hex_none a c W).mono ?_
      rintro e W' ⟨rfl, rfl⟩
      exact ⟨_, F, rfl, Below.refl _ _, fun _ _ q => q, fun _ _ q => .inl q, fun ρ ω => .str _⟩
    · have hne : b ≠ [] := fun e => by subst e; cases h2
      have e : hexB b = ⟨(hexL (b.map fun x => x.toNat.toUInt8)).toArray⟩ := by rw [hexB, if_neg hne]
      rw [e]
      have hl : (b.map fun x => x.toNat.toUInt8).length = b.length := List.length_map _
      generalize (b.map fun x => x.toNat.toUInt8) = l at *
      refine (hex_walk bk o c l W h3 h1 (by omega) (by omega)).mono ?_
      rintro e W' ⟨rfl, hB⟩
      exact ⟨_, F, rfl, hB, fun _ _ q => q, fun _ _ q => .inl q, fun ρ ω => .str _⟩
  · cases h

/-- num.Text. -/
def textB (n : Int) : ByteArray := ⟨(textL n.toNat).toArray⟩
def f52_num_Text (n : Int) : Option ByteArray := if -9223372036854775808 ≤ n ∧ n ≤ 9223372036854775807 then some (textB n) else none
def f52_num_Text_in (n : Int) : Inn := ⟨[.c (.d (.int .i64 n))], [], [], 0⟩
def f52_num_Text_out (r : ByteArray) : Out := ⟨.one (.c (.d (.str r))), [], [], 0⟩
theorem f52_num_Text_ok (n : Int) (r : ByteArray) (h : f52_num_Text n = some r) : FnOK Tryd.prog 52 (f52_num_Text_in n) (f52_num_Text_out r) := by
  unfold f52_num_Text at h
  split at h
  · rename_i hc
    cases h
    refine FnOK.leaf (args := [.int .i64 n]) (outs := .one (.c (.d (.str (textB n))))) Tryd.func52 (by kernel_rfl) (by kernel_rfl) rfl (fun F W vs ha hf => ?_)
    obtain ⟨u, rfl, hu⟩ := ha.one
    cases hu
    refine (text_walk n W hc.1 hc.2).mono ?_
    rintro e W' ⟨rfl, hB⟩
    exact ⟨_, F, rfl, hB, fun _ _ q => q, fun _ _ q => .inl q, fun ρ ω => .str _⟩
  · cases h

/-- num.Parse. -/
def f51_num_Parse (s : ByteArray) : Option (Int × Int) := if s.size ≤ 9223372036854775807 then some (parseR s.data.toList) else none
def f51_num_Parse_in (s : ByteArray) : Inn := ⟨[.c (.d (.str s))], [], [], 0⟩
def f51_num_Parse_out (r : Int × Int) : Out := ⟨.tup [.c (.d (.int .i64 r.1)), .c (.d (.int .i64 r.2))], [], [], 0⟩
theorem f51_num_Parse_ok (s : ByteArray) (r : Int × Int) (h : f51_num_Parse s = some r) : FnOK Tryd.prog 51 (f51_num_Parse_in s) (f51_num_Parse_out r) := by
  unfold f51_num_Parse at h
  split at h
  · rename_i hc
    cases h
    refine FnOK.leaf (args := [.str s]) (outs := .tup [.c (.d (.int .i64 (parseR s.data.toList).1)), .c (.d (.int .i64 (parseR s.data.toList).2))]) Tryd.func51 (by kernel_rfl) (by kernel_rfl) rfl (fun F W vs ha hf => ?_)
    obtain ⟨u, rfl, hu⟩ := ha.one
    cases hu
    refine (parse_walk s W hc).mono ?_
    rintro e W' ⟨rfl, hB⟩
    refine ⟨_, F, rfl, hB, fun _ _ q => q, fun _ _ q => .inl q, fun ρ ω => ⟨_, rfl, rfl, fun j u x h1 h2 => ?_⟩⟩
    match j with
    | 0 => simp at h1 h2; subst h1; subst h2; exact .int _ _
    | 1 => simp at h1 h2; subst h1; subst h2; exact .int _ _
    | j + 2 => simp at h2
  · cases h

/-- strings.Cut. -/
def cutB (s sep : ByteArray) : ByteArray × ByteArray × Bool := (⟨(Lib.cut s.data.toList sep.data.toList).1.toArray⟩, ⟨(Lib.cut s.data.toList sep.data.toList).2.1.toArray⟩, (Lib.cut s.data.toList sep.data.toList).2.2)
def f49_strings_Cut (s sep : ByteArray) : Option (ByteArray × ByteArray × Bool) := if sep.size = 1 ∧ s.size ≤ 9223372036854775806 then some (cutB s sep) else none
def f49_strings_Cut_in (s sep : ByteArray) : Inn := ⟨[.c (.d (.str s)), .c (.d (.str sep))], [], [], 0⟩
def f49_strings_Cut_out (r : ByteArray × ByteArray × Bool) : Out := ⟨.tup [.c (.d (.str r.1)), .c (.d (.str r.2.1)), .c (.d (.bool r.2.2))], [], [], 0⟩
theorem f49_strings_Cut_ok (s sep : ByteArray) (r : ByteArray × ByteArray × Bool) (h : f49_strings_Cut s sep = some r) : FnOK Tryd.prog 49 (f49_strings_Cut_in s sep) (f49_strings_Cut_out r) := by
  unfold f49_strings_Cut at h
  split at h
  · rename_i hc
    cases h
    refine FnOK.leaf (args := [.str s, .str sep]) (outs := .tup [.c (.d (.str (cutB s sep).1)), .c (.d (.str (cutB s sep).2.1)), .c (.d (.bool (cutB s sep).2.2))]) Tryd.func49 (by kernel_rfl) (by kernel_rfl) rfl (fun F W vs ha hf => ?_)
    obtain ⟨u, v, rfl, hu, hv⟩ := ha.two
    cases hu; cases hv
    obtain ⟨c, rfl⟩ := Lib.one_byte sep hc.1
    refine (cut1 s c W hc.2).mono ?_
    rintro e W' ⟨rfl, n, rfl⟩
    refine ⟨_, F, rfl, ⟨rfl, rfl, rfl, Nat.le_refl _, fun _ _ => rfl⟩, fun _ _ q => q, fun _ _ q => .inl q, fun ρ ω => ⟨_, rfl, rfl, fun j u x h1 h2 => ?_⟩⟩
    match j with
    | 0 => simp at h1 h2; subst h1; subst h2; exact .str _
    | 1 => simp at h1 h2; subst h1; subst h2; exact .str _
    | 2 => simp at h1 h2; subst h1; subst h2; exact .bool _
    | j + 3 => simp at h2
  · cases h

/-- strings.Split. -/
def splitS (s sep : ByteArray) : List ByteArray := Lib.splitB sep 0 (Lib.countB s sep) s
def f45_strings_Split (s sep : ByteArray) : Option (List ByteArray) := if sep.size = 1 ∧ s.size < 4294967281 then some (splitS s sep) else none
def f45_strings_Split_in (s sep : ByteArray) : Inn := ⟨[.c (.d (.str s)), .c (.d (.str sep))], [], [], 0⟩
def f45_strings_Split_out (r : List ByteArray) : Out := ⟨.one (.c (.d (.sl .str r))), [], [], 0⟩
theorem f45_strings_Split_ok (s sep : ByteArray) (r : List ByteArray) (h : f45_strings_Split s sep = some r) : FnOK Tryd.prog 45 (f45_strings_Split_in s sep) (f45_strings_Split_out r) := by
  unfold f45_strings_Split at h
  split at h
  · rename_i hc
    cases h
    refine FnOK.leaf (args := [.str s, .str sep]) (outs := .one (.c (.d (.sl .str (splitS s sep))))) Tryd.func45 (by kernel_rfl) (by kernel_rfl) rfl (fun F W vs ha hf => ?_)
    obtain ⟨u, v, rfl, hu, hv⟩ := ha.two
    cases hu; cases hv
    obtain ⟨c, rfl⟩ := Lib.one_byte sep hc.1
    refine (split1 s c W hc.2).mono ?_
    rw [show splitL c s = splitS s ⟨#[c]⟩ from rfl]
    generalize splitS s ⟨#[c]⟩ = xs
    rintro e W' ⟨rfl, rfl⟩
    have hnew := heap_alloc_new W (.cells (xs.map Value.string).toArray 9)
    refine ⟨_, fun b o => F b o ∨ (b = W.heap.size ∧ o < xs.length), rfl, (Below.refl _ W).alloc (Nat.le_refl _) _, fun _ _ q => .inl q, fun b o q => q.imp id (fun q => ⟨by omega, by rw [q.1]; simp⟩), fun ρ ω => ?_⟩
    show RD _ _ _ (.sl 1 (xs.map fun x => [D.str x]))
    refine .sl W.heap.size 0 xs.length xs.length 1 _ (fun i _ => .string (xs.getD i ByteArray.empty)) (by simp) (Nat.le_refl _) (by omega) ?_ ?_ ?_
    · intro i q hq
      rw [List.getElem?_map] at hq
      obtain ⟨x, _, rfl⟩ := Option.map_eq_some_iff.1 hq
      rfl
    · intro i q j d hq hd
      rw [List.getElem?_map] at hq
      obtain ⟨x, hx, rfl⟩ := Option.map_eq_some_iff.1 hq
      have hi : i < xs.length := (List.getElem?_eq_some_iff.1 hx).1
      have hj : j = 0 := by
        cases j with
        | zero => rfl
        | succ j => simp at hd
      subst hj
      refine ⟨?_, .inr ⟨rfl, by omega⟩⟩
      have e : (⟨W.heap.size, 0 + i * 1 + 0, none⟩ : Addr) = ⟨W.heap.size, i, none⟩ := by simp
      rw [e]
      simp only [World.cell?, hnew]
      rw [← Array.getElem?_toList]
      simp [hx, List.getD_eq_getElem?_getD]
    · intro i q j d hq hd
      rw [List.getElem?_map] at hq
      obtain ⟨x, hx, rfl⟩ := Option.map_eq_some_iff.1 hq
      have hj : j = 0 := by
        cases j with
        | zero => rfl
        | succ j => simp at hd
      subst hj
      simp only [List.getElem?_cons_zero, Option.some.injEq] at hd
      subst hd
      rw [List.getD_eq_getElem?_getD, hx]
      exact .str _
  · cases h
end Go.Proofs.YtakamchmiakicaaDoorLeaf
