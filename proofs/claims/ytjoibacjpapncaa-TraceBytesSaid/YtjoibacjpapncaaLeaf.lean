/- Functions that are walked by the kit's means (the library's contracts, and num's Hex, Text, Parse), as functions that Zed calls. -/
import Derived.Test.YtjoibacjpapncaaShelf
import Derived.Test.YtjoibacjpapncaaHex
import Derived.Test.YtjoibacjpapncaaText
import Derived.Test.YtjoibacjpapncaaZedPc
namespace Go.Proofs.YtjoibacjpapncaaLeaf
open Go Zed Go.RowKit
set_option linter.unusedVariables false
set_option linter.unusedSimpArgs false

/-- A row of strings as a list. -/
theorem strs_of {W : World} {F : Nat → Nat → Prop} {v : Value} {xs : List ByteArray} (h : RD W F v (X.sl .str xs).raw) (hf : ∀ b o, F b o → b < W.heap.size) :
    (∃ a c, v = .slice a 0 c ∧ xs = []) ∨ ∃ b o c, v = .slice (some ⟨b, o, none⟩) xs.length c ∧ xs.length ≤ c ∧ b < W.heap.size ∧ ∀ (j : Nat) x, xs[j]? = some x → W.cell? ⟨b, o + j, none⟩ = some (.string x) := by
  have h : RD W F v (.sl 1 (xs.map fun x => [D.str x])) := h
  generalize hys : (xs.map fun x => [D.str x]) = ys at h
  have hl : ys.length = xs.length := by rw [← hys]; simp
  cases h with
  | slNil => exact .inl ⟨none, 0, rfl, List.eq_nil_of_length_eq_zero (by simpa using hl.symm)⟩
  | slZ a => exact .inl ⟨some a, 0, rfl, List.eq_nil_of_length_eq_zero (by simpa using hl.symm)⟩
  | sl b o len cap sz ys vs h1 h2 h3 h4 h5 h6 =>
    have hlen : len = xs.length := by omega
    have cell : ∀ (j : Nat) x, xs[j]? = some x → W.cell? ⟨b, o + j, none⟩ = some (.string x) ∧ F b (o + j) := by
      intro j x hx
      have hy : ys[j]? = some [D.str x] := by rw [← hys, List.getElem?_map, hx]; rfl
      have q1 := h5 j _ 0 _ hy rfl
      have q2 := h6 j _ 0 _ hy rfl
      simp only [Nat.mul_one, Nat.add_zero] at q1
      cases hv : vs j 0 <;> rw [hv] at q2 <;> cases q2
      rw [hv] at q1
      exact q1
    by_cases h0 : xs.length = 0
    · have : xs = [] := List.eq_nil_of_length_eq_zero h0
      exact .inl ⟨some ⟨b, o, none⟩, cap, by rw [show len = 0 by omega], this⟩
    · have hx0 : xs[0]? = some xs[0] := List.getElem?_eq_getElem (by omega)
      exact .inr ⟨b, o, cap, by rw [hlen], by omega, hf b _ (cell 0 _ hx0).2, fun j x hx => (cell j x hx).1⟩
/-- A row of bytes as a list. -/
theorem bytes_of {W : World} {F : Nat → Nat → Prop} {v : Value} {xs : List Int} (h : RD W F v (X.sl (.int .u8) xs).raw) (hf : ∀ b o, F b o → b < W.heap.size) (hx : ∀ x ∈ xs, 0 ≤ x ∧ x < 256) :
    (∃ a c, v = .slice a 0 c ∧ xs = []) ∨ ∃ b o c, v = .slice (some ⟨b, o, none⟩) (xs.map fun x => x.toNat.toUInt8).length c ∧ b < W.heap.size ∧ 0 < xs.length ∧ ∀ (j : Nat) x, (xs.map fun x => x.toNat.toUInt8)[j]? = some x → W.cell? ⟨b, o + j, none⟩ = some (.int .u8 x.toNat) := by
  have h : RD W F v (.sl 1 (xs.map fun x => [D.int .u8 x])) := h
  generalize hys : (xs.map fun x => [D.int .u8 x]) = ys at h
  have hl : ys.length = xs.length := by rw [← hys]; simp
  cases h with
  | slNil => exact .inl ⟨none, 0, rfl, List.eq_nil_of_length_eq_zero (by simpa using hl.symm)⟩
  | slZ a => exact .inl ⟨some a, 0, rfl, List.eq_nil_of_length_eq_zero (by simpa using hl.symm)⟩
  | sl b o len cap sz ys vs h1 h2 h3 h4 h5 h6 =>
    have hlen : len = xs.length := by omega
    have cell : ∀ (j : Nat) x, xs[j]? = some x → W.cell? ⟨b, o + j, none⟩ = some (.int .u8 x) ∧ F b (o + j) := by
      intro j x hx
      have hy : ys[j]? = some [D.int .u8 x] := by rw [← hys, List.getElem?_map, hx]; rfl
      have q1 := h5 j _ 0 _ hy rfl
      have q2 := h6 j _ 0 _ hy rfl
      simp only [Nat.mul_one, Nat.add_zero] at q1
      cases hv : vs j 0 <;> rw [hv] at q2 <;> cases q2
      rw [hv] at q1
      exact q1
    by_cases h0 : xs.length = 0
    · have : xs = [] := List.eq_nil_of_length_eq_zero h0
      exact .inl ⟨some ⟨b, o, none⟩, cap, by rw [show len = 0 by omega], this⟩
    · have hx0 : xs[0]? = some xs[0] := List.getElem?_eq_getElem (by omega)
      refine .inr ⟨b, o, cap, by rw [hlen, List.length_map], hf b _ (cell 0 _ hx0).2, by omega, fun j y hy => ?_⟩
      rw [List.getElem?_map] at hy
      obtain ⟨x, hxj, rfl⟩ := Option.map_eq_some_iff.1 hy
      rw [(cell j x hxj).1]
      have hr := hx x (List.mem_of_getElem? hxj)
      congr 2
      simp; omega

/-- strings.Join. -/
def joinB (xs : List ByteArray) (sep : ByteArray) : ByteArray := ⟨(Lib.join (xs.map (·.data.toList)) sep.data.toList).toArray⟩
def f131_strings_Join (elems : List ByteArray) (sep : ByteArray) : Option ByteArray := if elems.length ≤ 140737488355328 ∧ (joinB elems sep).size ≤ 140737488355328 then some (joinB elems sep) else none
def f131_strings_Join_in (elems : List ByteArray) (sep : ByteArray) : Inn := ⟨[.c (.d (.sl .str elems)), .c (.d (.str sep))], [], [], 0⟩
def f131_strings_Join_out (r : ByteArray) : Out := ⟨.one (.c (.d (.str r))), [], [], 0⟩
theorem f131_strings_Join_ok (elems : List ByteArray) (sep : ByteArray) (r : ByteArray) (h : f131_strings_Join elems sep = some r) : FnOK Try.prog 131 (f131_strings_Join_in elems sep) (f131_strings_Join_out r) := by
  unfold f131_strings_Join at h
  split at h
  · rename_i hc
    cases h
    refine FnOK.leaf (args := [.sl .str elems, .str sep]) (outs := .one (.c (.d (.str (joinB elems sep))))) Try.func131 (by kernel_rfl) (by kernel_rfl) rfl (fun F W vs ha hf => ?_)
    obtain ⟨u, v, rfl, hu, hv⟩ := ha.two
    cases hv
    rcases strs_of hu hf with ⟨a, c, rfl, rfl⟩ | ⟨b, o, c, rfl, h1, h2, h3⟩
    · refine (Try.strings_Join_none a c sep W).mono ?_
      rintro e W' ⟨rfl, rfl⟩
      exact ⟨_, F, rfl, Below.refl _ _, fun _ _ q => q, fun _ _ q => .inl q, fun ρ ω => .str _⟩
    · refine (Try.strings_Join b o c elems sep W h3 h2 hc.1 h1 (by have := hc.2; simpa [joinB, ByteArray.size] using this)).mono ?_
      rintro e W' ⟨rfl, hB⟩
      exact ⟨_, F, rfl, hB, fun _ _ q => q, fun _ _ q => .inl q, fun ρ ω => .str _⟩
  · cases h

/-- num.Hex. -/
def hexB (bs : List Int) : ByteArray := if bs = [] then ⟨#[45]⟩ else ⟨(hexL (bs.map fun x => x.toNat.toUInt8)).toArray⟩
def f115_num_Hex (b : List Int) : Option ByteArray := if b.length ≤ 35184372088832 ∧ ∀ x ∈ b, 0 ≤ x ∧ x < 256 then some (hexB b) else none
def f115_num_Hex_in (b : List Int) : Inn := ⟨[.c (.d (.sl (.int .u8) b))], [], [], 0⟩
def f115_num_Hex_out (r : ByteArray) : Out := ⟨.one (.c (.d (.str r))), [], [], 0⟩
theorem hex_none (a : Option Addr) (c : Nat) (w : World) : Calls Try.prog 115 #[.slice a 0 c] w fun e w' => e = .returned (.string ⟨#[45]⟩) ∧ w' = w := by
  go_enter Try.func115, Try.ntmps115
  go_wp2
  go_ret
  exact ⟨rfl, rfl⟩
theorem f115_num_Hex_ok (b : List Int) (r : ByteArray) (h : f115_num_Hex b = some r) : FnOK Try.prog 115 (f115_num_Hex_in b) (f115_num_Hex_out r) := by
  unfold f115_num_Hex at h
  split at h
  · rename_i hc
    cases h
    refine FnOK.leaf (args := [.sl (.int .u8) b]) (outs := .one (.c (.d (.str (hexB b))))) Try.func115 (by kernel_rfl) (by kernel_rfl) rfl (fun F W vs ha hf => ?_)
    obtain ⟨u, rfl, hu⟩ := ha.one
    rcases bytes_of hu hf hc.2 with ⟨a, c, rfl, rfl⟩ | ⟨bk, o, c, rfl, h1, h2, h3⟩
    · refine (hex_none a c W).mono ?_
      rintro e W' ⟨rfl, rfl⟩
      exact ⟨_, F, rfl, Below.refl _ _, fun _ _ q => q, fun _ _ q => .inl q, fun ρ ω => .str _⟩
    · have hne : b ≠ [] := fun e => by subst e; cases h2
      have e : hexB b = ⟨(hexL (b.map fun x => x.toNat.toUInt8)).toArray⟩ := by rw [hexB, if_neg hne]
      rw [e]
      have hl : (b.map fun x => x.toNat.toUInt8).length = b.length := List.length_map _
      generalize (b.map fun x => x.toNat.toUInt8) = l at *
      refine (hex_walk bk o c l W h3 h1 (by omega) (by omega)).mono ?_
      rintro e W' ⟨rfl, hB⟩
      exact ⟨_, F, rfl, hB, fun _ _ q => q, fun _ _ q => .inl q, fun ρ ω => .str _⟩
  · cases h

/-- num.Text. -/
def textB (n : Int) : ByteArray := ⟨(textL n.toNat).toArray⟩
def f102_num_Text (n : Int) : Option ByteArray := if -9223372036854775808 ≤ n ∧ n ≤ 9223372036854775807 then some (textB n) else none
def f102_num_Text_in (n : Int) : Inn := ⟨[.c (.d (.int .i64 n))], [], [], 0⟩
def f102_num_Text_out (r : ByteArray) : Out := ⟨.one (.c (.d (.str r))), [], [], 0⟩
theorem f102_num_Text_ok (n : Int) (r : ByteArray) (h : f102_num_Text n = some r) : FnOK Try.prog 102 (f102_num_Text_in n) (f102_num_Text_out r) := by
  unfold f102_num_Text at h
  split at h
  · rename_i hc
    cases h
    refine FnOK.leaf (args := [.int .i64 n]) (outs := .one (.c (.d (.str (textB n))))) Try.func102 (by kernel_rfl) (by kernel_rfl) rfl (fun F W vs ha hf => ?_)
    obtain ⟨u, rfl, hu⟩ := ha.one
    cases hu
    refine (text_walk n W hc.1 hc.2).mono ?_
    rintro e W' ⟨rfl, hB⟩
    exact ⟨_, F, rfl, hB, fun _ _ q => q, fun _ _ q => .inl q, fun ρ ω => .str _⟩
  · cases h

end Go.Proofs.YtjoibacjpapncaaLeaf
