/- script.Text walked: the lines of steps that can be written. -/
import Derived.Test.YtakamchmiakicaaDoorWStr
import Derived.Test.YtakamchmiakicaaDoorF25a
import Derived.Test.YtakamchmiakicaaDoorZedPd
import Derived.WalkKit
import Derived.BigCall
import Derived.Lib.Hide
namespace Go.Proofs.YtakamchmiakicaaDoorSText
open Go Zed Go.RowKit Go.Proofs.YtakamchmiakicaaDoorF25a
set_option linter.unusedVariables false
set_option linter.unusedSimpArgs false

abbrev T79 : K := .pair (.int .i64) (.pair (.int .i64) (.pair (.int .i64) (.pair (.int .i64) (.pair (.int .i64) (.pair (.int .i64) (.slice (.int .u8)))))))
abbrev Stp := Int × Int × Int × Int × Int × Int × List Int
/-- What stands before stays. -/
theorem builder_below {T e : TypeId} {B b : Nat} {p : Value} {bs : List Value} {w w' : World} (h : Lib.BuilderAt T e B b p bs w) (hb : Below w.heap.size w w') : Lib.BuilderAt T e B b p bs w' := by
  have lt : ∀ {k : Nat} {o : Obj}, w.heap[k]? = some o → k < w.heap.size := by
    intro k o q
    exact (Array.getElem?_eq_some_iff.1 q).1
  obtain ⟨h1, v, h2, ⟨h3, h4⟩, h5⟩ := h
  refine ⟨h1, v, by rw [hb.block _ (lt h2)]; exact h2, ⟨h3, ?_⟩, h5⟩
  rcases h4 with h4 | ⟨g, cap, cur, q1, q2, q3, q4⟩
  · exact .inl h4
  · exact .inr ⟨g, cap, cur, q1, q2, by rw [hb.block _ (lt q3)]; exact q3, q4⟩
theorem isBuilder_below {T e : TypeId} {B b : Nat} {bs : List Value} {w w' : World} (h : Lib.IsBuilder T e B b bs w) (hb : Below w.heap.size w w') : Lib.IsBuilder T e B b bs w' :=
  h.imp (fun q => builder_below q hb) (fun q => builder_below q hb)
/-- The lines, one after another. -/
def textR (n : Nat) : List Stp → List UInt8 → Option (ByteArray × Int)
  | [], acc => some (⟨acc.toArray⟩, 0)
  | s :: r, acc => (f43_script_Right n s.1 s.2.1 s.2.2.1 s.2.2.2.1 s.2.2.2.2.1 s.2.2.2.2.2.1 s.2.2.2.2.2.2).bind fun b =>
    if b = true then (f65_script_line n s.1 s.2.1 s.2.2.1 s.2.2.2.1 s.2.2.2.2.1 s.2.2.2.2.2.1 s.2.2.2.2.2.2).bind fun x =>
      if x.size ≤ 1000000000 then
        if (acc ++ x.data.toList ++ [10]).length > 65536 then some (⟨#[]⟩, 230) else textR n r (acc ++ x.data.toList ++ [10])
      else none
    else some (⟨#[]⟩, 230)
/-- An element's cells, and what they stand for. -/
def Elem (W : World) (F : Nat → Nat → Prop) (b o : Nat) (s : Stp) : Prop := ∃ u, (∃ A' n' c', u = Value.slice A' n' c') ∧ (W.cell? ⟨b, o, none⟩ = some (.int .i64 s.1) ∧ W.cell? ⟨b, o + 1, none⟩ = some (.int .i64 s.2.1) ∧ W.cell? ⟨b, o + 2, none⟩ = some (.int .i64 s.2.2.1) ∧ W.cell? ⟨b, o + 3, none⟩ = some (.int .i64 s.2.2.2.1) ∧ W.cell? ⟨b, o + 4, none⟩ = some (.int .i64 s.2.2.2.2.1) ∧ W.cell? ⟨b, o + 5, none⟩ = some (.int .i64 s.2.2.2.2.2.1) ∧ W.cell? ⟨b, o + 6, none⟩ = some u) ∧ RD W F u (.sl 1 (s.2.2.2.2.2.2.map fun x => [D.int .u8 x]))
def rowT (s : Stp) : List D := [.int .i64 s.1, .int .i64 s.2.1, .int .i64 s.2.2.1, .int .i64 s.2.2.2.1, .int .i64 s.2.2.2.2.1, .int .i64 s.2.2.2.2.2.1, .sl 1 (s.2.2.2.2.2.2.map fun x => [D.int .u8 x])]
theorem elems {W : World} {F : Nat → Nat → Prop} {v : Value} {l : List Stp} (h : RD W F v (X.sl T79 l).raw) (hf : ∀ b o, F b o → b < W.heap.size) :
    ∃ A c, v = .slice A l.length c ∧ ∀ k (hk : k < l.length), ∃ b o, A = some ⟨b, o, none⟩ ∧ b < W.heap.size ∧ Elem W F b (o + k * 7) l[k] := by
  have h : RD W F v (.sl 7 (l.map rowT)) := h
  generalize hys : l.map rowT = ys at h
  have hl : ys.length = l.length := by rw [← hys]; simp
  cases h with
  | slNil => exact ⟨none, 0, by rw [← hl]; rfl, fun k hk => by simp at hl; omega⟩
  | slZ a => exact ⟨some a, 0, by rw [← hl]; rfl, fun k hk => by simp at hl; omega⟩
  | sl b o len cap sz ys vs h1 h2 h3 h4 h5 h6 =>
    refine ⟨some ⟨b, o, none⟩, cap, by rw [← hl, h1], fun k hk => ⟨b, o, rfl, ?_⟩⟩
    have hy : ys[k]? = some (rowT l[k]) := by rw [← hys, List.getElem?_map, List.getElem?_eq_getElem hk]; rfl
    have cell : ∀ (j : Nat) d, (rowT l[k])[j]? = some d → (W.cell? ⟨b, o + k * 7 + j, none⟩ = some (vs k j) ∧ F b (o + k * 7 + j)) ∧ RD W F (vs k j) d := fun j d hd => ⟨h5 k _ j d hy hd, h6 k _ j d hy hd⟩
    have c0 := cell 0 (.int .i64 l[k].1) rfl
    have c1 := cell 1 (.int .i64 l[k].2.1) rfl
    have c2 := cell 2 (.int .i64 l[k].2.2.1) rfl
    have c3 := cell 3 (.int .i64 l[k].2.2.2.1) rfl
    have c4 := cell 4 (.int .i64 l[k].2.2.2.2.1) rfl
    have c5 := cell 5 (.int .i64 l[k].2.2.2.2.2.1) rfl
    have c6 := cell 6 (.sl 1 (l[k].2.2.2.2.2.2.map fun x => [D.int .u8 x])) rfl
    have i : ∀ {v : Value} {n : Int}, RD W F v (.int .i64 n) → v = .int .i64 n := by
      intro v n q; cases q; rfl
    rw [i c0.2] at c0
    rw [i c1.2] at c1
    rw [i c2.2] at c2
    rw [i c3.2] at c3
    rw [i c4.2] at c4
    rw [i c5.2] at c5
    have q6 : ∃ A' n' c', vs k 6 = Value.slice A' n' c' := by
      obtain ⟨A', n', c', q, _⟩ := RD.sl_len c6.2
      exact ⟨A', n', c', q⟩
    exact ⟨hf _ _ c0.1.2, vs k 6, q6, ⟨c0.1.1, c1.1.1, c2.1.1, c3.1.1, c4.1.1, c5.1.1, c6.1.1⟩, c6.2⟩
/-- The arguments of a function that is handed a step. -/
theorem stp_args {W : World} {F : Nat → Nat → Prop} {u : Value} {s : Stp} (h : RD W F u (.sl 1 (s.2.2.2.2.2.2.map fun x => [D.int .u8 x]))) :
    ∀ (j : Nat) (v : Value) (z : V1), (#[Value.agg #[.int .i64 s.1, .int .i64 s.2.1, .int .i64 s.2.2.1, .int .i64 s.2.2.2.1, .int .i64 s.2.2.2.2.1, .int .i64 s.2.2.2.2.2.1, u]])[j]? = some v → ([V1.agg [.d (.int .i64 s.1), .d (.int .i64 s.2.1), .d (.int .i64 s.2.2.1), .d (.int .i64 s.2.2.2.1), .d (.int .i64 s.2.2.2.2.1), .d (.int .i64 s.2.2.2.2.2.1), .d (.sl (.int .u8) s.2.2.2.2.2.2)]])[j]? = some z → RV W (gF F) v z := by
  intro j v z h1 h2
  match j with
  | 0 =>
    simp at h1 h2
    subst h1; subst h2
    refine ⟨_, rfl, rfl, fun i v z h1 h2 => ?_⟩
    match i with
    | 0 => simp at h1 h2; subst h1; subst h2; exact .int _ _
    | 1 => simp at h1 h2; subst h1; subst h2; exact .int _ _
    | 2 => simp at h1 h2; subst h1; subst h2; exact .int _ _
    | 3 => simp at h1 h2; subst h1; subst h2; exact .int _ _
    | 4 => simp at h1 h2; subst h1; subst h2; exact .int _ _
    | 5 => simp at h1 h2; subst h1; subst h2; exact .int _ _
    | 6 => simp at h1 h2; subst h1; subst h2; exact h
    | i + 7 => simp at h2
  | j + 1 => simp at h2
theorem right_calls (n : Nat) (s : Stp) (b : Bool) (h : f43_script_Right n s.1 s.2.1 s.2.2.1 s.2.2.2.1 s.2.2.2.2.1 s.2.2.2.2.2.1 s.2.2.2.2.2.2 = some b) {W : World} {F : Nat → Nat → Prop} (hf : ∀ b o, F b o → b < W.heap.size) {u : Value}
    (hu : RD W F u (.sl 1 (s.2.2.2.2.2.2.map fun x => [D.int .u8 x]))) :
    Calls Tryd.prog 43 #[.agg #[.int .i64 s.1, .int .i64 s.2.1, .int .i64 s.2.2.1, .int .i64 s.2.2.2.1, .int .i64 s.2.2.2.2.1, .int .i64 s.2.2.2.2.2.1, u]] W fun e W' => e = .returned (.bool b) ∧ Below W.heap.size W W' := by
  refine (FnOK.callsV Tryd.func43 (by kernel_rfl) (by kernel_rfl) (f43_script_Right_ok n _ _ _ _ _ _ _ b h) W F hf _ rfl (stp_args hu)).mono ?_
  rintro e W' ⟨v, g, rfl, hB, hr⟩
  have hr : RD W' g.F v (.bool b) := hr
  cases hr
  exact ⟨rfl, hB⟩
theorem line_calls (n : Nat) (s : Stp) (b : ByteArray) (h : f65_script_line n s.1 s.2.1 s.2.2.1 s.2.2.2.1 s.2.2.2.2.1 s.2.2.2.2.2.1 s.2.2.2.2.2.2 = some b) {W : World} {F : Nat → Nat → Prop} (hf : ∀ b o, F b o → b < W.heap.size) {u : Value}
    (hu : RD W F u (.sl 1 (s.2.2.2.2.2.2.map fun x => [D.int .u8 x]))) :
    Calls Tryd.prog 65 #[.agg #[.int .i64 s.1, .int .i64 s.2.1, .int .i64 s.2.2.1, .int .i64 s.2.2.2.1, .int .i64 s.2.2.2.2.1, .int .i64 s.2.2.2.2.2.1, u]] W fun e W' => e = .returned (.string b) ∧ Below W.heap.size W W' := by
  refine (FnOK.callsV Tryd.func65 (by kernel_rfl) (by kernel_rfl) (f65_script_line_ok n _ _ _ _ _ _ _ b h) W F hf _ rfl (stp_args hu)).mono ?_
  rintro e W' ⟨v, g, rfl, hB, hr⟩
  have hr : RD W' g.F v (.str b) := hr
  cases hr
  exact ⟨rfl, hB⟩
theorem strCells_len (x : ByteArray) : (Lib.strCells x).length = x.size := by
  rw [Lib.size_eq]
  show (Lib.byteCells x.data.toList).length = _
  rw [Lib.byteCells_length]
theorem keep_of {F : Nat → Nat → Prop} {w w' : World} (hf : ∀ b o, F b o → b < w.heap.size) (h : Below w.heap.size w w') : Keeps F F w w' :=
  ⟨fun _ _ q => q, fun b o q => h.cell (p := ⟨b, o, none⟩) (hf b o q)⟩
set_option maxHeartbeats 4000000 in
set_option maxRecDepth 1000000 in
theorem stext_walk (n : Nat) (l : List Stp) (A : Option Addr) (c : Nat) (out : ByteArray × Int) (w : World) (F : Nat → Nat → Prop) (hf : ∀ b o, F b o → b < w.heap.size) (hl : l.length ≤ 512) (hr : textR n l [] = some out)
    (he : ∀ k (hk : k < l.length), ∃ b o, A = some ⟨b, o, none⟩ ∧ b < w.heap.size ∧ Elem w F b (o + k * 7) l[k]) :
    Calls Tryd.prog 40 #[.slice A l.length c] w fun e w' => e = .returned (.tuple #[.string out.1, .int .i64 out.2]) ∧ Below w.heap.size w w' := by
  have HE := Lib.hid he
  have HF := Lib.hid hf
  have HR := Lib.hid hr
  clear he hf hr
  go_enter Tryd.func40, Tryd.ntmps40
  go_wp2
  go_loopw [12] (fun i wr => ∃ (k : Nat) (acc : List UInt8), k ≤ l.length ∧ i = .int .i64 k ∧ acc.length ≤ 65536 ∧ textR n (l.drop k) acc = some out ∧ Lib.IsBuilder 104 5 w.heap.size w.heap.size (Lib.byteCells acc) wr ∧ Below w.heap.size w wr) (fun i _ => l.length - (intOf i).toNat)
  case atStart =>
    exact ⟨0, [], Nat.zero_le _, rfl, by simp, HR.out, Lib.fresh_isBuilder 104 5 w, (Below.refl _ w).alloc (Nat.le_refl _) _⟩
  case round =>
    obtain ⟨k, acc, hk, rfl, hacc, ht, hB, hW⟩ := hrel
    have HB := Lib.hid hB
    have HW := Lib.hid hW
    have hsz := hW.size
    by_cases hlt : k < l.length
    · obtain ⟨b, o, rfl, hb, u, ⟨A', n', c', rfl⟩, hc, hu⟩ := HE.out k hlt
      simp only [← (HW.out.cell (p := ⟨b, _, none⟩) hb)] at hc
      obtain ⟨c0, c1, c2, c3, c4, c5, c6⟩ := hc
      rw [List.drop_eq_getElem_cons hlt, textR] at ht
      obtain ⟨bb, hbb, ht⟩ := bindS ht
      have HT := Lib.hid ht
      have HBB := Lib.hid hbb
      have HU := Lib.hid hu
      clear hB hW ht hbb hu
      go_wp2_with fail
      have hs1 := fun O => HW.out.alloc hsz O
      refine (right_calls n l[k] bb HBB.out (F := F) (fun b o q => Nat.lt_of_lt_of_le (HF.out b o q) (hs1 _).size) (HU.out.keep (keep_of HF.out (hs1 _)))).mono ?_
      rintro e w2 ⟨rfl, hb2⟩
      have hbox := hb2.block wr.heap.size (by rw [World.alloc]; simp)
      rw [heap_alloc_new] at hbox
      have hW2 := (hs1 _).trans (hb2.mono (hs1 _).size)
      have HB2 := Lib.hid (isBuilder_below HB.out ((Below.refl _ wr).alloc (Nat.le_refl _) _ |>.trans (hb2.mono ((Below.refl _ wr).alloc (Nat.le_refl _) _).size)))
      have d0 : w2.cell? ⟨wr.heap.size, 0, none⟩ = some (.int .i64 l[k].1) := by simp [World.cell?, hbox]
      have d1 : w2.cell? ⟨wr.heap.size, 1, none⟩ = some (.int .i64 l[k].2.1) := by simp [World.cell?, hbox]
      have d2 : w2.cell? ⟨wr.heap.size, 2, none⟩ = some (.int .i64 l[k].2.2.1) := by simp [World.cell?, hbox]
      have d3 : w2.cell? ⟨wr.heap.size, 3, none⟩ = some (.int .i64 l[k].2.2.2.1) := by simp [World.cell?, hbox]
      have d4 : w2.cell? ⟨wr.heap.size, 4, none⟩ = some (.int .i64 l[k].2.2.2.2.1) := by simp [World.cell?, hbox]
      have d5 : w2.cell? ⟨wr.heap.size, 5, none⟩ = some (.int .i64 l[k].2.2.2.2.2.1) := by simp [World.cell?, hbox]
      have d6 : w2.cell? ⟨wr.heap.size, 6, none⟩ = some (.slice A' n' c') := by simp [World.cell?, hbox]
      have HW2 := Lib.hid hW2
      have hsz2 := hW2.size
      clear hbox hb2 hW2 hs1
      cases bb with
      | false =>
        have ht := HT.out
        cases ht
        go_wp2_with fail
        go_ret2
        exact ⟨rfl, HW2.out⟩
      | true =>
        obtain ⟨x, hx, ht⟩ := bindS HT.out
        have HX := Lib.hid hx
        obtain ⟨hxs, ht⟩ := ifS ht
        have HT2 := Lib.hid ht
        clear hx ht
        go_wp2_with fail
        refine (line_calls n l[k] x HX.out (F := F) (fun b o q => Nat.lt_of_lt_of_le (HF.out b o q) hsz2) (HU.out.keep (keep_of HF.out HW2.out))).mono ?_
        rintro e w3 ⟨rfl, hb3⟩
        have HW3 := Lib.hid (HW2.out.trans (hb3.mono hsz2))
        have HB3 := Lib.hid (isBuilder_below HB2.out hb3)
        have hsz3 := HW3.out.size
        clear hb3 d0 d1 d2 d3 d4 d5 d6
        go_wp2_with fail
        refine (Tryd.Builder_WriteString w.heap.size w.heap.size _ x w3 HB3.out (by rw [Lib.byteCells_length]; omega) hsz3).mono ?_
        rintro e w4 ⟨rfl, h4, hb4⟩
        have H4 := Lib.hid h4
        have HW4 := Lib.hid (HW3.out.trans hb4)
        have hsz4 := HW4.out.size
        clear h4 hb4
        go_wp2_with fail
        refine (Tryd.Builder_WriteByte w.heap.size w.heap.size _ _ w4 (Or.inr H4.out) (by rw [List.length_append, Lib.byteCells_length, strCells_len]; omega) hsz4).mono ?_
        rintro e w5 ⟨rfl, h5, hb5⟩
        have hcont : Lib.byteCells acc ++ Lib.strCells x ++ [Value.int .u8 10] = Lib.byteCells (acc ++ x.data.toList ++ [10]) := by
          rw [Lib.byteCells_append, Lib.byteCells_append]; rfl
        rw [hcont] at h5
        have H5 := Lib.hid (Or.inr h5 : Lib.IsBuilder 104 5 w.heap.size w.heap.size (Lib.byteCells (acc ++ x.data.toList ++ [10])) w5)
        have HW5 := Lib.hid (HW4.out.trans hb5)
        have HT3 := HT2
        clear h5 hb5 hcont HT2
        go_wp2_with fail
        refine (Tryd.Builder_Len w.heap.size w.heap.size _ w5 H5.out).mono ?_
        rintro e w6 ⟨rfl, rfl⟩
        rw [Lib.byteCells_length]
        generalize acc ++ x.data.toList ++ [10] = acc' at H5 HT3
        by_cases hlong : 65536 < acc'.length
        · have ht := HT3.out
          rw [if_pos hlong] at ht
          cases ht
          have hd : (decide ((65536 : Int) < (acc'.length : Int))) = true := decide_eq_true (by omega)
          go_wp2_with fail
          go_ret2
          exact ⟨rfl, HW5.out⟩
        · have ht := HT3.out
          rw [if_neg hlong] at ht
          have HT4 := Lib.hid ht
          have hd : (decide ((65536 : Int) < (acc'.length : Int))) = false := decide_eq_false (by omega)
          clear ht
          go_wp2
          go_roundw
          case rel => exact ⟨k + 1, acc', by omega, by go_num, by omega, HT4.out, H5.out, HW5.out⟩
          case measure => simp [intOf]; omega
    · have hke : k = l.length := by omega
      subst hke
      clear hB hW
      rw [List.drop_length] at ht
      cases ht
      go_wp2_with fail
      refine (Tryd.Builder_String_any w.heap.size w.heap.size acc wr HB.out hsz).mono ?_
      rintro e w2 ⟨rfl, hb2⟩
      have Hb2 := Lib.hid (HW.out.trans hb2)
      clear hb2
      go_wp2
      go_ret2
      exact ⟨rfl, Hb2.out⟩
/-- Too many of them. -/
theorem stext_many (l : Nat) (A : Option Addr) (c : Nat) (w : World) (hl : 512 < l) : Calls Tryd.prog 40 #[.slice A l c] w fun e w' => e = .returned (.tuple #[.string ⟨#[]⟩, .int .i64 230]) ∧ w' = w := by
  have hd : (decide ((512 : Int) < (l : Int))) = true := decide_eq_true (by omega)
  go_enter Tryd.func40, Tryd.ntmps40
  go_wp2
  go_ret2
  exact ⟨rfl, rfl⟩
/-- script.Text. -/
def f40_script_Text (n : Nat) (l : List Stp) : Option (ByteArray × Int) := if l.length > 512 then some (⟨#[]⟩, 230) else textR n l []
def f40_script_Text_in (l : List Stp) : Inn := ⟨[.c (.d (.sl T79 l))], [], [], 0⟩
def f40_script_Text_out (r : ByteArray × Int) : Out := ⟨.tup [.c (.d (.str r.1)), .c (.d (.int .i64 r.2))], [], [], 0⟩
theorem f40_script_Text_ok (n : Nat) (l : List Stp) (r : ByteArray × Int) (h : f40_script_Text n l = some r) : FnOK Tryd.prog 40 (f40_script_Text_in l) (f40_script_Text_out r) := by
  refine FnOK.leaf (args := [.sl T79 l]) (outs := .tup [.c (.d (.str r.1)), .c (.d (.int .i64 r.2))]) Tryd.func40 (by kernel_rfl) (by kernel_rfl) rfl (fun F W vs ha hf => ?_)
  obtain ⟨u, rfl, hu⟩ := ha.one
  obtain ⟨A, c, rfl, he⟩ := elems hu hf
  have fin : ∀ (W' : World) ρ ω, RZ W' ⟨F, ρ, ω⟩ (.tuple #[.string r.1, .int .i64 r.2]) (.tup [.c (.d (.str r.1)), .c (.d (.int .i64 r.2))]) := by
    intro W' ρ ω
    refine ⟨_, rfl, rfl, fun j u x h1 h2 => ?_⟩
    match j with
    | 0 => simp at h1 h2; subst h1; subst h2; exact .str _
    | 1 => simp at h1 h2; subst h1; subst h2; exact .int _ _
    | j + 2 => simp at h2
  unfold f40_script_Text at h
  split at h
  · rename_i hc
    cases h
    refine (stext_many l.length A c W hc).mono ?_
    rintro e W' ⟨rfl, rfl⟩
    exact ⟨_, F, rfl, Below.refl _ _, fun _ _ q => q, fun _ _ q => .inl q, fun ρ ω => fin _ ρ ω⟩
  · rename_i hc
    refine (stext_walk n l A c r W F hf (by omega) h he).mono ?_
    rintro e W' ⟨rfl, hB⟩
    exact ⟨_, F, rfl, hB, fun _ _ q => q, fun _ _ q => .inl q, fun ρ ω => fin _ ρ ω⟩
end Go.Proofs.YtakamchmiakicaaDoorSText
