/- ScriptReads: each text is read as its steps, or refused at its first wrong line: of the functions that text F25 prints. Conditions: none. -/
import Derived.Test.YtakamchmiakicaaDoorPureLib25
namespace Go.Proofs.YtakamchmiakicaaDoorF25
open Go Zed Go.Proofs.YtakamchmiakicaaDoorLeaf
set_option linter.unusedVariables false
set_option linter.unusedSimpArgs false
set_option maxRecDepth 100000

abbrev Stp := Int × Int × Int × Int × Int × Int × List Int
def unw (l : List UInt8) : ByteArray := ⟨l.toArray⟩
theorem unw_D (a : ByteArray) : unw (D a) = a := ext_D rfl
def pieceB (s : ByteArray) : List ByteArray := (pc [] (D s)).map unw
theorem map_unw {r : List ByteArray} {x : List (List UInt8)} (h : r.map D = x) : r = x.map unw := by
  subst h
  rw [List.map_map]
  conv => lhs; rw [← List.map_id r]
  exact List.map_congr_left fun a _ => (unw_D a).symm
theorem pieceB_D (s : ByteArray) : (pieceB s).map D = pc [] (D s) := by
  unfold pieceB
  rw [List.map_map]
  conv => rhs; rw [← List.map_id (pc [] (D s))]
  exact List.map_congr_left fun a _ => rfl
theorem pieceB_ev (s : ByteArray) (hs : s.size ≤ 90000) : Ev (fun n => f15_num_Pieces n s) (fun r => r = pieceB s) := (pieces_ev s hs).mono fun r h => map_unw h
theorem pieceB_ref (s : ByteArray) (hs : s.size ≤ 90000) : Ev (fun n => f19_broughamref01_Pieces n s) (fun r => r = pieceB s) := (refpieces_ev s hs).mono fun r h => map_unw h
theorem mem_sum {l : List (List UInt8)} {x : List UInt8} (h : x ∈ l) : x.length ≤ (l.map List.length).sum := by
  induction l with
  | nil => cases h
  | cons y l ih =>
    rw [List.map_cons, List.sum_cons]
    rcases List.mem_cons.1 h with rfl | h
    · omega
    · have := ih h; omega
theorem pieceB_sz {s x : ByteArray} (h : x ∈ pieceB s) : x.size ≤ s.size := by
  have h1 : D x ∈ pc [] (D s) := by rw [← pieceB_D]; exact List.mem_map_of_mem h
  have h2 := mem_sum h1
  have h3 := (pc_len (D s) []).1
  rw [sz_D, sz_D s]
  simp only [List.length_nil] at h3
  omega
theorem pieceB_len (s : ByteArray) : (pieceB s).length ≤ 1 + s.size := by
  have h3 := (pc_len (D s) []).2
  rw [← pieceB_D, List.length_map] at h3
  rw [sz_D]; exact h3
/-! A step's parts. -/
def setC (c : UInt8) (v : Int) (s : Stp) : Stp :=
  if c = 104 then (s.1, v, s.2.2) else if c = 110 then (s.1, s.2.1, v, s.2.2.2) else if c = 112 then (s.1, s.2.1, s.2.2.1, v, s.2.2.2.2) else if c = 119 then (s.1, s.2.1, s.2.2.1, s.2.2.2.1, v, s.2.2.2.2.2) else (s.1, s.2.1, s.2.2.1, s.2.2.2.1, s.2.2.2.2.1, v, s.2.2.2.2.2.2)
def setB (b : List Int) (s : Stp) : Stp := (s.1, s.2.1, s.2.2.1, s.2.2.2.1, s.2.2.2.2.1, s.2.2.2.2.2.1, b)
def fldC (c : UInt8) (x : ByteArray) (s : Stp) : Option Stp :=
  if c = 98 then (if (unhexR x.data.toList).2 = 0 then some (setB (unhexR x.data.toList).1 s) else none)
  else if (parseR x.data.toList).2 = 0 then some (setC c (parseR x.data.toList).1 s) else none
def fldL : List UInt8 → List ByteArray → Stp → Option Stp
  | [], _, s => some s
  | _ :: _, [], _ => none
  | c :: cs, x :: xs, s => (fldC c x s).bind (fldL cs xs)
def no : Bool × Stp := (false, 0, 0, 0, 0, 0, 0, [])
def okS : Option Stp → Bool × Stp
  | none => no
  | some s => (true, s)
def Alf (l : List UInt8) : Prop := ∀ c ∈ l, c = 104 ∨ c = 110 ∨ c = 112 ∨ c = 119 ∨ c = 107 ∨ c = 98
def G (o : Option Stp) (r : (Bool × Stp) ⊕ (Int × Int × Int × Int × Int × Int × Stp)) : Prop := match o with
  | none => r = .inl no
  | some s => r = .inr (0, 0, 0, 0, 0, 0, s)
theorem part_h (s : Stp) : Ev (fun _ => f71_script_part_v2 ((104 : UInt8).toNat : Int) s.1 s.2.1 s.2.2.1 s.2.2.2.1 s.2.2.2.2.1 s.2.2.2.2.2.1 s.2.2.2.2.2.2) (fun r => r = .inl s) := Ev.some rfl
theorem part_n (s : Stp) : Ev (fun _ => f71_script_part_v2 ((110 : UInt8).toNat : Int) s.1 s.2.1 s.2.2.1 s.2.2.2.1 s.2.2.2.2.1 s.2.2.2.2.2.1 s.2.2.2.2.2.2) (fun r => r = .inr (.inl s)) := Ev.some rfl
theorem part_p (s : Stp) : Ev (fun _ => f71_script_part_v2 ((112 : UInt8).toNat : Int) s.1 s.2.1 s.2.2.1 s.2.2.2.1 s.2.2.2.2.1 s.2.2.2.2.2.1 s.2.2.2.2.2.2) (fun r => r = .inr (.inr (.inl s))) := Ev.some rfl
theorem part_w (s : Stp) : Ev (fun _ => f71_script_part_v2 ((119 : UInt8).toNat : Int) s.1 s.2.1 s.2.2.1 s.2.2.2.1 s.2.2.2.2.1 s.2.2.2.2.2.1 s.2.2.2.2.2.2) (fun r => r = .inr (.inr (.inr (.inl s)))) := Ev.some rfl
theorem part_k (s : Stp) : Ev (fun _ => f71_script_part_v2 ((107 : UInt8).toNat : Int) s.1 s.2.1 s.2.2.1 s.2.2.2.1 s.2.2.2.2.1 s.2.2.2.2.2.1 s.2.2.2.2.2.2) (fun r => r = .inr (.inr (.inr (.inr (.inl s))))) := Ev.some rfl
theorem part_b (s : Stp) : Ev (fun _ => f71_script_part_v2 ((98 : UInt8).toNat : Int) s.1 s.2.1 s.2.2.1 s.2.2.2.1 s.2.2.2.2.1 s.2.2.2.2.2.1 s.2.2.2.2.2.2) (fun r => r = .inr (.inr (.inr (.inr (.inr s))))) := Ev.some rfl
theorem step_loop (w : List ByteArray) (q : ByteArray) (x0 : ByteArray) (ha : Alf (D q)) (hw : w.length = q.size + 1) (hb : ∀ x ∈ w, x.size ≤ 90000) (hq : q.size ≤ 90000) : ∀ (d i : Nat) (hi : i + d = q.size) (s : Stp),
    Ev (fun n => f46_script_step_L7 n w ((q.size : Nat) : Int) (i : Int) 0 0 0 0 0 0 x0 q s.1 s.2.1 s.2.2.1 s.2.2.2.1 s.2.2.2.2.1 s.2.2.2.2.2.1 s.2.2.2.2.2.2) (G (fldL ((D q).drop i) (w.drop (i + 1)) s))
  | 0, i, hi, s => by
    apply Ev.succ
    unfold f46_script_step_L7
    refine Ev.neg (by simp only [decide_eq_true_eq]; omega) (Ev.some ?_)
    rw [List.drop_eq_nil_of_le (by rw [← sz_D]; omega)]
    rfl
  | d + 1, i, hi, s => by
    have hil : i < (D q).length := by rw [← sz_D]; omega
    have hbt : byteAt q (i : Int) = (((D q)[i]'hil).toNat : Int) := byte_at hil
    have hdrop : (D q).drop i = (D q)[i] :: (D q).drop (i + 1) := List.drop_eq_getElem_cons hil
    have hwd : w.drop (i + 1) = w.getD (i + 1) ByteArray.empty :: w.drop (i + 1 + 1) := drop_cons (by omega) _
    have hc := ha _ (List.getElem_mem hil)
    have hx := hb _ (getD_mem (show i + 1 < w.length by omega) ByteArray.empty)
    have ih := fun s' => step_loop w q x0 ha hw hb hq d (i + 1) (by omega) s'
    apply Ev.succ
    unfold f46_script_step_L7
    rw [i64_id (e := (i : Int) + 1) (by omega) (by omega), hbt, show ((i : Int) + 1).toNat = i + 1 by omega, hdrop, hwd]
    generalize (D q)[i] = c at hc
    generalize w.getD (i + 1) ByteArray.empty = x at hx
    refine Ev.pos (by simp only [decide_eq_true_eq]; omega) (Ev.guard (by omega) ?_)
    rcases hc with rfl | rfl | rfl | rfl | rfl | rfl
    · refine Ev.bind (part_h s) ?_
      rintro _ rfl
      refine Ev.guard (by omega) (Ev.bind (parse_ev x (by omega)) ?_)
      rintro _ rfl
      refine Ev.ite (fun c => Ev.some ?_) (fun c => ?_)
      · have e : fldC 104 x s = none := by
          have c : ¬ (parseR x.data.toList).2 = 0 := by simpa using c
          unfold fldC; rw [if_neg (by decide), if_neg c]
        show G ((fldC 104 x s).bind _) _
        rw [e]; rfl
      · have e : fldC 104 x s = some (setC 104 (parseR x.data.toList).1 s) := by
          have c : (parseR x.data.toList).2 = 0 := by simpa using c
          unfold fldC; rw [if_neg (by decide), if_pos c]
        show Ev _ (G ((fldC 104 x s).bind _))
        rw [e]
        exact ih (setC 104 (parseR x.data.toList).1 s)
    · refine Ev.bind (part_n s) ?_
      rintro _ rfl
      refine Ev.guard (by omega) (Ev.bind (parse_ev x (by omega)) ?_)
      rintro _ rfl
      refine Ev.ite (fun c => Ev.some ?_) (fun c => ?_)
      · have e : fldC 110 x s = none := by
          have c : ¬ (parseR x.data.toList).2 = 0 := by simpa using c
          unfold fldC; rw [if_neg (by decide), if_neg c]
        show G ((fldC 110 x s).bind _) _
        rw [e]; rfl
      · have e : fldC 110 x s = some (setC 110 (parseR x.data.toList).1 s) := by
          have c : (parseR x.data.toList).2 = 0 := by simpa using c
          unfold fldC; rw [if_neg (by decide), if_pos c]
        show Ev _ (G ((fldC 110 x s).bind _))
        rw [e]
        exact ih (setC 110 (parseR x.data.toList).1 s)
    · refine Ev.bind (part_p s) ?_
      rintro _ rfl
      refine Ev.guard (by omega) (Ev.bind (parse_ev x (by omega)) ?_)
      rintro _ rfl
      refine Ev.ite (fun c => Ev.some ?_) (fun c => ?_)
      · have e : fldC 112 x s = none := by
          have c : ¬ (parseR x.data.toList).2 = 0 := by simpa using c
          unfold fldC; rw [if_neg (by decide), if_neg c]
        show G ((fldC 112 x s).bind _) _
        rw [e]; rfl
      · have e : fldC 112 x s = some (setC 112 (parseR x.data.toList).1 s) := by
          have c : (parseR x.data.toList).2 = 0 := by simpa using c
          unfold fldC; rw [if_neg (by decide), if_pos c]
        show Ev _ (G ((fldC 112 x s).bind _))
        rw [e]
        exact ih (setC 112 (parseR x.data.toList).1 s)
    · refine Ev.bind (part_w s) ?_
      rintro _ rfl
      refine Ev.guard (by omega) (Ev.bind (parse_ev x (by omega)) ?_)
      rintro _ rfl
      refine Ev.ite (fun c => Ev.some ?_) (fun c => ?_)
      · have e : fldC 119 x s = none := by
          have c : ¬ (parseR x.data.toList).2 = 0 := by simpa using c
          unfold fldC; rw [if_neg (by decide), if_neg c]
        show G ((fldC 119 x s).bind _) _
        rw [e]; rfl
      · have e : fldC 119 x s = some (setC 119 (parseR x.data.toList).1 s) := by
          have c : (parseR x.data.toList).2 = 0 := by simpa using c
          unfold fldC; rw [if_neg (by decide), if_pos c]
        show Ev _ (G ((fldC 119 x s).bind _))
        rw [e]
        exact ih (setC 119 (parseR x.data.toList).1 s)
    · refine Ev.bind (part_k s) ?_
      rintro _ rfl
      refine Ev.guard (by omega) (Ev.bind (parse_ev x (by omega)) ?_)
      rintro _ rfl
      refine Ev.ite (fun c => Ev.some ?_) (fun c => ?_)
      · have e : fldC 107 x s = none := by
          have c : ¬ (parseR x.data.toList).2 = 0 := by simpa using c
          unfold fldC; rw [if_neg (by decide), if_neg c]
        show G ((fldC 107 x s).bind _) _
        rw [e]; rfl
      · have e : fldC 107 x s = some (setC 107 (parseR x.data.toList).1 s) := by
          have c : (parseR x.data.toList).2 = 0 := by simpa using c
          unfold fldC; rw [if_neg (by decide), if_pos c]
        show Ev _ (G ((fldC 107 x s).bind _))
        rw [e]
        exact ih (setC 107 (parseR x.data.toList).1 s)
    · refine Ev.bind (part_b s) ?_
      rintro _ rfl
      refine Ev.guard (by omega) (Ev.bind (unhex_is x hx) ?_)
      rintro _ rfl
      refine Ev.ite (fun c => Ev.some ?_) (fun c => ?_)
      · have e : fldC 98 x s = none := by
          have c : ¬ (unhexR x.data.toList).2 = 0 := by simpa using c
          unfold fldC; rw [if_pos rfl, if_neg c]
        show G ((fldC 98 x s).bind _) _
        rw [e]; rfl
      · have e : fldC 98 x s = some (setB (unhexR x.data.toList).1 s) := by
          have c : (unhexR x.data.toList).2 = 0 := by simpa using c
          unfold fldC; rw [if_pos rfl, if_pos c]
        show Ev _ (G ((fldC 98 x s).bind _))
        rw [e]
        exact ih (setB (unhexR x.data.toList).1 s)
theorem set_is (c : UInt8) (hc : c = 104 ∨ c = 110 ∨ c = 112 ∨ c = 119 ∨ c = 107) (v : Int) (s : Stp) : Ev (fun _ => f80_broughamref25_set s.1 s.2.1 s.2.2.1 s.2.2.2.1 s.2.2.2.2.1 s.2.2.2.2.2.1 s.2.2.2.2.2.2 (c.toNat : Int) v) (fun r => r = setC c v s) := by
  rcases hc with rfl | rfl | rfl | rfl | rfl <;> exact Ev.some rfl
theorem refstep_loop (w : List ByteArray) (q : ByteArray) (ha : Alf (D q)) (hw : w.length = q.size + 1) (hb : ∀ x ∈ w, x.size ≤ 90000) (hq : q.size ≤ 90000) : ∀ (d i : Nat) (hi : i + d = q.size) (s : Stp),
    Ev (fun n => f48_broughamref25_step_L8 n w q (i : Int) 0 0 0 0 0 0 s.1 s.2.1 s.2.2.1 s.2.2.2.1 s.2.2.2.2.1 s.2.2.2.2.2.1 s.2.2.2.2.2.2) (G (fldL ((D q).drop i) (w.drop (i + 1)) s))
  | 0, i, hi, s => by
    apply Ev.succ
    unfold f48_broughamref25_step_L8
    refine Ev.neg (by simp only [decide_eq_true_eq]; omega) (Ev.some ?_)
    rw [List.drop_eq_nil_of_le (by rw [← sz_D]; omega)]
    rfl
  | d + 1, i, hi, s => by
    have hil : i < (D q).length := by rw [← sz_D]; omega
    have hbt : byteAt q (i : Int) = (((D q)[i]'hil).toNat : Int) := byte_at hil
    have hdrop : (D q).drop i = (D q)[i] :: (D q).drop (i + 1) := List.drop_eq_getElem_cons hil
    have hwd : w.drop (i + 1) = w.getD (i + 1) ByteArray.empty :: w.drop (i + 1 + 1) := drop_cons (by omega) _
    have hc := ha _ (List.getElem_mem hil)
    have hx := hb _ (getD_mem (show i + 1 < w.length by omega) ByteArray.empty)
    have ih := fun s' => refstep_loop w q ha hw hb hq d (i + 1) (by omega) s'
    apply Ev.succ
    unfold f48_broughamref25_step_L8
    rw [i64_id (e := (i : Int) + 1) (by omega) (by omega), hbt, show ((i : Int) + 1).toNat = i + 1 by omega, hdrop, hwd]
    generalize (D q)[i] = c at hc
    generalize w.getD (i + 1) ByteArray.empty = x at hx
    have h98 : (98 : UInt8).toNat = 98 := rfl
    refine Ev.pos (by simp only [decide_eq_true_eq]; omega) (Ev.guard (by omega) (Ev.ite (fun c0 => Ev.guard (by omega) ?_) (fun c0 => Ev.guard (by omega) ?_)))
    · have e0 : c = 98 := UInt8.toNat_inj.1 (by simp only [beq_iff_eq] at c0; omega)
      subst e0
      refine Ev.bind (refunhex_is x hx) ?_
      rintro _ rfl
      refine Ev.ite (fun c => Ev.some ?_) (fun c => ?_)
      · have e : fldC 98 x s = none := by
          have c : ¬ (unhexR x.data.toList).2 = 0 := by simpa using c
          unfold fldC; rw [if_pos rfl, if_neg c]
        show G ((fldC 98 x s).bind _) _
        rw [e]; rfl
      · have e : fldC 98 x s = some (setB (unhexR x.data.toList).1 s) := by
          have c : (unhexR x.data.toList).2 = 0 := by simpa using c
          unfold fldC; rw [if_pos rfl, if_pos c]
        show Ev _ (G ((fldC 98 x s).bind _))
        rw [e]
        exact ih (setB (unhexR x.data.toList).1 s)
    · have e0 : ¬ c = 98 := fun e => c0 (by rw [e]; rfl)
      have hc : c = 104 ∨ c = 110 ∨ c = 112 ∨ c = 119 ∨ c = 107 := by
        rcases hc with h | h | h | h | h | h
        · exact .inl h
        · exact .inr (.inl h)
        · exact .inr (.inr (.inl h))
        · exact .inr (.inr (.inr (.inl h)))
        · exact .inr (.inr (.inr (.inr h)))
        · exact absurd h e0
      refine Ev.bind (refparse_is x) ?_
      rintro _ rfl
      refine Ev.guard (by omega) (Ev.bind (set_is c hc _ s) ?_)
      rintro _ rfl
      refine Ev.ite (fun c1 => Ev.some ?_) (fun c1 => ?_)
      · have e : fldC c x s = none := by
          have c1 : ¬ (parseR x.data.toList).2 = 0 := by simpa using c1
          unfold fldC; rw [if_neg e0, if_neg c1]
        show G ((fldC c x s).bind _) _
        rw [e]; rfl
      · have e : fldC c x s = some (setC c (parseR x.data.toList).1 s) := by
          have c1 : (parseR x.data.toList).2 = 0 := by simpa using c1
          unfold fldC; rw [if_neg e0, if_pos c1]
        show Ev _ (G ((fldC c x s).bind _))
        rw [e]
        exact ih (setC c (parseR x.data.toList).1 s)
/-! The kinds. -/
def tb : List ByteArray := [⟨#[]⟩, ⟨#[]⟩, ⟨#[108, 105, 115, 116, 101, 110]⟩, ⟨#[104, 110]⟩, ⟨#[99, 111, 110, 110, 101, 99, 116]⟩, ⟨#[104, 110, 112, 119]⟩, ⟨#[97, 99, 99, 101, 112, 116]⟩, ⟨#[104, 110]⟩, ⟨#[119, 114, 105, 116, 101]⟩, ⟨#[104, 110, 98]⟩, ⟨#[114, 101, 97, 100]⟩, ⟨#[104, 110, 107]⟩, ⟨#[99, 108, 111, 115, 101]⟩, ⟨#[104, 110]⟩, ⟨#[97, 98, 111, 114, 116]⟩, ⟨#[104, 110]⟩, ⟨#[114, 101, 108, 101, 97, 115, 101]⟩, ⟨#[104, 110]⟩, ⟨#[111, 102, 102, 101, 114]⟩, ⟨#[104, 110, 119]⟩, ⟨#[116, 105, 99, 107]⟩, ⟨#[107]⟩, ⟨#[100, 101, 108, 105, 118, 101, 114]⟩, ⟨#[107]⟩, ⟨#[100, 114, 111, 112]⟩, ⟨#[107]⟩, ⟨#[99, 111, 112, 121]⟩, ⟨#[107]⟩, ⟨#[114, 101, 112, 108, 97, 121]⟩, ⟨#[119, 107]⟩, ⟨#[114, 101, 102, 108, 101, 99, 116]⟩, ⟨#[119, 107]⟩, ⟨#[105, 110, 106, 101, 99, 116]⟩, ⟨#[104, 119, 98]⟩]
def wd (k : Nat) : ByteArray := tb.getD (k * 2 + 0) ByteArray.empty
def pt (k : Nat) : ByteArray := tb.getD (k * 2 + 1) ByteArray.empty
theorem alf_fin : ∀ k : Fin 17, ∀ c ∈ D (pt k.val), c = 104 ∨ c = 110 ∨ c = 112 ∨ c = 119 ∨ c = 107 ∨ c = 98 := by decide
theorem alf_pt {k : Nat} (h : k < 17) : Alf (D (pt k)) := alf_fin ⟨k, h⟩
theorem pt_fin : ∀ k : Fin 17, (pt k.val).size ≤ 4 := by decide
theorem pt_sz {k : Nat} (h : k < 17) : (pt k).size ≤ 4 := pt_fin ⟨k, h⟩
theorem word_fin : ∀ k : Fin 17, 1 ≤ k.val → f73_broughamref25_word (k.val : Int) = some (wd k.val, pt k.val)
  | ⟨0, _⟩, h => absurd h (Nat.not_succ_le_zero 0)
  | ⟨1, _⟩, _ => rfl
  | ⟨2, _⟩, _ => rfl
  | ⟨3, _⟩, _ => rfl
  | ⟨4, _⟩, _ => rfl
  | ⟨5, _⟩, _ => rfl
  | ⟨6, _⟩, _ => rfl
  | ⟨7, _⟩, _ => rfl
  | ⟨8, _⟩, _ => rfl
  | ⟨9, _⟩, _ => rfl
  | ⟨10, _⟩, _ => rfl
  | ⟨11, _⟩, _ => rfl
  | ⟨12, _⟩, _ => rfl
  | ⟨13, _⟩, _ => rfl
  | ⟨14, _⟩, _ => rfl
  | ⟨15, _⟩, _ => rfl
  | ⟨16, _⟩, _ => rfl
  | ⟨n + 17, h⟩, _ => absurd h (by omega)
theorem word_is {k : Nat} (h1 : 1 ≤ k) (h : k < 17) : f73_broughamref25_word (k : Int) = some (wd k, pt k) := word_fin ⟨k, h⟩ h1
def stepAt (w : List ByteArray) : Nat → Nat → Bool × Stp
  | 0, _ => no
  | d + 1, k => if D (wd k) = D (w.getD 0 ByteArray.empty) ∧ w.length = (pt k).size + 1 then okS (fldL (D (pt k)) (w.drop 1) ((k : Int), 0, 0, 0, 0, 0, [])) else stepAt w d (k + 1)
def G2 (r : (Bool × Stp) ⊕ (Int × Int × Int × Int × Int × Int)) : Bool × Stp := match r with
  | .inl e => e
  | .inr _ => no
theorem G_out {o : Option Stp} {r} (h : G o r) : (∃ e, r = .inl e ∧ okS o = e) ∨ (∃ s, r = .inr (0, 0, 0, 0, 0, 0, s) ∧ okS o = (true, s)) := by
  cases o with
  | none => exact .inl ⟨no, h, rfl⟩
  | some s => exact .inr ⟨s, h, rfl⟩
theorem kinds_loop (w : List ByteArray) (h1 : 1 ≤ w.length) (hl : w.length ≤ 90000) (hb : ∀ x ∈ w, x.size ≤ 90000) (t_0 t_1 t_2 t_3 t_4 t_5 t_6 t_7 t_8 t_9 t_10 t_11 t_12 t_13 t_14 t_15 t_16 t_17 t_18 t_19 t_20 t_21 t_22 t_23 t_24 t_25 t_26 t_27 t_28 t_29 t_30 t_31 t_32 t_33 : ByteArray) (ht : [t_0, t_1, t_2, t_3, t_4, t_5, t_6, t_7, t_8, t_9, t_10, t_11, t_12, t_13, t_14, t_15, t_16, t_17, t_18, t_19, t_20, t_21, t_22, t_23, t_24, t_25, t_26, t_27, t_28, t_29, t_30, t_31, t_32, t_33] = tb) : ∀ (d k : Nat) (hk : k + d = 17) (hk1 : 1 ≤ k),
    Ev (fun n => f46_script_step_L2 n w t_0 t_1 t_2 t_3 t_4 t_5 t_6 t_7 t_8 t_9 t_10 t_11 t_12 t_13 t_14 t_15 t_16 t_17 t_18 t_19 t_20 t_21 t_22 t_23 t_24 t_25 t_26 t_27 t_28 t_29 t_30 t_31 t_32 t_33 (k : Int) 0 0 0 0 0 0) (fun r => G2 r = stepAt w d k)
  | 0, k, hk, hk1 => by
    apply Ev.succ
    unfold f46_script_step_L2
    exact Ev.neg (by simp only [decide_eq_true_eq]; omega) (Ev.some rfl)
  | d + 1, k, hk, hk1 => by
    have ih := kinds_loop w h1 hl hb t_0 t_1 t_2 t_3 t_4 t_5 t_6 t_7 t_8 t_9 t_10 t_11 t_12 t_13 t_14 t_15 t_16 t_17 t_18 t_19 t_20 t_21 t_22 t_23 t_24 t_25 t_26 t_27 t_28 t_29 t_30 t_31 t_32 t_33 ht d (k + 1) (by omega) (by omega)
    have hp := pt_sz (show k < 17 by omega)
    apply Ev.succ
    unfold f46_script_step_L2
    rw [ht, i64_id (e := (k : Int) + 1) (by omega) (by omega), Int.toNat_natCast]
    rw [show tb.getD (k * 2 + 0) ByteArray.empty = wd k from rfl, show tb.getD (k * 2 + 1) ByteArray.empty = pt k from rfl, str_dec, i64_id (e := 1 + (((pt k).size : Nat) : Int)) (by omega) (by omega)]
    refine Ev.pos (by simp only [decide_eq_true_eq]; omega) (Ev.guard (by omega) (Ev.neg (by simp only [beq_iff_eq]; omega) (Ev.guard (by omega) ?_)))
    refine Ev.ite (fun c => ?_) (fun c => Ev.ite (fun c2 => ?_) (fun c2 => ?_))
    · have c : ¬ D (wd k) = D (w.getD 0 ByteArray.empty) := by
        simp only [Bool.not_eq_true', decide_eq_false_iff_not] at c; exact c
      rw [stepAt, if_neg (fun q => c q.1)]
      exact ih
    · have c2 : ¬ w.length = (pt k).size + 1 := by
        simp only [bne_iff_ne, ne_eq] at c2; omega
      rw [stepAt, if_neg (fun q => c2 q.2)]
      exact ih
    · have c : D (wd k) = D (w.getD 0 ByteArray.empty) := by
        simp only [Bool.not_eq_true', decide_eq_false_iff_not, Decidable.not_not] at c; exact c
      have c2 : w.length = (pt k).size + 1 := by
        simp only [bne_iff_ne, ne_eq, Decidable.not_not] at c2; omega
      rw [stepAt, if_pos ⟨c, c2⟩]
      refine Ev.bind (step_loop w (pt k) (wd k) (alf_pt (by omega)) c2 hb (by omega) (pt k).size 0 (by omega) ((k : Int), 0, 0, 0, 0, 0, [])) ?_
      intro r hr
      rw [List.drop_zero] at hr
      rcases G_out hr with ⟨e, rfl, he⟩ | ⟨s, rfl, he⟩
      · exact Ev.some he.symm
      · exact Ev.some he.symm
theorem refkinds_loop (w : List ByteArray) (h1 : 1 ≤ w.length) (hl : w.length ≤ 90000) (hb : ∀ x ∈ w, x.size ≤ 90000) : ∀ (d k : Nat) (hk : k + d = 17) (hk1 : 1 ≤ k),
    Ev (fun n => f48_broughamref25_step_L2 n w (k : Int) 0 0 0 0 0 0) (fun r => G2 r = stepAt w d k)
  | 0, k, hk, hk1 => by
    apply Ev.succ
    unfold f48_broughamref25_step_L2
    exact Ev.neg (by simp only [decide_eq_true_eq]; omega) (Ev.some rfl)
  | d + 1, k, hk, hk1 => by
    have ih := refkinds_loop w h1 hl hb d (k + 1) (by omega) (by omega)
    have hp := pt_sz (show k < 17 by omega)
    apply Ev.succ
    unfold f48_broughamref25_step_L2
    rw [i64_id (e := (k : Int) + 1) (by omega) (by omega)]
    refine Ev.pos (by simp only [decide_eq_true_eq]; omega) (Ev.bind (P := fun r => r = (wd k, pt k)) (Ev.of (word_is hk1 (by omega)) rfl) ?_)
    rintro _ rfl
    dsimp only
    rw [str_dec, i64_id (e := (((pt k).size : Nat) : Int) + 1) (by omega) (by omega)]
    refine Ev.guard (by omega) ?_
    refine Ev.ite (fun c => ?_) (fun c => Ev.ite (fun c2 => ?_) (fun c2 => ?_))
    · have c : ¬ D (wd k) = D (w.getD 0 ByteArray.empty) := by
        simp only [Bool.not_eq_true', decide_eq_false_iff_not] at c; exact c
      rw [stepAt, if_neg (fun q => c q.1)]
      exact ih
    · have c2 : ¬ w.length = (pt k).size + 1 := by
        simp only [bne_iff_ne, ne_eq] at c2; omega
      rw [stepAt, if_neg (fun q => c2 q.2)]
      exact ih
    · have c : D (wd k) = D (w.getD 0 ByteArray.empty) := by
        simp only [Bool.not_eq_true', decide_eq_false_iff_not, Decidable.not_not] at c; exact c
      have c2 : w.length = (pt k).size + 1 := by
        simp only [bne_iff_ne, ne_eq, Decidable.not_not] at c2; omega
      rw [stepAt, if_pos ⟨c, c2⟩]
      refine Ev.bind (refstep_loop w (pt k) (alf_pt (by omega)) c2 hb (by omega) (pt k).size 0 (by omega) ((k : Int), 0, 0, 0, 0, 0, [])) ?_
      intro r hr
      rw [List.drop_zero] at hr
      rcases G_out hr with ⟨e, rfl, he⟩ | ⟨s, rfl, he⟩
      · exact Ev.some he.symm
      · exact Ev.some he.symm
def stepB (w : List ByteArray) : Bool × Stp := stepAt w 16 1
theorem step_ev (w : List ByteArray) (h1 : 1 ≤ w.length) (hl : w.length ≤ 90000) (hb : ∀ x ∈ w, x.size ≤ 90000) : Ev (fun n => f46_script_step n w) (fun r => r = stepB w) := by
  unfold f46_script_step
  refine Ev.bind (P := fun r => r = Option.get f70_script_shapes rfl) (Ev.some rfl) ?_
  rintro _ rfl
  refine Ev.bind (P := fun r => G2 r = stepB w) ?_ ?_
  · apply Ev.succ
    unfold f46_script_step_L2
    refine Ev.pos (by decide) (Ev.guard (by decide) (Ev.pos rfl ?_))
    exact kinds_loop w h1 hl hb _ _ _ _ _ _ _ _ _ _ _ _ _ _ _ _ _ _ _ _ _ _ _ _ _ _ _ _ _ _ _ _ _ _ rfl 16 1 rfl (Nat.le_refl 1)
  · intro r hr
    rcases r with e | e
    · exact Ev.some hr
    · exact Ev.some hr
theorem refstep_ev (w : List ByteArray) (h1 : 1 ≤ w.length) (hl : w.length ≤ 90000) (hb : ∀ x ∈ w, x.size ≤ 90000) : Ev (fun n => f48_broughamref25_step n w) (fun r => r = stepB w) := by
  unfold f48_broughamref25_step
  refine Ev.bind (refkinds_loop w h1 hl hb 16 1 rfl (Nat.le_refl 1)) ?_
  intro r hr
  rcases r with e | e
  · exact Ev.some hr
  · exact Ev.some hr
end Go.Proofs.YtakamchmiakicaaDoorF25
