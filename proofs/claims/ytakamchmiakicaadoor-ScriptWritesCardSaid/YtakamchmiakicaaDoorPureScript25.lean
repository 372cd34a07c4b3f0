/- ScriptReads: each text is read as its steps, or refused at its first wrong line: of the functions that text F25 prints. Conditions: none. -/
import Derived.Test.YtakamchmiakicaaDoorPureLib25
namespace Go.Proofs.YtakamchmiakicaaDoorF25
open Go Zed Go.Proofs.YtakamchmiakicaaDoorLeaf
set_option linter.unusedVariables false
set_option linter.unusedSimpArgs false
set_option maxRecDepth 100000

abbrev Stp := Int × Int × Int × Int × Int × Int × List Int
def unw (l : List UInt8) : ByteArray := ⟨l.toArray⟩
theorem unw_D (a : ByteArray) : unw (D a) = a := ext_D rfl
def pieceB (s : ByteArray) : List ByteArray := (pc [] (D s)).map unw
theorem map_unw {r : List ByteArray} {x : List (List UInt8)} (h : r.map D = x) : r = x.map unw := by
  subst h
  rw [List.map_map]
  conv => lhs; rw [← List.map_id r]
  exact List.map_congr_left fun a _ => (unw_D a).symm
theorem pieceB_D (s : ByteArray) : (pieceB s).map D = pc [] (D s) := by
  unfold pieceB
  rw [List.map_map]
  conv => rhs; rw [← List.map_id (pc [] (D s))]
  exact List.map_congr_left fun a _ => rfl
theorem pieceB_ev (s : ByteArray) (hs : s.size ≤ 90000) : Ev (fun n => f15_num_Pieces n s) (fun r => r = pieceB s) := (pieces_ev s hs).mono fun r h => map_unw h
theorem pieceB_ref (s : ByteArray) (hs : s.size ≤ 90000) : Ev (fun n => f19_broughamref01_Pieces n s) (fun r => r = pieceB s) := (refpieces_ev s hs).mono fun r h => map_unw h
theorem mem_sum {l : List (List UInt8)} {x : List UInt8} (h : x ∈ l) : x.length ≤ (l.map List.length).sum := by
  induction l with
  | nil => cases h
  | cons y l ih =>
    rw [List.map_cons, List.sum_cons]
    rcases List.mem_cons.1 h with rfl | h
    · omega
    · have := ih h; omega
theorem pieceB_sz {s x : ByteArray} (h : x ∈ pieceB s) : x.size ≤ s.size := by
  have h1 : D x ∈ pc [] (D s) := by rw [← pieceB_D]; exact List.mem_map_of_mem h
  have h2 := mem_sum h1
  have h3 := (pc_len (D s) []).1
  rw [sz_D, sz_D s]
  simp only [List.length_nil] at h3
  omega
theorem pieceB_len (s : ByteArray) : (pieceB s).length ≤ 1 + s.size := by
  have h3 := (pc_len (D s) []).2
  rw [← pieceB_D, List.length_map] at h3
  rw [sz_D]; exact h3
/-! A step's parts. -/
def setC (c : UInt8) (v : Int) (s : Stp) : Stp :=
  if c = 104 then (s.1, v, s.2.2) else if c = 110 then (s.1, s.2.1, v, s.2.2.2) else if c = 112 then (s.1, s.2.1, s.2.2.1, v, s.2.2.2.2) else if c = 119 then (s.1, s.2.1, s.2.2.1, s.2.2.2.1, v, s.2.2.2.2.2) else (s.1, s.2.1, s.2.2.1, s.2.2.2.1, s.2.2.2.2.1, v, s.2.2.2.2.2.2)
def setB (b : List Int) (s : Stp) : Stp := (s.1, s.2.1, s.2.2.1, s.2.2.2.1, s.2.2.2.2.1, s.2.2.2.2.2.1, b)
def fldC (c : UInt8) (x : ByteArray) (s : Stp) : Option Stp :=
  if c = 98 then (if (unhexR x.data.toList).2 = 0 then some (setB (unhexR x.data.toList).1 s) else none)
  else if (parseR x.data.toList).2 = 0 then some (setC c (parseR x.data.toList).1 s) else none
def fldL : List UInt8 → List ByteArray → Stp → Option Stp
  | [], _, s => some s
  | _ :: _, [], _ => none
  | c :: cs, x :: xs, s => (fldC c x s).bind (fldL cs xs)
def no : Bool × Stp := (false, 0, 0, 0, 0, 0, 0, [])
def okS : Option Stp → Bool × Stp
  | none => no
  | some s => (true, s)
def Alf (l : List UInt8) : Prop := ∀ c ∈ l, c = 104 ∨ c = 110 ∨ c = 112 ∨ c = 119 ∨ c = 107 ∨ c = 98
def G (o : Option Stp) (r : (Bool × Stp) ⊕ (Int × Int × Int × Int × Int × Int × Stp)) : Prop := match o with
  | none => r = .inl no
  | some s => r = .inr (0, 0, 0, 0, 0, 0, s)
theorem part_h (s : Stp) : Ev (fun _ => f71_script_part_v2 ((104 : UInt8).toNat : Int) s.1 s.2.1 s.2.2.1 s.2.2.2.1 s.2.2.2.2.1 s.2.2.2.2.2.1 s.2.2.2.2.2.2) (fun r => r = .inl s) := Ev.some rfl
theorem part_n (s : Stp) : Ev (fun _ => f71_script_part_v2 ((110 : UInt8).toNat : Int) s.1 s.2.1 s.2.2.1 s.2.2.2.1 s.2.2.2.2.1 s.2.2.2.2.2.1 s.2.2.2.2.2.2) (fun r => r = .inr (.inl s)) := Ev.some rfl
theorem part_p (s : Stp) : Ev (fun _ => f71_script_part_v2 ((112 : UInt8).toNat : Int) s.1 s.2.1 s.2.2.1 s.2.2.2.1 s.2.2.2.2.1 s.2.2.2.2.2.1 s.2.2.2.2.2.2) (fun r => r = .inr (.inr (.inl s))) := Ev.some rfl
theorem part_w (s : Stp) : Ev (fun _ => f71_script_part_v2 ((119 : UInt8).toNat : Int) s.1 s.2.1 s.2.2.1 s.2.2.2.1 s.2.2.2.2.1 s.2.2.2.2.2.1 s.2.2.2.2.2.2) (fun r => r = .inr (.inr (.inr (.inl s)))) := Ev.some rfl
theorem part_k (s : Stp) : Ev (fun _ => f71_script_part_v2 ((107 : UInt8).toNat : Int) s.1 s.2.1 s.2.2.1 s.2.2.2.1 s.2.2.2.2.1 s.2.2.2.2.2.1 s.2.2.2.2.2.2) (fun r => r = .inr (.inr (.inr (.inr (.inl s))))) := Ev.some rfl
theorem part_b (s : Stp) : Ev (fun _ => f71_script_part_v2 ((98 : UInt8).toNat : Int) s.1 s.2.1 s.2.2.1 s.2.2.2.1 s.2.2.2.2.1 s.2.2.2.2.2.1 s.2.2.2.2.2.2) (fun r => r = .inr (.inr (.inr (.inr (.inr s))))) := Ev.some rfl
theorem step_loop (w : List ByteArray) (q : ByteArray) (x0 : ByteArray) (ha : Alf (D q)) (hw : w.length = q.size + 1) (hb : ∀ x ∈ w, x.size ≤ 90000) (hq : q.size ≤ 90000) : ∀ (d i : Nat) (hi : i + d = q.size) (s : Stp),
    Ev (fun n => f46_script_step_L7 n w ((q.size : Nat) : Int) (i : Int) 0 0 0 0 0 0 x0 q s.1 s.2.1 s.2.2.1 s.2.2.2.1 s.2.2.2.2.1 s.2.2.2.2.2.1 s.2.2.2.2.2.2) (G (fldL ((D q).drop i) (w.drop (i + 1)) s))
  | 0, i, hi, s => by
    apply Ev.succ
    unfold f46_script_step_L7
    refine Ev.neg (by simp only [decide_eq_true_eq]; omega) (Ev.some ?_)
    rw [List.drop_eq_nil_of_le (by rw [← sz_D]; omega)]
    rfl
  | d + 1, i, hi, s => by
    have hil : i < (D q).length := by rw [← sz_D]; omega
    have hbt : byteAt q (i : Int) = (((D q)[i]'hil).toNat : Int) := byte_at hil
    have hdrop : (D q).drop i = (D q)[i] :: (D q).drop (i + 1) := List.drop_eq_getElem_cons hil
    have hwd : w.drop (i + 1) = w.getD (i + 1) ByteArray.empty :: w.drop (i + 1 + 1) := drop_cons (by omega) _
    have hc := ha _ (List.getElem_mem hil)
    have hx := hb _ (getD_mem (show i + 1 < w.length by omega) ByteArray.empty)
    have ih := fun s' => step_loop w q x0 ha hw hb hq d (i + 1) (by omega) s'
    apply Ev.succ
    unfold f46_script_step_L7
    rw [i64_id (e := (i : Int) + 1) (by omega) (by omega), hbt, show ((i : Int) + 1).toNat = i + 1 by omega, hdrop, hwd]
    generalize (D q)[i] = c at hc
    generalize w.getD (i + 1) ByteArray.empty = x at hx
    refine Ev.pos (by simp only [decide_eq_true_eq]; omega) (Ev.guard (by omega) ?_)
    rcases hc with rfl | rfl | rfl | rfl | rfl | rfl
    · refine Ev.bind (part_h s) ?_
      rintro _ rfl
      refine Ev.guard (by omega) (Ev.bind (parse_ev x (by omega)) ?_)
      rintro _ rfl
      refine Ev.ite (fun c => Ev.some ?_) (fun c => ?_)
      · have e : fldC 104 x s = none := by
          have c : ¬ (parseR x.data.toList).2 = 0 := by simpa using c
          unfold fldC; rw [if_neg (by decide), if_neg c]
        show G ((fldC 104 x s).bind _) _
        rw [e]; rfl
      · have e : fldC 104 x s = some (setC 104 (parseR x.data.toList).1 s) := by
          have c : (parseR x.data.toList).2 = 0 := by simpa using c
          unfold fldC; rw [if_neg (by decide), if_pos c]
        show Ev _ (G ((fldC 104 x s).bind _))
        rw [e]
        exact ih (setC 104 (parseR x.data.toList).1 s)
    · refine Ev.bind (part_n s) ?_
      rintro _ rfl
      refine Ev.guard (by omega) (Ev.bind (parse_ev x (by omega)) ?_)
      rintro _ rfl
      refine Ev.ite (fun c => Ev.some ?_) (fun c => ?_)
      · have e : fldC 110 x s = none := by
          have c : ¬ (parseR x.data.toList).2 = 0 := by simpa using c
          unfold fldC; rw [if_neg (by decide), if_neg c]
        show G ((fldC 110 x s).bind _) _
        rw [e]; rfl
      · have e : fldC 110 x s = some (setC 110 (parseR x.data.toList).1 s) := by
          have c : (parseR x.data.toList).2 = 0 := by simpa using c
          unfold fldC; rw [if_neg (by decide), if_pos c]
        show Ev _ (G ((fldC 110 x s).bind _))
        rw [e]
        exact ih (setC 110 (parseR x.data.toList).1 s)
    · refine Ev.bind (part_p s) ?_
      rintro _ rfl
      refine Ev.guard (by omega) (Ev.bind (parse_ev x (by omega)) ?_)
      rintro _ rfl
      refine Ev.ite (fun c => Ev.some ?_) (fun c => ?_)
      · have e : fldC 112 x s = none := by
          have c : ¬ (parseR x.data.toList).2 = 0 := by simpa using c
          unfold fldC; rw [if_neg (by decide), if_neg c]
        show G ((fldC 112 x s).bind _) _
        rw [e]; rfl
      · have e : fldC 112 x s = some (setC 112 (parseR x.data.toList).1 s) := by
          have c : (parseR x.data.toList).2 = 0 := by simpa using c
          unfold fldC; rw [if_neg (by decide), if_pos c]
        show Ev _ (G ((fldC 112 x s).bind _))
        rw [e]
        exact ih (setC 112 (parseR x.data.toList).1 s)
    · refine Ev.bind (part_w s) ?_
      rintro _ rfl
      refine Ev.guard (by omega) (Ev.bind (parse_ev x (by omega)) ?_)
      rintro _ rfl
      refine Ev.ite (fun c => Ev.some ?_) (fun c => ?_)
      · have e : fldC 119 x s = none := by
          have c : ¬ (parseR x.data.toList).2 = 0 := by simpa using c
          unfold fldC; rw [if_neg (by decide), if_neg c]
        show G ((fldC 119 x s).bind _) _
        rw [e]; rfl
      · have e : fldC 119 x s = some (setC 119 (parseR x.data.toList).1 s) := by
          have c : (parseR x.data.toList).2 = 0 := by simpa using c
          unfold fldC; rw [if_neg (by decide), if_pos c]
        show Ev _ (G ((fldC 119 x s).bind _))
        rw [e]
        exact ih (setC 119 (parseR x.data.toList).1 s)
    · refine Ev.bind (part_k s) ?_
      rintro _ rfl
      refine Ev.guard (by omega) (Ev.bind (parse_ev x (by omega)) ?_)
      rintro _ rfl
      refine Ev.ite (fun c => Ev.some ?_) (fun c => ?_)
      · have e : fldC 107 x s = none := by
          have c : ¬ (parseR x.data.toList).2 = 0 := by simpa using c
          unfold fldC; rw [if_neg (by decide), if_neg c]
        show G ((fldC 107 x s).bind _) _
        rw [e]; rfl
      · have e : fldC 107 x s = some (setC 107 (parseR x.data.toList).1 s) := by
          have c : (parseR x.data.toList).2 = 0 := by simpa using c
          unfold fldC; rw [if_neg (by decide), if_pos c]
        show Ev _ (G ((fldC 107 x s).bind _))
        rw [e]
        exact ih (setC 107 (parseR x.data.toList).1 s)
    · refine Ev.bind (part_b s) ?_
      rintro _ rfl
      refine Ev.guard (by omega) (Ev.bind (unhex_is x hx) ?_)
      rintro _ rfl
      refine Ev.ite (fun c => Ev.some ?_) (fun c => ?_)
      · have e : fldC 98 x s = none := by
          have c : ¬ (unhexR x.data.toList).2 = 0 := by simpa using c
          unfold fldC; rw [if_pos rfl, if_neg c]
        show G ((fldC 98 x s).bind _) _
        rw [e]; rfl
      · have e : fldC 98 x s = some (setB (unhexR x.data.toList).1 s) := by
          have c : (unhexR x.data.toList).2 = 0 := by simpa using c
          unfold fldC; rw [if_pos rfl, if_pos c]
        show Ev _ (G ((fldC 98 x s).bind _))
        rw [e]
        exact ih (setB (unhexR x.data.toList).1 s)
theorem set_is (c : UInt8) (hc : c = 104 ∨ c = 110 ∨ c = 112 ∨ c = 119 ∨ c = 107) (v : Int) (s : Stp) : Ev (fun _ => f80_broughamref25_set s.1 s.2.1 s.2.2.1 s.2.2.2.1 s.2.2.2.2.1 s.2.2.2.2.2.1 s.2.2.2.2.2.2 (c.toNat : Int) v) (fun r => r = setC c v s) := by
  rcases hc with rfl | rfl | rfl | rfl | rfl <;> exact Ev.some rfl
theorem refstep_loop (w : List ByteArray) (q : ByteArray) (ha : Alf (D q)) (hw : w.length = q.size + 1) (hb : ∀ x ∈ w, x.size ≤ 90000) (hq : q.size ≤ 90000) : ∀ (d i : Nat) (hi : i + d = q.size) (s : Stp),
    Ev (fun n => f48_broughamref25_step_L8 n w q (i : Int) 0 0 0 0 0 0 s.1 s.2.1 s.2.2.1 s.2.2.2.1 s.2.2.2.2.1 s.2.2.2.2.2.1 s.2.2.2.2.2.2) (G (fldL ((D q).drop i) (w.drop (i + 1)) s))
  | 0, i, hi, s => by
    apply Ev.succ
    unfold f48_broughamref25_step_L8
    refine Ev.neg (by simp only [decide_eq_true_eq]; omega) (Ev.some ?_)
    rw [List.drop_eq_nil_of_le (by rw [← sz_D]; omega)]
    rfl
  | d + 1, i, hi, s => by
    have hil : i < (D q).length := by rw [← sz_D]; omega
    have hbt : byteAt q (i : Int) = (((D q)[i]'hil).toNat : Int) := byte_at hil
    have hdrop : (D q).drop i = (D q)[i] :: (D q).drop (i + 1) := List.drop_eq_getElem_cons hil
    have hwd : w.drop (i + 1) = w.getD (i + 1) ByteArray.empty :: w.drop (i + 1 + 1) := drop_cons (by omega) _
    have hc := ha _ (List.getElem_mem hil)
    have hx := hb _ (getD_mem (show i + 1 < w.length by omega) ByteArray.empty)
    have ih := fun s' => refstep_loop w q ha hw hb hq d (i + 1) (by omega) s'
    apply Ev.succ
    unfold f48_broughamref25_step_L8
    rw [i64_id (e := (i : Int) + 1) (by omega) (by omega), hbt, show ((i : Int) + 1).toNat = i + 1 by omega, hdrop, hwd]
    generalize (D q)[i] = c at hc
    generalize w.getD (i + 1) ByteArray.empty = x at hx
    have h98 : (98 : UInt8).toNat = 98 := rfl
    refine Ev.pos (by simp only [decide_eq_true_eq]; omega) (Ev.guard (by omega) (Ev.ite (fun c0 => Ev.guard (by omega) ?_) (fun c0 => Ev.guard (by omega) ?_)))
    · have e0 : c = 98 := UInt8.toNat_inj.1 (by simp only [beq_iff_eq] at c0; omega)
      subst e0
      refine Ev.bind (refunhex_is x hx) ?_
      rintro _ rfl
      refine Ev.ite (fun c => Ev.some ?_) (fun c => ?_)
      · have e : fldC 98 x s = none := by
          have c : ¬ (unhexR x.data.toList).2 = 0 := by simpa using c
          unfold fldC; rw [if_pos rfl, if_neg c]
        show G ((fldC 98 x s).bind _) _
        rw [e]; rfl
      · have e : fldC 98 x s = some (setB (unhexR x.data.toList).1 s) := by
          have c : (unhexR x.data.toList).2 = 0 := by simpa using c
          unfold fldC; rw [if_pos rfl, if_pos c]
        show Ev _ (G ((fldC 98 x s).bind _))
        rw [e]
        exact ih (setB (unhexR x.data.toList).1 s)
    · have e0 : ¬ c = 98 := fun e => c0 (by rw [e]; rfl)
      have hc : c = 104 ∨ c = 110 ∨ c = 112 ∨ c = 119 ∨ c = 107 := by
        rcases hc with h | h | h | h | h | h
        · exact .inl h
        · exact .inr (.inl h)
        · exact .inr (.inr (.inl h))
        · exact .inr (.inr (.inr (.inl h)))
        · exact .inr (.inr (.inr (.inr h)))
        · exact absurd h e0
      refine Ev.bind (refparse_is x) ?_
      rintro _ rfl
      refine Ev.guard (by omega) (Ev.bind (set_is c hc _ s) ?_)
      rintro _ rfl
      refine Ev.ite (fun c1 => Ev.some ?_) (fun c1 => ?_)
      · have e : fldC c x s = none := by
          have c1 : ¬ (parseR x.data.toList).2 = 0 := by simpa using c1
          unfold fldC; rw [if_neg e0, if_neg c1]
        show G ((fldC c x s).bind _) _
        rw [e]; rfl
      · have e : fldC c x s = some (setC c (parseR x.data.toList).1 s) := by
          have c1 : (parseR x.data.toList).2 = 0 := by simpa using c1
          unfold fldC; rw [if_neg e0, if_pos c1]
        show Ev _ (G ((fldC c x s).bind _))
        rw [e]
        exact ih (setC c (parseR x.data.toList).1 s)
/-! The kinds. -/
def tb : List ByteArray := [⟨#[]⟩, ⟨#[]⟩, ⟨#[108, 105, 115, 116, 101, 110]⟩, ⟨#[104, 110]⟩, ⟨#[99, 111, 110, 110, 101, 99, 116]⟩, ⟨#[104, 110, 112, 119]⟩, ⟨#[97, 99, 99, 101, 112, 116]⟩, ⟨#[104, 110]⟩, ⟨#[119, 114, 105, 116, 101]⟩, ⟨#[104, 110, 98]⟩, ⟨#[114, 101, 97, 100]⟩, ⟨#[104, 110, 107]⟩, ⟨#[99, 108, 111, 115, 101]⟩, ⟨#[104, 110]⟩, ⟨#[97, 98, 111, 114, 116]⟩, ⟨#[104, 110]⟩, ⟨#[114, 101, 108, 101, 97, 115, 101]⟩, ⟨#[104, 110]⟩, ⟨#[111, 102, 102, 101, 114]⟩, ⟨#[104, 110, 119]⟩, ⟨#[116, 105, 99, 107]⟩, ⟨#[107]⟩, ⟨#[100, 101, 108, 105, 118, 101, 114]⟩, ⟨#[107]⟩, ⟨#[100, 114, 111, 112]⟩, ⟨#[107]⟩, ⟨#[99, 111, 112, 121]⟩, ⟨#[107]⟩, ⟨#[114, 101, 112, 108, 97, 121]⟩, ⟨#[119, 107]⟩, ⟨#[114, 101, 102, 108, 101, 99, 116]⟩, ⟨#[119, 107]⟩, ⟨#[105, 110, 106, 101, 99, 116]⟩, ⟨#[104, 119, 98]⟩]
def wd (k : Nat) : ByteArray := tb.getD (k * 2 + 0) ByteArray.empty
def pt (k : Nat) : ByteArray := tb.getD (k * 2 + 1) ByteArray.empty
theorem alf_fin : ∀ k : Fin 17, ∀ c ∈ D (pt k.val), c = 104 ∨ c = 110 ∨ c = 112 ∨ c = 119 ∨ c = 107 ∨ c = 98 := by decide
theorem alf_pt {k : Nat} (h : k < 17) : Alf (D (pt k)) := alf_fin ⟨k, h⟩
theorem pt_fin : ∀ k : Fin 17, (pt k.val).size ≤ 4 := by decide
theorem pt_sz {k : Nat} (h : k < 17) : (pt k).size ≤ 4 := pt_fin ⟨k, h⟩
theorem word_fin : ∀ k : Fin 17, 1 ≤ k.val → f73_broughamref25_word (k.val : Int) = some (wd k.val, pt k.val)
  | ⟨0, _⟩, h => absurd h (Nat.not_succ_le_zero 0)
  | ⟨1, _⟩, _ => rfl
  | ⟨2, _⟩, _ => rfl
  | ⟨3, _⟩, _ => rfl
  | ⟨4, _⟩, _ => rfl
  | ⟨5, _⟩, _ => rfl
  | ⟨6, _⟩, _ => rfl
  | ⟨7, _⟩, _ => rfl
  | ⟨8, _⟩, _ => rfl
  | ⟨9, _⟩, _ => rfl
  | ⟨10, _⟩, _ => rfl
  | ⟨11, _⟩, _ => rfl
  | ⟨12, _⟩, _ => rfl
  | ⟨13, _⟩, _ => rfl
  | ⟨14, _⟩, _ => rfl
  | ⟨15, _⟩, _ => rfl
  | ⟨16, _⟩, _ => rfl
  | ⟨n + 17, h⟩, _ => absurd h (by omega)
theorem word_is {k : Nat} (h1 : 1 ≤ k) (h : k < 17) : f73_broughamref25_word (k : Int) = some (wd k, pt k) := word_fin ⟨k, h⟩ h1
def stepAt (w : List ByteArray) : Nat → Nat → Bool × Stp
  | 0, _ => no
  | d + 1, k => if D (wd k) = D (w.getD 0 ByteArray.empty) ∧ w.length = (pt k).size + 1 then okS (fldL (D (pt k)) (w.drop 1) ((k : Int), 0, 0, 0, 0, 0, [])) else stepAt w d (k + 1)
def G2 (r : (Bool × Stp) ⊕ (Int × Int × Int × Int × Int × Int)) : Bool × Stp := match r with
  | .inl e => e
  | .inr _ => no
theorem G_out {o : Option Stp} {r} (h : G o r) : (∃ e, r = .inl e ∧ okS o = e) ∨ (∃ s, r = .inr (0, 0, 0, 0, 0, 0, s) ∧ okS o = (true, s)) := by
  cases o with
  | none => exact .inl ⟨no, h, rfl⟩
  | some s => exact .inr ⟨s, h, rfl⟩
theorem kinds_loop (w : List ByteArray) (h1 : 1 ≤ w.length) (hl : w.length ≤ 90000) (hb : ∀ x ∈ w, x.size ≤ 90000) (t_0 t_1 t_2 t_3 t_4 t_5 t_6 t_7 t_8 t_9 t_10 t_11 t_12 t_13 t_14 t_15 t_16 t_17 t_18 t_19 t_20 t_21 t_22 t_23 t_24 t_25 t_26 t_27 t_28 t_29 t_30 t_31 t_32 t_33 : ByteArray) (ht : [t_0, t_1, t_2, t_3, t_4, t_5, t_6, t_7, t_8, t_9, t_10, t_11, t_12, t_13, t_14, t_15, t_16, t_17, t_18, t_19, t_20, t_21, t_22, t_23, t_24, t_25, t_26, t_27, t_28, t_29, t_30, t_31, t_32, t_33] = tb) : ∀ (d k : Nat) (hk : k + d = 17) (hk1 : 1 ≤ k),
    Ev (fun n => f46_script_step_L2 n w t_0 t_1 t_2 t_3 t_4 t_5 t_6 t_7 t_8 t_9 t_10 t_11 t_12 t_13 t_14 t_15 t_16 t_17 t_18 t_19 t_20 t_21 t_22 t_23 t_24 t_25 t_26 t_27 t_28 t_29 t_30 t_31 t_32 t_33 (k : Int) 0 0 0 0 0 0) (fun r => G2 r = stepAt w d k)
  | 0, k, hk, hk1 => by
    apply Ev.succ
    unfold f46_script_step_L2
    exact Ev.neg (by simp only [decide_eq_true_eq]; omega) (Ev.some rfl)
  | d + 1, k, hk, hk1 => by
    have ih := kinds_loop w h1 hl hb t_0 t_1 t_2 t_3 t_4 t_5 t_6 t_7 t_8 t_9 t_10 t_11 t_12 t_13 t_14 t_15 t_16 t_17 t_18 t_19 t_20 t_21 t_22 t_23 t_24 t_25 t_26 t_27 t_28 t_29 t_30 t_31 t_32 t_33 ht d (k + 1) (by omega) (by omega)
    have hp := pt_sz (show k < 17 by omega)
    apply Ev.succ
    unfold f46_script_step_L2
    rw [ht, i64_id (e := (k : Int) + 1) (by omega) (by omega), Int.toNat_natCast]
    rw [show tb.getD (k * 2 + 0) ByteArray.empty = wd k from rfl, show tb.getD (k * 2 + 1) ByteArray.empty = pt k from rfl, str_dec, i64_id (e := 1 + (((pt k).size : Nat) : Int)) (by omega) (by omega)]
    refine Ev.pos (by simp only [decide_eq_true_eq]; omega) (Ev.guard (by omega) (Ev.neg (by simp only [beq_iff_eq]; omega) (Ev.guard (by omega) ?_)))
    refine Ev.ite (fun c => ?_) (fun c => Ev.ite (fun c2 => ?_) (fun c2 => ?_))
    · have c : ¬ D (wd k) = D (w.getD 0 ByteArray.empty) := by
        simp only [Bool.not_eq_true', decide_eq_false_iff_not] at c; exact c
      rw [stepAt, if_neg (fun q => c q.1)]
      exact ih
    · have c2 : ¬ w.length = (pt k).size + 1 := by
        simp only [bne_iff_ne, ne_eq] at c2; omega
      rw [stepAt, if_neg (fun q => c2 q.2)]
      exact ih
    · have c : D (wd k) = D (w.getD 0 ByteArray.empty) := by
        simp only [Bool.not_eq_true', decide_eq_false_iff_not, Decidable.not_not] at c; exact c
      have c2 : w.length = (pt k).size + 1 := by
        simp only [bne_iff_ne, ne_eq, Decidable.not_not] at c2; omega
      rw [stepAt, if_pos ⟨c, c2⟩]
      refine Ev.bind (step_loop w (pt k) (wd k) (alf_pt (by omega)) c2 hb (by omega) (pt k).size 0 (by omega) ((k : Int), 0, 0, 0, 0, 0, [])) ?_
      intro r hr
      rw [List.drop_zero] at hr
      rcases G_out hr with ⟨e, rfl, he⟩ | ⟨s, rfl, he⟩
      · exact Ev.some he.symm
      · exact Ev.some he.symm
theorem refkinds_loop (w : List ByteArray) (h1 : 1 ≤ w.length) (hl : w.length ≤ 90000) (hb : ∀ x ∈ w, x.size ≤ 90000) : ∀ (d k : Nat) (hk : k + d = 17) (hk1 : 1 ≤ k),
    Ev (fun n => f48_broughamref25_step_L2 n w (k : Int) 0 0 0 0 0 0) (fun r => G2 r = stepAt w d k)
  | 0, k, hk, hk1 => by
    apply Ev.succ
    unfold f48_broughamref25_step_L2
    exact Ev.neg (by simp only [decide_eq_true_eq]; omega) (Ev.some rfl)
  | d + 1, k, hk, hk1 => by
    have ih := refkinds_loop w h1 hl hb d (k + 1) (by omega) (by omega)
    have hp := pt_sz (show k < 17 by omega)
    apply Ev.succ
    unfold f48_broughamref25_step_L2
    rw [i64_id (e := (k : Int) + 1) (by omega) (by omega)]
    refine Ev.pos (by simp only [decide_eq_true_eq]; omega) (Ev.bind (P := fun r => r = (wd k, pt k)) (Ev.of (word_is hk1 (by omega)) rfl) ?_)
    rintro _ rfl
    dsimp only
    rw [str_dec, i64_id (e := (((pt k).size : Nat) : Int) + 1) (by omega) (by omega)]
    refine Ev.guard (by omega) ?_
    refine Ev.ite (fun c => ?_) (fun c => Ev.ite (fun c2 => ?_) (fun c2 => ?_))
    · have c : ¬ D (wd k) = D (w.getD 0 ByteArray.empty) := by
        simp only [Bool.not_eq_true', decide_eq_false_iff_not] at c; exact c
      rw [stepAt, if_neg (fun q => c q.1)]
      exact ih
    · have c2 : ¬ w.length = (pt k).size + 1 := by
        simp only [bne_iff_ne, ne_eq] at c2; omega
      rw [stepAt, if_neg (fun q => c2 q.2)]
      exact ih
    · have c : D (wd k) = D (w.getD 0 ByteArray.empty) := by
        simp only [Bool.not_eq_true', decide_eq_false_iff_not, Decidable.not_not] at c; exact c
      have c2 : w.length = (pt k).size + 1 := by
        simp only [bne_iff_ne, ne_eq, Decidable.not_not] at c2; omega
      rw [stepAt, if_pos ⟨c, c2⟩]
      refine Ev.bind (refstep_loop w (pt k) (alf_pt (by omega)) c2 hb (by omega) (pt k).size 0 (by omega) ((k : Int), 0, 0, 0, 0, 0, [])) ?_
      intro r hr
      rw [List.drop_zero] at hr
      rcases G_out hr with ⟨e, rfl, he⟩ | ⟨s, rfl, he⟩
      · exact Ev.some he.symm
      · exact Ev.some he.symm
def stepB (w : List ByteArray) : Bool × Stp := stepAt w 16 1
theorem step_ev (w : List ByteArray) (h1 : 1 ≤ w.length) (hl : w.length ≤ 90000) (hb : ∀ x ∈ w, x.size ≤ 90000) : Ev (fun n => f46_script_step n w) (fun r => r = stepB w) := by
  unfold f46_script_step
  refine Ev.bind (P := fun r => r = Option.get f70_script_shapes rfl) (Ev.some rfl) ?_
  rintro _ rfl
  refine Ev.bind (P := fun r => G2 r = stepB w) ?_ ?_
  · apply Ev.succ
    unfold f46_script_step_L2
    refine Ev.pos (by decide) (Ev.guard (by decide) (Ev.pos rfl ?_))
    exact kinds_loop w h1 hl hb _ _ _ _ _ _ _ _ _ _ _ _ _ _ _ _ _ _ _ _ _ _ _ _ _ _ _ _ _ _ _ _ _ _ rfl 16 1 rfl (Nat.le_refl 1)
  · intro r hr
    rcases r with e | e
    · exact Ev.some hr
    · exact Ev.some hr
theorem refstep_ev (w : List ByteArray) (h1 : 1 ≤ w.length) (hl : w.length ≤ 90000) (hb : ∀ x ∈ w, x.size ≤ 90000) : Ev (fun n => f48_broughamref25_step n w) (fun r => r = stepB w) := by
  unfold f48_broughamref25_step
  refine Ev.bind (refkinds_loop w h1 hl hb 16 1 rfl (Nat.le_refl 1)) ?_
  intro r hr
  rcases r with e | e
  · exact Ev.some hr
  · exact Ev.some hr

/-- What stands between bytes c. -/
def sp (c : UInt8) (now : List UInt8) : List UInt8 → List (List UInt8)
  | [] => [now]
  | x :: r => if x = c then now :: sp c [] r else sp c (now ++ [x]) r
theorem sp_no (c : UInt8) : ∀ (l now : List UInt8), c ∉ l → sp c now l = [now ++ l]
  | [], now, h => by rw [List.append_nil]; rfl
  | x :: r, now, h => by
    have hx : ¬ x = c := fun e => h (by rw [e]; exact List.mem_cons_self)
    rw [sp, if_neg hx, sp_no c r _ (fun q => h (List.mem_cons_of_mem _ q)), List.append_assoc]; rfl
theorem sp_at (c : UInt8) : ∀ (a r now : List UInt8), c ∉ a → sp c now (a ++ c :: r) = (now ++ a) :: sp c [] r
  | [], r, now, h => by rw [List.nil_append, sp, if_pos rfl, List.append_nil]
  | x :: a, r, now, h => by
    have hx : ¬ x = c := fun e => h (by rw [e]; exact List.mem_cons_self)
    rw [List.cons_append, sp, if_neg hx, sp_at c a r _ (fun q => h (List.mem_cons_of_mem _ q)), List.append_assoc]; rfl
theorem splitK_sp (c : UInt8) : ∀ (k : Nat) (l : List UInt8), l.count c ≤ k → Lib.splitK [c] 0 k l = sp c [] l
  | 0, l, h => by
    have hn : c ∉ l := fun hm => by have := List.count_pos_iff.2 hm; omega
    rw [sp_no c l [] hn, List.nil_append]
    rfl
  | k + 1, l, h => by
    rw [Lib.splitK, Lib.index_one]
    rcases byte_cases l c with e | ⟨o, e⟩
    · rw [e, if_pos (by decide), sp_no c l [] (byte_none e)]; rfl
    · obtain ⟨h1, h2, h3⟩ := byte_some e
      rw [e, if_neg (by rw [beq_iff_eq]; omega), Int.toNat_natCast, Nat.add_zero]
      have hc : l.count c = (l.drop (o + 1)).count c + 1 := by
        conv => lhs; rw [h1]
        rw [List.count_append, List.count_eq_zero.2 h2, List.count_cons_self]; omega
      show l.take o :: Lib.splitK [c] 0 k (l.drop (o + 1)) = _
      rw [splitK_sp c k _ (by omega)]
      conv => rhs; rw [h1]
      rw [sp_at c _ _ [] h2]; rfl
theorem split_sp (s : ByteArray) (c : UInt8) : (splitS s ⟨#[c]⟩).map D = sp c [] (D s) := by
  unfold splitS
  have e : (Lib.splitB ⟨#[c]⟩ 0 (Lib.countB s ⟨#[c]⟩) s).map D = Lib.splitK [c] 0 (Lib.countB s ⟨#[c]⟩) (D s) := Lib.splitB_data ⟨#[c]⟩ 0 _ s
  rw [e, splitK_sp c _ (D s) (by rw [countB_cut]; exact Nat.le_refl _)]
def linesB (s : ByteArray) : List ByteArray := (sp 10 [] (D s)).map unw
theorem split_lines (s : ByteArray) : splitS s ⟨#[10]⟩ = linesB s := map_unw (split_sp s 10)
theorem sp_len (c : UInt8) : ∀ (l now : List UInt8), (sp c now l).length ≤ 1 + l.length ∧ ∀ x ∈ sp c now l, x.length ≤ now.length + l.length
  | [], now => by
    refine ⟨Nat.le_refl _, fun x hx => ?_⟩
    simp only [sp, List.mem_singleton] at hx
    subst hx; simp
  | y :: r, now => by
    rw [sp]
    split
    · obtain ⟨h1, h2⟩ := sp_len c r []
      refine ⟨by simp only [List.length_cons]; omega, fun x hx => ?_⟩
      rcases List.mem_cons.1 hx with rfl | hx
      · omega
      · have := h2 x hx
        simp only [List.length_cons, List.length_nil] at this ⊢; omega
    · obtain ⟨h1, h2⟩ := sp_len c r (now ++ [y])
      refine ⟨by simp only [List.length_cons]; omega, fun x hx => ?_⟩
      have := h2 x hx
      simp only [List.length_append, List.length_cons, List.length_nil] at this ⊢; omega
theorem lines_len (s : ByteArray) : (linesB s).length ≤ 1 + s.size := by
  unfold linesB
  rw [List.length_map, sz_D]
  exact (sp_len 10 (D s) []).1
theorem lines_sz {s x : ByteArray} (h : x ∈ linesB s) : x.size ≤ s.size := by
  obtain ⟨y, hy, rfl⟩ := List.mem_map.1 h
  have := (sp_len 10 (D s) []).2 y hy
  rw [sz_D, sz_D s]
  simp only [List.length_nil] at this
  show y.length ≤ _
  omega
theorem ext_D_is (s : ByteArray) (a b : Nat) (h : a ≤ b) : D (s.extract a b) = ((D s).drop a).take (b - a) := by
  show (s.extract a b).data.toList = _
  rw [Lib.extract_data]; rfl
theorem reflines_loop (s : ByteArray) (hs : s.size ≤ 90000) : ∀ (d i : Nat) (hi : i + d = s.size) (out : List ByteArray) (fr : Nat) (hf : fr ≤ i) (ho : out.length ≤ i),
    Ev (fun n => f47_broughamref01_Lines_L4 n s out (fr : Int) (i : Int)) (fun w => ∃ f : Nat, w.1 = s ∧ w.2.2 = (f : Int) ∧ f ≤ s.size ∧ w.2.1.length ≤ s.size ∧ w.2.1.map D ++ [(D s).drop f] = out.map D ++ sp 10 (((D s).drop fr).take (i - fr)) ((D s).drop i))
  | 0, i, hi, out, fr, hf, ho => by
    apply Ev.succ
    unfold f47_broughamref01_Lines_L4
    refine Ev.neg (by simp only [decide_eq_true_eq]; omega) (Ev.some ⟨fr, rfl, rfl, by omega, by show out.length ≤ _; omega, ?_⟩)
    have hD : (D s).length = s.size := (sz_D s).symm
    rw [List.drop_eq_nil_of_le (show (D s).length ≤ i by omega), List.take_of_length_le (by rw [List.length_drop]; omega)]
    rfl
  | d + 1, i, hi, out, fr, hf, ho => by
    have hD : (D s).length = s.size := (sz_D s).symm
    have hil : i < (D s).length := by omega
    have hbt : byteAt s (i : Int) = (((D s)[i]'hil).toNat : Int) := byte_at hil
    have hdrop : (D s).drop i = (D s)[i] :: (D s).drop (i + 1) := List.drop_eq_getElem_cons hil
    apply Ev.succ
    unfold f47_broughamref01_Lines_L4
    rw [i64_id (e := (i : Int) + 1) (by omega) (by omega), hbt, Int.toNat_natCast, Int.toNat_natCast, hdrop, sp]
    have hnow : ((D s).drop fr).take (i + 1 - fr) = ((D s).drop fr).take (i - fr) ++ [(D s)[i]] := by
      rw [show i + 1 - fr = (i - fr) + 1 by omega, List.take_add_one, List.getElem?_drop, show fr + (i - fr) = i by omega, List.getElem?_eq_getElem hil]; rfl
    have ih1 := reflines_loop s hs d (i + 1) (by omega) (out ++ [s.extract fr i]) (i + 1) (by omega) (by simp; omega)
    have ih2 := reflines_loop s hs d (i + 1) (by omega) out fr (by omega) (by omega)
    rw [hnow] at ih2
    generalize hx : (D s)[i] = x at *
    have h10 : (10 : UInt8).toNat = 10 := rfl
    refine Ev.pos (by simp only [decide_eq_true_eq]; omega) (Ev.guard (by omega) (Ev.ite (fun c => ?_) (fun c => ?_)))
    · have e : x = 10 := UInt8.toNat_inj.1 (by simp only [beq_iff_eq] at c; omega)
      rw [if_pos e]
      refine Ev.guard (by simp [cutOk]; omega) (Ev.guard (by simp only [List.length_singleton, maxLen]; omega) (ih1.mono ?_))
      rintro w ⟨f, h1, h2, h3, h4, h5⟩
      refine ⟨f, h1, h2, h3, h4, ?_⟩
      rw [h5, Nat.sub_self, List.take_zero, List.map_append, List.append_assoc]
      show _ ++ ([D (s.extract fr i)] ++ _) = _
      rw [ext_D_is s fr i hf]; rfl
    · have e : ¬ x = 10 := fun e => c (by rw [e]; rfl)
      rw [if_neg e]
      exact ih2
theorem reflines_ev (s : ByteArray) (hs : s.size ≤ 90000) : Ev (fun n => f47_broughamref01_Lines n s) (fun r => r = linesB s) := by
  unfold f47_broughamref01_Lines
  refine Ev.bind (reflines_loop s hs s.size 0 (by omega) [] 0 (Nat.le_refl 0) (by simp)) ?_
  rintro ⟨w1, w2, w3⟩ ⟨f, h1, h2, h3, h4, h5⟩
  dsimp only at h1 h2 h4 h5 ⊢
  subst h1 h2
  rw [Int.toNat_natCast]
  refine Ev.guard (by simp [cutOk]; omega) (Ev.guard (by simp only [List.length_singleton, maxLen]; omega) (Ev.some (map_unw ?_)))
  rw [List.map_append]
  show _ ++ [D (w1.extract f w1.size)] = _
  rw [ext_D_is w1 f w1.size h3, List.take_of_length_le (by rw [List.length_drop, ← sz_D]; omega), h5]
  rfl
/-! The texts. -/
def parseL : List ByteArray → Nat → List Stp → List Stp × Int × Int
  | [], _, out => (out, 0, 0)
  | l :: ls, i, out => if pieceB l = [] then parseL ls (i + 1) out
    else if (stepB (pieceB l)).1 = false ∨ out.length = 512 then ([], ((i : Int) + 1), 230)
    else parseL ls (i + 1) (out ++ [(stepB (pieceB l)).2])
def G3 (r : (List Stp × Int × Int) ⊕ (List Stp)) : List Stp × Int × Int := match r with
  | .inl e => e
  | .inr o => (o, 0, 0)
theorem parse_loop (L : List ByteArray) (hl : L.length ≤ 90000) (hb : ∀ x ∈ L, x.size ≤ 80000) : ∀ (d i : Nat) (hi : i + d = L.length) (out : List Stp) (ho : out.length ≤ 512),
    Ev (fun n => f11_script_Parse_L5 n out L ((L.length : Nat) : Int) (i : Int)) (fun r => G3 r = parseL (L.drop i) i out)
  | 0, i, hi, out, ho => by
    apply Ev.succ
    unfold f11_script_Parse_L5
    rw [List.drop_eq_nil_of_le (by omega)]
    exact Ev.neg (by simp only [decide_eq_true_eq]; omega) (Ev.some rfl)
  | d + 1, i, hi, out, ho => by
    have hx := hb _ (getD_mem (show i < L.length by omega) ByteArray.empty)
    have hdr : L.drop i = L.getD i ByteArray.empty :: L.drop (i + 1) := drop_cons (by omega) _
    have ih := fun out' ho' => parse_loop L hl hb d (i + 1) (by omega) out' ho'
    apply Ev.succ
    unfold f11_script_Parse_L5
    rw [i64_id (e := (i : Int) + 1) (by omega) (by omega), Int.toNat_natCast, hdr, parseL]
    generalize L.getD i ByteArray.empty = x at hx
    refine Ev.pos (by simp only [decide_eq_true_eq]; omega) (Ev.guard (by omega) (Ev.bind (pieceB_ev x (by omega)) ?_))
    rintro _ rfl
    have hpl := pieceB_len x
    have hpb : ∀ y ∈ pieceB x, y.size ≤ 90000 := fun y hy => by have := pieceB_sz hy; omega
    refine Ev.ite (fun c => ?_) (fun c => ?_)
    · have c : pieceB x = [] := List.eq_nil_of_length_eq_zero (by simp only [beq_iff_eq] at c; omega)
      rw [if_pos c]
      exact ih out ho
    · have c : ¬ (pieceB x).length = 0 := by simp only [beq_iff_eq] at c; omega
      rw [if_neg (fun e => c (by rw [e]; rfl))]
      refine Ev.bind (step_ev (pieceB x) (by omega) (by omega) hpb) ?_
      rintro _ rfl
      generalize stepB (pieceB x) = v
      refine Ev.ite (fun c1 => Ev.some ?_) (fun c1 => Ev.ite (fun c2 => Ev.some ?_) (fun c2 => Ev.guard (by simp only [List.length_singleton, maxLen]; omega) ?_))
      · rw [if_pos (.inl (by simpa using c1))]; rfl
      · rw [if_pos (.inr (by simp only [beq_iff_eq] at c2; omega))]; rfl
      · have c2 : ¬ out.length = 512 := by simp only [beq_iff_eq] at c2; omega
        rw [if_neg (by rintro (q | q); exact c1 (by rw [q]; rfl); exact c2 q)]
        exact ih _ (by simp; omega)
theorem refparse_loop2 (L : List ByteArray) (hl : L.length ≤ 90000) (hb : ∀ x ∈ L, x.size ≤ 80000) : ∀ (d i : Nat) (hi : i + d = L.length) (out : List Stp) (ho : out.length ≤ 512),
    Ev (fun n => f12_broughamref25_Parse_L6 n out L (i : Int)) (fun r => G3 r = parseL (L.drop i) i out)
  | 0, i, hi, out, ho => by
    apply Ev.succ
    unfold f12_broughamref25_Parse_L6
    rw [List.drop_eq_nil_of_le (by omega)]
    exact Ev.neg (by simp only [decide_eq_true_eq]; omega) (Ev.some rfl)
  | d + 1, i, hi, out, ho => by
    have hx := hb _ (getD_mem (show i < L.length by omega) ByteArray.empty)
    have hdr : L.drop i = L.getD i ByteArray.empty :: L.drop (i + 1) := drop_cons (by omega) _
    have ih := fun out' ho' => refparse_loop2 L hl hb d (i + 1) (by omega) out' ho'
    apply Ev.succ
    unfold f12_broughamref25_Parse_L6
    rw [i64_id (e := (i : Int) + 1) (by omega) (by omega), Int.toNat_natCast, hdr, parseL]
    generalize L.getD i ByteArray.empty = x at hx
    refine Ev.pos (by simp only [decide_eq_true_eq]; omega) (Ev.guard (by omega) (Ev.bind (pieceB_ref x (by omega)) ?_))
    rintro _ rfl
    have hpl := pieceB_len x
    have hpb : ∀ y ∈ pieceB x, y.size ≤ 90000 := fun y hy => by have := pieceB_sz hy; omega
    refine Ev.ite (fun c => ?_) (fun c => ?_)
    · have c : pieceB x = [] := List.eq_nil_of_length_eq_zero (by simp only [beq_iff_eq] at c; omega)
      rw [if_pos c]
      exact ih out ho
    · have c : ¬ (pieceB x).length = 0 := by simp only [beq_iff_eq] at c; omega
      rw [if_neg (fun e => c (by rw [e]; rfl))]
      refine Ev.bind (refstep_ev (pieceB x) (by omega) (by omega) hpb) ?_
      rintro _ rfl
      generalize stepB (pieceB x) = v
      refine Ev.ite (fun c1 => Ev.some ?_) (fun c1 => Ev.ite (fun c2 => Ev.some ?_) (fun c2 => Ev.guard (by simp only [List.length_singleton, maxLen]; omega) ?_))
      · rw [if_pos (.inl (by simpa using c1))]; rfl
      · rw [if_pos (.inr (by simp only [beq_iff_eq] at c2; omega))]; rfl
      · have c2 : ¬ out.length = 512 := by simp only [beq_iff_eq] at c2; omega
        rw [if_neg (by rintro (q | q); exact c1 (by rw [q]; rfl); exact c2 q)]
        exact ih _ (by simp; omega)
/-- The steps of a text, or the line that is wrong. -/
def parseT (s : ByteArray) : List Stp × Int × Int := if s.size > 65536 then ([], 0, 230) else parseL (linesB s) 0 []
theorem parseT_ev (s : ByteArray) (hs : s.size ≤ 9223372036854775807) : Ev (fun n => f11_script_Parse n s) (fun r => r = parseT s) := by
  unfold f11_script_Parse parseT
  refine Ev.ite (fun c => Ev.some ?_) (fun c => ?_)
  · simp only [decide_eq_true_eq] at c
    rw [if_pos (by omega)]
  simp only [decide_eq_true_eq] at c
  rw [if_neg (by omega)]
  refine Ev.bind (P := fun r => r = linesB s) ?_ ?_
  · unfold f45_strings_Split
    exact Ev.pos ⟨rfl, by omega⟩ (Ev.some (split_lines s))
  rintro _ rfl
  have h1 := lines_len s
  refine Ev.bind (parse_loop (linesB s) (by omega) (fun x hx => by have := lines_sz hx; omega) (linesB s).length 0 (by omega) [] (by simp)) ?_
  intro r hr
  rw [List.drop_zero] at hr
  rcases r with e | e
  · exact Ev.some hr
  · exact Ev.some hr
theorem refparseT_ev (s : ByteArray) (hs : s.size ≤ 9223372036854775807) : Ev (fun n => f12_broughamref25_Parse n s) (fun r => r = parseT s) := by
  unfold f12_broughamref25_Parse parseT
  refine Ev.ite (fun c => Ev.some ?_) (fun c => ?_)
  · simp only [decide_eq_true_eq] at c
    rw [if_pos (by omega)]
  simp only [decide_eq_true_eq] at c
  rw [if_neg (by omega)]
  refine Ev.bind (reflines_ev s (by omega)) ?_
  rintro _ rfl
  have h1 := lines_len s
  refine Ev.bind (refparse_loop2 (linesB s) (by omega) (fun x hx => by have := lines_sz hx; omega) (linesB s).length 0 (by omega) [] (by simp)) ?_
  intro r hr
  rw [List.drop_zero] at hr
  rcases r with e | e
  · exact Ev.some hr
  · exact Ev.some hr
theorem parseL_len : ∀ (L : List ByteArray) (i : Nat) (out : List Stp) (ho : out.length ≤ 512), (parseL L i out).1.length ≤ 512
  | [], i, out, ho => ho
  | l :: ls, i, out, ho => by
    rw [parseL]
    split
    · exact parseL_len ls _ _ ho
    · split
      · simp
      · rename_i c
        exact parseL_len ls _ _ (by simp only [List.length_append, List.length_singleton]; have := fun e => c (.inr e); omega)
theorem parseT_len (s : ByteArray) : (parseT s).1.length ≤ 512 := by
  unfold parseT
  split
  · simp
  · exact parseL_len _ _ _ (by simp)
theorem same_loop (a : List Stp) (hl : a.length ≤ 100000) : ∀ (d i : Nat) (hi : i + d = a.length), Ev (fun n => f13_broughamref25_Same_L4 n a a (i : Int)) (fun w => w = .inr ())
  | 0, i, hi => by
    apply Ev.succ
    unfold f13_broughamref25_Same_L4
    exact Ev.neg (by simp only [decide_eq_true_eq]; omega) (Ev.some rfl)
  | d + 1, i, hi => by
    apply Ev.succ
    unfold f13_broughamref25_Same_L4
    rw [Int.toNat_natCast, i64_id (e := (i : Int) + 1) (by omega) (by omega)]
    refine Ev.pos (by simp only [decide_eq_true_eq]; omega) (Ev.guard (by omega) (Ev.guard (by omega) ?_))
    exact Ev.neg (by simp) (Ev.neg (by simp) (Ev.neg (by simp) (Ev.neg (by simp) (Ev.neg (by simp) (Ev.neg (by simp) (Ev.neg (by simp) (same_loop a hl d (i + 1) (by omega))))))))
theorem same_ev (a : List Stp) (hl : a.length ≤ 100000) : Ev (fun n => f13_broughamref25_Same n a a) (fun r => r = true) := by
  unfold f13_broughamref25_Same
  refine Ev.neg (by simp) (Ev.bind (same_loop a hl a.length 0 (by omega)) ?_)
  rintro _ rfl
  exact Ev.some rfl
theorem alive_ev : Ev (fun n => f14_broughamlaw25_alive n) (fun r => r = true) := Ev.at 60 (fun m => by kernel_rfl) rfl
theorem ScriptReads (s : ByteArray) (h0 : K.ok .str s) : ∃ n, f3_broughamlaw25_ScriptReads n s = some true := by
  apply Ev.true
  unfold f3_broughamlaw25_ScriptReads
  refine Ev.ite (fun _ => Ev.some rfl) fun c => ?_
  simp only [decide_eq_true_eq] at c
  refine Ev.bind (parseT_ev s (by omega)) ?_
  rintro _ rfl
  refine Ev.bind (refparseT_ev s (by omega)) ?_
  rintro _ rfl
  have := parseT_len s
  refine Ev.pos (by simp) (Ev.pos (by simp) (Ev.bind (same_ev _ (by omega)) ?_))
  rintro _ rfl
  exact Ev.pos rfl (Ev.bind alive_ev (fun r hr => Ev.some hr))

def getC (c : UInt8) (s : Stp) : Int := if c = 104 then s.2.1 else if c = 110 then s.2.2.1 else if c = 112 then s.2.2.2.1 else if c = 119 then s.2.2.2.2.1 else s.2.2.2.2.2.1
abbrev byt (s : Stp) : List Int := s.2.2.2.2.2.2
def fieldOK (p : List UInt8) (s : Stp) (c : UInt8) : Bool := decide (0 ≤ getC c s ∧ getC c s ≤ 2147483647 ∧ (getC c s = 0 ∨ c ∈ p))
def chs : List UInt8 := [104, 110, 112, 119, 107]
def rightS (s : Stp) : Bool := decide (1 ≤ s.1 ∧ s.1 ≤ 16) && (chs.all (fieldOK (D (pt s.1.toNat)) s) && (decide (byt s = []) || decide ((98 : UInt8) ∈ D (pt s.1.toNat))))
theorem idx_lt {l : List UInt8} {c : UInt8} : Lib.indexByte l c < 0 ↔ c ∉ l := by
  rcases byte_cases l c with e | ⟨o, e⟩
  · rw [e]; exact ⟨fun _ => byte_none e, fun _ => by decide⟩
  · obtain ⟨h1, h2, h3⟩ := byte_some e
    refine ⟨fun h => by omega, fun h => absurd ?_ h⟩
    rw [h1]; exact List.mem_append_right _ List.mem_cons_self
theorem idx_ev (x : ByteArray) (c : UInt8) : Ev (fun _ => f72_strings_IndexByte x (c.toNat : Int)) (fun r => r < 0 ↔ c ∉ D x) := by
  unfold f72_strings_IndexByte
  rw [Int.toNat_natCast]
  have e : c.toNat.toUInt8 = c := by
    apply UInt8.toNat_inj.1
    have := c.toNat_lt
    simp
  rw [e]
  exact Ev.some idx_lt
theorem chs_mem {i : Nat} (h : i < 5) : chs.getD i 0 = 104 ∨ chs.getD i 0 = 110 ∨ chs.getD i 0 = 112 ∨ chs.getD i 0 = 119 ∨ chs.getD i 0 = 107 := by
  match i with
  | 0 => exact .inl rfl
  | 1 => exact .inr (.inl rfl)
  | 2 => exact .inr (.inr (.inl rfl))
  | 3 => exact .inr (.inr (.inr (.inl rfl)))
  | 4 => exact .inr (.inr (.inr (.inr rfl)))
  | i + 5 => omega
theorem chs_int {i : Nat} (h : i < 5) : ([104, 110, 112, 119, 107] : List Int).getD i 0 = ((chs.getD i 0).toNat : Int) := by
  match i with
  | 0 => rfl
  | 1 => rfl
  | 2 => rfl
  | 3 => rfl
  | 4 => rfl
  | i + 5 => omega
theorem chs_byte {i : Nat} (h : i < 5) : byteAt (⟨#[104, 110, 112, 119, 107]⟩ : ByteArray) (i : Int) = ((chs.getD i 0).toNat : Int) := by
  match i with
  | 0 => rfl
  | 1 => rfl
  | 2 => rfl
  | 3 => rfl
  | 4 => rfl
  | i + 5 => omega
theorem field_yes {p : List UInt8} {s : Stp} {c : UInt8} (h1 : 0 ≤ getC c s) (h2 : getC c s ≤ 2147483647) (h3 : getC c s = 0 ∨ c ∈ p) : fieldOK p s c = true := decide_eq_true ⟨h1, h2, h3⟩
theorem field_no {p : List UInt8} {s : Stp} {c : UInt8} (h : ¬ (0 ≤ getC c s ∧ getC c s ≤ 2147483647 ∧ (getC c s = 0 ∨ c ∈ p))) : fieldOK p s c = false := decide_eq_false h
def R5 (names : ByteArray) (s : Stp) (b : Bool) : Bool ⊕ (ByteArray × Stp) := if b = true then .inr (names, s) else .inl false
theorem rpart_h (s : Stp) : Ev (fun _ => f71_script_part_v3 ((104 : UInt8).toNat : Int) s.1 s.2.1 s.2.2.1 s.2.2.2.1 s.2.2.2.2.1 s.2.2.2.2.2.1 s.2.2.2.2.2.2) (fun r => r = .inl s) := Ev.some rfl
theorem rpart_n (s : Stp) : Ev (fun _ => f71_script_part_v3 ((110 : UInt8).toNat : Int) s.1 s.2.1 s.2.2.1 s.2.2.2.1 s.2.2.2.2.1 s.2.2.2.2.2.1 s.2.2.2.2.2.2) (fun r => r = .inr (.inl s)) := Ev.some rfl
theorem rpart_p (s : Stp) : Ev (fun _ => f71_script_part_v3 ((112 : UInt8).toNat : Int) s.1 s.2.1 s.2.2.1 s.2.2.2.1 s.2.2.2.2.1 s.2.2.2.2.2.1 s.2.2.2.2.2.2) (fun r => r = .inr (.inr (.inl s))) := Ev.some rfl
theorem rpart_w (s : Stp) : Ev (fun _ => f71_script_part_v3 ((119 : UInt8).toNat : Int) s.1 s.2.1 s.2.2.1 s.2.2.2.1 s.2.2.2.2.1 s.2.2.2.2.2.1 s.2.2.2.2.2.2) (fun r => r = .inr (.inr (.inr (.inl s)))) := Ev.some rfl
theorem rpart_k (s : Stp) : Ev (fun _ => f71_script_part_v3 ((107 : UInt8).toNat : Int) s.1 s.2.1 s.2.2.1 s.2.2.2.1 s.2.2.2.2.1 s.2.2.2.2.2.1 s.2.2.2.2.2.2) (fun r => r = .inr (.inr (.inr (.inr (.inl s))))) := Ev.some rfl
theorem rpart_b (s : Stp) : Ev (fun _ => f71_script_part_v3 ((98 : UInt8).toNat : Int) s.1 s.2.1 s.2.2.1 s.2.2.2.1 s.2.2.2.2.1 s.2.2.2.2.2.1 s.2.2.2.2.2.2) (fun r => r = .inr (.inr (.inr (.inr (.inr s))))) := Ev.some rfl
theorem right_loop (names : ByteArray) (s : Stp) : ∀ (d i : Nat) (hi : i + d = 5),
    Ev (fun n => f43_script_Right_L5 n names [104, 110, 112, 119, 107] (([104, 110, 112, 119, 107].length : Nat) : Int) (i : Int) s.1 s.2.1 s.2.2.1 s.2.2.2.1 s.2.2.2.2.1 s.2.2.2.2.2.1 s.2.2.2.2.2.2) (fun w => w = R5 names s ((chs.drop i).all (fieldOK (D names) s)))
  | 0, i, hi => by
    obtain rfl : i = 5 := by omega
    apply Ev.succ
    unfold f43_script_Right_L5
    exact Ev.neg (by decide) (Ev.some rfl)
  | d + 1, i, hi => by
    have hc := chs_mem (show i < 5 by omega)
    have hg := chs_int (show i < 5 by omega)
    have ih := right_loop names s d (i + 1) (by omega)
    have hd : chs.drop i = chs.getD i 0 :: chs.drop (i + 1) := drop_cons (show i < 5 by omega) _
    apply Ev.succ
    unfold f43_script_Right_L5
    rw [Int.toNat_natCast, hg, hd, List.all_cons, i64_id (e := (i : Int) + 1) (by omega) (by omega)]
    have hl : ([104, 110, 112, 119, 107] : List Int).length = 5 := rfl
    generalize chs.getD i 0 = c at hc
    refine Ev.pos (decide_eq_true (show (i : Int) < ((5 : Nat) : Int) by omega)) (Ev.guard (show (0 : Int) ≤ (i : Int) ∧ (i : Int) < ((5 : Nat) : Int) by omega) ?_)
    rcases hc with rfl | rfl | rfl | rfl | rfl
    · refine Ev.bind (rpart_h s) ?_
      rintro _ rfl
      have e : getC 104 s = s.2.1 := rfl
      refine Ev.ite (fun c1 => Ev.some ?_) (fun c1 => Ev.ite (fun c2 => Ev.some ?_) (fun c2 => Ev.ite (fun c3 => Ev.bind (idx_ev names 104) (fun r hr => Ev.ite (fun c4 => Ev.some ?_) (fun c4 => ?_))) (fun c3 => ?_)))
      · simp only [decide_eq_true_eq] at c1
        rw [field_no (by rw [e]; omega)]; rfl
      · simp only [decide_eq_true_eq] at c2
        rw [field_no (by rw [e]; omega)]; rfl
      · simp only [decide_eq_true_eq] at c4
        simp only [bne_iff_ne, ne_eq] at c3
        rw [field_no (by rw [e]; rintro ⟨_, _, q | q⟩; exact c3 q; exact (hr.1 c4) q)]; rfl
      · simp only [decide_eq_true_eq] at c1 c2 c4
        rw [field_yes (by rw [e]; omega) (by rw [e]; omega) (.inr (Classical.byContradiction fun q => c4 (hr.2 q)))]
        exact ih
      · simp only [decide_eq_true_eq] at c1 c2
        simp only [bne_iff_ne, ne_eq, Decidable.not_not] at c3
        rw [field_yes (by rw [e]; omega) (by rw [e]; omega) (.inl (by rw [e]; exact c3))]
        exact ih
    · refine Ev.bind (rpart_n s) ?_
      rintro _ rfl
      have e : getC 110 s = s.2.2.1 := rfl
      refine Ev.ite (fun c1 => Ev.some ?_) (fun c1 => Ev.ite (fun c2 => Ev.some ?_) (fun c2 => Ev.ite (fun c3 => Ev.bind (idx_ev names 110) (fun r hr => Ev.ite (fun c4 => Ev.some ?_) (fun c4 => ?_))) (fun c3 => ?_)))
      · simp only [decide_eq_true_eq] at c1
        rw [field_no (by rw [e]; omega)]; rfl
      · simp only [decide_eq_true_eq] at c2
        rw [field_no (by rw [e]; omega)]; rfl
      · simp only [decide_eq_true_eq] at c4
        simp only [bne_iff_ne, ne_eq] at c3
        rw [field_no (by rw [e]; rintro ⟨_, _, q | q⟩; exact c3 q; exact (hr.1 c4) q)]; rfl
      · simp only [decide_eq_true_eq] at c1 c2 c4
        rw [field_yes (by rw [e]; omega) (by rw [e]; omega) (.inr (Classical.byContradiction fun q => c4 (hr.2 q)))]
        exact ih
      · simp only [decide_eq_true_eq] at c1 c2
        simp only [bne_iff_ne, ne_eq, Decidable.not_not] at c3
        rw [field_yes (by rw [e]; omega) (by rw [e]; omega) (.inl (by rw [e]; exact c3))]
        exact ih
    · refine Ev.bind (rpart_p s) ?_
      rintro _ rfl
      have e : getC 112 s = s.2.2.2.1 := rfl
      refine Ev.ite (fun c1 => Ev.some ?_) (fun c1 => Ev.ite (fun c2 => Ev.some ?_) (fun c2 => Ev.ite (fun c3 => Ev.bind (idx_ev names 112) (fun r hr => Ev.ite (fun c4 => Ev.some ?_) (fun c4 => ?_))) (fun c3 => ?_)))
      · simp only [decide_eq_true_eq] at c1
        rw [field_no (by rw [e]; omega)]; rfl
      · simp only [decide_eq_true_eq] at c2
        rw [field_no (by rw [e]; omega)]; rfl
      · simp only [decide_eq_true_eq] at c4
        simp only [bne_iff_ne, ne_eq] at c3
        rw [field_no (by rw [e]; rintro ⟨_, _, q | q⟩; exact c3 q; exact (hr.1 c4) q)]; rfl
      · simp only [decide_eq_true_eq] at c1 c2 c4
        rw [field_yes (by rw [e]; omega) (by rw [e]; omega) (.inr (Classical.byContradiction fun q => c4 (hr.2 q)))]
        exact ih
      · simp only [decide_eq_true_eq] at c1 c2
        simp only [bne_iff_ne, ne_eq, Decidable.not_not] at c3
        rw [field_yes (by rw [e]; omega) (by rw [e]; omega) (.inl (by rw [e]; exact c3))]
        exact ih
    · refine Ev.bind (rpart_w s) ?_
      rintro _ rfl
      have e : getC 119 s = s.2.2.2.2.1 := rfl
      refine Ev.ite (fun c1 => Ev.some ?_) (fun c1 => Ev.ite (fun c2 => Ev.some ?_) (fun c2 => Ev.ite (fun c3 => Ev.bind (idx_ev names 119) (fun r hr => Ev.ite (fun c4 => Ev.some ?_) (fun c4 => ?_))) (fun c3 => ?_)))
      · simp only [decide_eq_true_eq] at c1
        rw [field_no (by rw [e]; omega)]; rfl
      · simp only [decide_eq_true_eq] at c2
        rw [field_no (by rw [e]; omega)]; rfl
      · simp only [decide_eq_true_eq] at c4
        simp only [bne_iff_ne, ne_eq] at c3
        rw [field_no (by rw [e]; rintro ⟨_, _, q | q⟩; exact c3 q; exact (hr.1 c4) q)]; rfl
      · simp only [decide_eq_true_eq] at c1 c2 c4
        rw [field_yes (by rw [e]; omega) (by rw [e]; omega) (.inr (Classical.byContradiction fun q => c4 (hr.2 q)))]
        exact ih
      · simp only [decide_eq_true_eq] at c1 c2
        simp only [bne_iff_ne, ne_eq, Decidable.not_not] at c3
        rw [field_yes (by rw [e]; omega) (by rw [e]; omega) (.inl (by rw [e]; exact c3))]
        exact ih
    · refine Ev.bind (rpart_k s) ?_
      rintro _ rfl
      have e : getC 107 s = s.2.2.2.2.2.1 := rfl
      refine Ev.ite (fun c1 => Ev.some ?_) (fun c1 => Ev.ite (fun c2 => Ev.some ?_) (fun c2 => Ev.ite (fun c3 => Ev.bind (idx_ev names 107) (fun r hr => Ev.ite (fun c4 => Ev.some ?_) (fun c4 => ?_))) (fun c3 => ?_)))
      · simp only [decide_eq_true_eq] at c1
        rw [field_no (by rw [e]; omega)]; rfl
      · simp only [decide_eq_true_eq] at c2
        rw [field_no (by rw [e]; omega)]; rfl
      · simp only [decide_eq_true_eq] at c4
        simp only [bne_iff_ne, ne_eq] at c3
        rw [field_no (by rw [e]; rintro ⟨_, _, q | q⟩; exact c3 q; exact (hr.1 c4) q)]; rfl
      · simp only [decide_eq_true_eq] at c1 c2 c4
        rw [field_yes (by rw [e]; omega) (by rw [e]; omega) (.inr (Classical.byContradiction fun q => c4 (hr.2 q)))]
        exact ih
      · simp only [decide_eq_true_eq] at c1 c2
        simp only [bne_iff_ne, ne_eq, Decidable.not_not] at c3
        rw [field_yes (by rw [e]; omega) (by rw [e]; omega) (.inl (by rw [e]; exact c3))]
        exact ih
theorem right_ev (s : Stp) : Ev (fun n => f43_script_Right n s.1 s.2.1 s.2.2.1 s.2.2.2.1 s.2.2.2.2.1 s.2.2.2.2.2.1 s.2.2.2.2.2.2) (fun r => r = rightS s) := by
  unfold f43_script_Right rightS
  refine Ev.ite (fun c => Ev.some ?_) (fun c => Ev.ite (fun c2 => Ev.some ?_) (fun c2 => ?_))
  · simp only [decide_eq_true_eq] at c
    rw [decide_eq_false (by omega)]; rfl
  · simp only [decide_eq_true_eq] at c2
    rw [decide_eq_false (by omega)]; rfl
  simp only [decide_eq_true_eq] at c c2
  rw [decide_eq_true (show 1 ≤ s.1 ∧ s.1 ≤ 16 by omega)]
  refine Ev.bind (P := fun r => r = Option.get f70_script_shapes rfl) (Ev.some rfl) ?_
  rintro _ rfl
  refine Ev.guard (by omega) (Ev.bind (right_loop (pt s.1.toNat) s 5 0 rfl) ?_)
  rintro _ rfl
  rw [List.drop_zero]
  unfold R5
  cases hb : chs.all (fieldOK (D (pt s.1.toNat)) s) with
  | false => exact Ev.some rfl
  | true =>
    refine Ev.ite (fun c3 => Ev.some ?_) (fun c3 => Ev.bind (idx_ev (pt s.1.toNat) 98) (fun r hr => Ev.some ?_))
    · simp only [beq_iff_eq] at c3
      rw [decide_eq_true (show byt s = [] from List.eq_nil_of_length_eq_zero (by have : ((byt s).length : Int) = 0 := c3; omega))]; rfl
    · simp only [beq_iff_eq] at c3
      rw [decide_eq_false (show ¬ byt s = [] from fun q => c3 (by have : byt s = s.2.2.2.2.2.2 := rfl; rw [this] at q; show ((s.2.2.2.2.2.2.length : Nat) : Int) = 0; rw [q]; rfl))]
      by_cases q : (98 : UInt8) ∈ D (pt s.1.toNat)
      · rw [decide_eq_true q, decide_eq_true (show r ≥ 0 by have : ¬ r < 0 := fun w => hr.1 w q; omega)]; rfl
      · rw [decide_eq_false q, decide_eq_false (show ¬ r ≥ 0 by have := hr.2 q; omega)]; rfl
theorem apart_h (s : Stp) : Ev (fun _ => Go.Proofs.YtakamchmiakicaaDoorF25a.f71_script_part ((104 : UInt8).toNat : Int) s.1 s.2.1 s.2.2.1 s.2.2.2.1 s.2.2.2.2.1 s.2.2.2.2.2.1 s.2.2.2.2.2.2) (fun r => r = .inl s) := Ev.some rfl
theorem apart_n (s : Stp) : Ev (fun _ => Go.Proofs.YtakamchmiakicaaDoorF25a.f71_script_part ((110 : UInt8).toNat : Int) s.1 s.2.1 s.2.2.1 s.2.2.2.1 s.2.2.2.2.1 s.2.2.2.2.2.1 s.2.2.2.2.2.2) (fun r => r = .inr (.inl s)) := Ev.some rfl
theorem apart_p (s : Stp) : Ev (fun _ => Go.Proofs.YtakamchmiakicaaDoorF25a.f71_script_part ((112 : UInt8).toNat : Int) s.1 s.2.1 s.2.2.1 s.2.2.2.1 s.2.2.2.2.1 s.2.2.2.2.2.1 s.2.2.2.2.2.2) (fun r => r = .inr (.inr (.inl s))) := Ev.some rfl
theorem apart_w (s : Stp) : Ev (fun _ => Go.Proofs.YtakamchmiakicaaDoorF25a.f71_script_part ((119 : UInt8).toNat : Int) s.1 s.2.1 s.2.2.1 s.2.2.2.1 s.2.2.2.2.1 s.2.2.2.2.2.1 s.2.2.2.2.2.2) (fun r => r = .inr (.inr (.inr (.inl s)))) := Ev.some rfl
theorem apart_k (s : Stp) : Ev (fun _ => Go.Proofs.YtakamchmiakicaaDoorF25a.f71_script_part ((107 : UInt8).toNat : Int) s.1 s.2.1 s.2.2.1 s.2.2.2.1 s.2.2.2.2.1 s.2.2.2.2.2.1 s.2.2.2.2.2.2) (fun r => r = .inr (.inr (.inr (.inr (.inl s))))) := Ev.some rfl
theorem apart_b (s : Stp) : Ev (fun _ => Go.Proofs.YtakamchmiakicaaDoorF25a.f71_script_part ((98 : UInt8).toNat : Int) s.1 s.2.1 s.2.2.1 s.2.2.2.1 s.2.2.2.2.1 s.2.2.2.2.2.1 s.2.2.2.2.2.2) (fun r => r = .inr (.inr (.inr (.inr (.inr s))))) := Ev.some rfl
theorem aright_loop (names : ByteArray) (s : Stp) : ∀ (d i : Nat) (hi : i + d = 5),
    Ev (fun n => Go.Proofs.YtakamchmiakicaaDoorF25a.f43_script_Right_L5 n names [104, 110, 112, 119, 107] (([104, 110, 112, 119, 107].length : Nat) : Int) (i : Int) s.1 s.2.1 s.2.2.1 s.2.2.2.1 s.2.2.2.2.1 s.2.2.2.2.2.1 s.2.2.2.2.2.2) (fun w => w = R5 names s ((chs.drop i).all (fieldOK (D names) s)))
  | 0, i, hi => by
    obtain rfl : i = 5 := by omega
    apply Ev.succ
    unfold Go.Proofs.YtakamchmiakicaaDoorF25a.f43_script_Right_L5
    exact Ev.neg (by decide) (Ev.some rfl)
  | d + 1, i, hi => by
    have hc := chs_mem (show i < 5 by omega)
    have hg := chs_int (show i < 5 by omega)
    have ih := aright_loop names s d (i + 1) (by omega)
    have hd : chs.drop i = chs.getD i 0 :: chs.drop (i + 1) := drop_cons (show i < 5 by omega) _
    apply Ev.succ
    unfold Go.Proofs.YtakamchmiakicaaDoorF25a.f43_script_Right_L5
    rw [Int.toNat_natCast, hg, hd, List.all_cons, i64_id (e := (i : Int) + 1) (by omega) (by omega)]
    have hl : ([104, 110, 112, 119, 107] : List Int).length = 5 := rfl
    generalize chs.getD i 0 = c at hc
    refine Ev.pos (decide_eq_true (show (i : Int) < ((5 : Nat) : Int) by omega)) (Ev.guard (show (0 : Int) ≤ (i : Int) ∧ (i : Int) < ((5 : Nat) : Int) by omega) ?_)
    rcases hc with rfl | rfl | rfl | rfl | rfl
    · refine Ev.bind (apart_h s) ?_
      rintro _ rfl
      have e : getC 104 s = s.2.1 := rfl
      refine Ev.ite (fun c1 => Ev.some ?_) (fun c1 => Ev.ite (fun c2 => Ev.some ?_) (fun c2 => Ev.ite (fun c3 => Ev.bind (idx_ev names 104) (fun r hr => Ev.ite (fun c4 => Ev.some ?_) (fun c4 => ?_))) (fun c3 => ?_)))
      · simp only [decide_eq_true_eq] at c1
        rw [field_no (by rw [e]; omega)]; rfl
      · simp only [decide_eq_true_eq] at c2
        rw [field_no (by rw [e]; omega)]; rfl
      · simp only [decide_eq_true_eq] at c4
        simp only [bne_iff_ne, ne_eq] at c3
        rw [field_no (by rw [e]; rintro ⟨_, _, q | q⟩; exact c3 q; exact (hr.1 c4) q)]; rfl
      · simp only [decide_eq_true_eq] at c1 c2 c4
        rw [field_yes (by rw [e]; omega) (by rw [e]; omega) (.inr (Classical.byContradiction fun q => c4 (hr.2 q)))]
        exact ih
      · simp only [decide_eq_true_eq] at c1 c2
        simp only [bne_iff_ne, ne_eq, Decidable.not_not] at c3
        rw [field_yes (by rw [e]; omega) (by rw [e]; omega) (.inl (by rw [e]; exact c3))]
        exact ih
    · refine Ev.bind (apart_n s) ?_
      rintro _ rfl
      have e : getC 110 s = s.2.2.1 := rfl
      refine Ev.ite (fun c1 => Ev.some ?_) (fun c1 => Ev.ite (fun c2 => Ev.some ?_) (fun c2 => Ev.ite (fun c3 => Ev.bind (idx_ev names 110) (fun r hr => Ev.ite (fun c4 => Ev.some ?_) (fun c4 => ?_))) (fun c3 => ?_)))
      · simp only [decide_eq_true_eq] at c1
        rw [field_no (by rw [e]; omega)]; rfl
      · simp only [decide_eq_true_eq] at c2
        rw [field_no (by rw [e]; omega)]; rfl
      · simp only [decide_eq_true_eq] at c4
        simp only [bne_iff_ne, ne_eq] at c3
        rw [field_no (by rw [e]; rintro ⟨_, _, q | q⟩; exact c3 q; exact (hr.1 c4) q)]; rfl
      · simp only [decide_eq_true_eq] at c1 c2 c4
        rw [field_yes (by rw [e]; omega) (by rw [e]; omega) (.inr (Classical.byContradiction fun q => c4 (hr.2 q)))]
        exact ih
      · simp only [decide_eq_true_eq] at c1 c2
        simp only [bne_iff_ne, ne_eq, Decidable.not_not] at c3
        rw [field_yes (by rw [e]; omega) (by rw [e]; omega) (.inl (by rw [e]; exact c3))]
        exact ih
    · refine Ev.bind (apart_p s) ?_
      rintro _ rfl
      have e : getC 112 s = s.2.2.2.1 := rfl
      refine Ev.ite (fun c1 => Ev.some ?_) (fun c1 => Ev.ite (fun c2 => Ev.some ?_) (fun c2 => Ev.ite (fun c3 => Ev.bind (idx_ev names 112) (fun r hr => Ev.ite (fun c4 => Ev.some ?_) (fun c4 => ?_))) (fun c3 => ?_)))
      · simp only [decide_eq_true_eq] at c1
        rw [field_no (by rw [e]; omega)]; rfl
      · simp only [decide_eq_true_eq] at c2
        rw [field_no (by rw [e]; omega)]; rfl
      · simp only [decide_eq_true_eq] at c4
        simp only [bne_iff_ne, ne_eq] at c3
        rw [field_no (by rw [e]; rintro ⟨_, _, q | q⟩; exact c3 q; exact (hr.1 c4) q)]; rfl
      · simp only [decide_eq_true_eq] at c1 c2 c4
        rw [field_yes (by rw [e]; omega) (by rw [e]; omega) (.inr (Classical.byContradiction fun q => c4 (hr.2 q)))]
        exact ih
      · simp only [decide_eq_true_eq] at c1 c2
        simp only [bne_iff_ne, ne_eq, Decidable.not_not] at c3
        rw [field_yes (by rw [e]; omega) (by rw [e]; omega) (.inl (by rw [e]; exact c3))]
        exact ih
    · refine Ev.bind (apart_w s) ?_
      rintro _ rfl
      have e : getC 119 s = s.2.2.2.2.1 := rfl
      refine Ev.ite (fun c1 => Ev.some ?_) (fun c1 => Ev.ite (fun c2 => Ev.some ?_) (fun c2 => Ev.ite (fun c3 => Ev.bind (idx_ev names 119) (fun r hr => Ev.ite (fun c4 => Ev.some ?_) (fun c4 => ?_))) (fun c3 => ?_)))
      · simp only [decide_eq_true_eq] at c1
        rw [field_no (by rw [e]; omega)]; rfl
      · simp only [decide_eq_true_eq] at c2
        rw [field_no (by rw [e]; omega)]; rfl
      · simp only [decide_eq_true_eq] at c4
        simp only [bne_iff_ne, ne_eq] at c3
        rw [field_no (by rw [e]; rintro ⟨_, _, q | q⟩; exact c3 q; exact (hr.1 c4) q)]; rfl
      · simp only [decide_eq_true_eq] at c1 c2 c4
        rw [field_yes (by rw [e]; omega) (by rw [e]; omega) (.inr (Classical.byContradiction fun q => c4 (hr.2 q)))]
        exact ih
      · simp only [decide_eq_true_eq] at c1 c2
        simp only [bne_iff_ne, ne_eq, Decidable.not_not] at c3
        rw [field_yes (by rw [e]; omega) (by rw [e]; omega) (.inl (by rw [e]; exact c3))]
        exact ih
    · refine Ev.bind (apart_k s) ?_
      rintro _ rfl
      have e : getC 107 s = s.2.2.2.2.2.1 := rfl
      refine Ev.ite (fun c1 => Ev.some ?_) (fun c1 => Ev.ite (fun c2 => Ev.some ?_) (fun c2 => Ev.ite (fun c3 => Ev.bind (idx_ev names 107) (fun r hr => Ev.ite (fun c4 => Ev.some ?_) (fun c4 => ?_))) (fun c3 => ?_)))
      · simp only [decide_eq_true_eq] at c1
        rw [field_no (by rw [e]; omega)]; rfl
      · simp only [decide_eq_true_eq] at c2
        rw [field_no (by rw [e]; omega)]; rfl
      · simp only [decide_eq_true_eq] at c4
        simp only [bne_iff_ne, ne_eq] at c3
        rw [field_no (by rw [e]; rintro ⟨_, _, q | q⟩; exact c3 q; exact (hr.1 c4) q)]; rfl
      · simp only [decide_eq_true_eq] at c1 c2 c4
        rw [field_yes (by rw [e]; omega) (by rw [e]; omega) (.inr (Classical.byContradiction fun q => c4 (hr.2 q)))]
        exact ih
      · simp only [decide_eq_true_eq] at c1 c2
        simp only [bne_iff_ne, ne_eq, Decidable.not_not] at c3
        rw [field_yes (by rw [e]; omega) (by rw [e]; omega) (.inl (by rw [e]; exact c3))]
        exact ih
theorem aright_ev (s : Stp) : Ev (fun n => Go.Proofs.YtakamchmiakicaaDoorF25a.f43_script_Right n s.1 s.2.1 s.2.2.1 s.2.2.2.1 s.2.2.2.2.1 s.2.2.2.2.2.1 s.2.2.2.2.2.2) (fun r => r = rightS s) := by
  unfold Go.Proofs.YtakamchmiakicaaDoorF25a.f43_script_Right rightS
  refine Ev.ite (fun c => Ev.some ?_) (fun c => Ev.ite (fun c2 => Ev.some ?_) (fun c2 => ?_))
  · simp only [decide_eq_true_eq] at c
    rw [decide_eq_false (by omega)]; rfl
  · simp only [decide_eq_true_eq] at c2
    rw [decide_eq_false (by omega)]; rfl
  simp only [decide_eq_true_eq] at c c2
  rw [decide_eq_true (show 1 ≤ s.1 ∧ s.1 ≤ 16 by omega)]
  refine Ev.bind (P := fun r => r = Option.get Go.Proofs.YtakamchmiakicaaDoorF25a.f70_script_shapes rfl) (Ev.some rfl) ?_
  rintro _ rfl
  refine Ev.guard (by omega) (Ev.bind (aright_loop (pt s.1.toNat) s 5 0 rfl) ?_)
  rintro _ rfl
  rw [List.drop_zero]
  unfold R5
  cases hb : chs.all (fieldOK (D (pt s.1.toNat)) s) with
  | false => exact Ev.some rfl
  | true =>
    refine Ev.ite (fun c3 => Ev.some ?_) (fun c3 => Ev.bind (idx_ev (pt s.1.toNat) 98) (fun r hr => Ev.some ?_))
    · simp only [beq_iff_eq] at c3
      rw [decide_eq_true (show byt s = [] from List.eq_nil_of_length_eq_zero (by have : ((byt s).length : Int) = 0 := c3; omega))]; rfl
    · simp only [beq_iff_eq] at c3
      rw [decide_eq_false (show ¬ byt s = [] from fun q => c3 (by have : byt s = s.2.2.2.2.2.2 := rfl; rw [this] at q; show ((s.2.2.2.2.2.2.length : Nat) : Int) = 0; rw [q]; rfl))]
      by_cases q : (98 : UInt8) ∈ D (pt s.1.toNat)
      · rw [decide_eq_true q, decide_eq_true (show r ≥ 0 by have : ¬ r < 0 := fun w => hr.1 w q; omega)]; rfl
      · rw [decide_eq_false q, decide_eq_false (show ¬ r ≥ 0 by have := hr.2 q; omega)]; rfl

/-- A part's text. -/
def fldT (s : Stp) (c : UInt8) : List UInt8 := if c = 98 then D (hexB (byt s)) else textL (getC c s).toNat
def lineS (s : Stp) : List UInt8 := Lib.join (D (wd s.1.toNat) :: (D (pt s.1.toNat)).map (fldT s)) [32]
/-- What a step's writing asks of it. -/
def Good (s : Stp) : Prop := Bytes (byt s) ∧ (byt s).length ≤ 90000
theorem hex_ne (b : List Int) : D (hexB b) ≠ [] := by
  unfold hexB
  split
  · decide
  · rename_i h
    intro e
    have e2 : hexL (b.map fun x => x.toNat.toUInt8) = [] := e
    have hlen := hexL_len (b.map fun x => x.toNat.toUInt8)
    rw [e2, List.length_map, List.length_nil] at hlen
    exact h (List.eq_nil_of_length_eq_zero (by omega))
theorem hex_sz (b : List Int) : (D (hexB b)).length ≤ 2 * b.length + 1 := by
  unfold hexB
  split
  · show 1 ≤ _; omega
  · have hlen := hexL_len (b.map fun x => x.toNat.toUInt8)
    rw [List.length_map] at hlen
    show (hexL _).length ≤ _
    omega
theorem fld_ne (s : Stp) (c : UInt8) (h : getC c s ≤ 2147483647) : fldT s c ≠ [] := by
  unfold fldT
  split
  · exact hex_ne _
  · exact (textL_canon (getC c s).toNat (by omega)).1.2.1
theorem fld_len (s : Stp) (c : UInt8) (h : (byt s).length ≤ 90000) : (fldT s c).length ≤ 180001 := by
  unfold fldT
  split
  · have := hex_sz (byt s); omega
  · have := textF_len 20 (getC c s).toNat
    show (textF 20 _).length ≤ _; omega
theorem wd_fin : ∀ k : Fin 17, 1 ≤ k.val → D (wd k.val) ≠ [] ∧ (D (wd k.val)).length ≤ 7 := by decide
theorem wd_ne {k : Nat} (h1 : 1 ≤ k) (h : k < 17) : D (wd k) ≠ [] := (wd_fin ⟨k, h⟩ h1).1
theorem wd_len {k : Nat} (h1 : 1 ≤ k) (h : k < 17) : (D (wd k)).length ≤ 7 := (wd_fin ⟨k, h⟩ h1).2
theorem sum_le {l : List (List UInt8)} {m : Nat} (h : ∀ x ∈ l, x.length ≤ m) : (l.map List.length).sum ≤ l.length * m := by
  induction l with
  | nil => exact Nat.zero_le _
  | cons y l ih =>
    have h1 := ih (fun x hx => h x (List.mem_cons_of_mem _ hx))
    have h2 := h y List.mem_cons_self
    rw [List.map_cons, List.sum_cons, List.length_cons, Nat.succ_mul]; omega
theorem right_parts {s : Stp} (h : rightS s = true) : (1 ≤ s.1 ∧ s.1 ≤ 16) ∧ (∀ c ∈ chs, fieldOK (D (pt s.1.toNat)) s c = true) ∧ (byt s = [] ∨ (98 : UInt8) ∈ D (pt s.1.toNat)) := by
  unfold rightS at h
  simp only [Bool.and_eq_true, decide_eq_true_eq, Bool.or_eq_true, List.all_eq_true] at h
  exact ⟨h.1, h.2.1, h.2.2⟩
theorem right_get {s : Stp} (h : rightS s = true) {c : UInt8} (hc : c = 104 ∨ c = 110 ∨ c = 112 ∨ c = 119 ∨ c = 107) : 0 ≤ getC c s ∧ getC c s ≤ 2147483647 ∧ (getC c s = 0 ∨ c ∈ D (pt s.1.toNat)) := by
  have := (right_parts h).2.1 c (by unfold chs; simpa using hc)
  exact of_decide_eq_true this
theorem right_fld {s : Stp} (h : rightS s = true) {c : UInt8} (hc : c ∈ D (pt s.1.toNat)) : fldT s c ≠ [] := by
  have h1 := (right_parts h).1
  rcases alf_pt (show s.1.toNat < 17 by omega) c hc with e | e | e | e | e | e
  · exact fld_ne s c (right_get h (.inl e)).2.1
  · exact fld_ne s c (right_get h (.inr (.inl e))).2.1
  · exact fld_ne s c (right_get h (.inr (.inr (.inl e)))).2.1
  · exact fld_ne s c (right_get h (.inr (.inr (.inr (.inl e))))).2.1
  · exact fld_ne s c (right_get h (.inr (.inr (.inr (.inr e))))).2.1
  · subst e
    exact hex_ne _
theorem lineS_len {s : Stp} (h : 1 ≤ s.1 ∧ s.1 ≤ 16) (hg : Good s) : (lineS s).length ≤ 1000000 := by
  unfold lineS
  have h1 := join_len (D (wd s.1.toNat) :: (D (pt s.1.toNat)).map (fldT s))
  have h2 : (((D (pt s.1.toNat)).map (fldT s)).map List.length).sum ≤ ((D (pt s.1.toNat)).map (fldT s)).length * 180001 := by
    refine sum_le (fun x hx => ?_)
    obtain ⟨c, hc, rfl⟩ := List.mem_map.1 hx
    exact fld_len s c hg.2
  have h3 := wd_len (show 1 ≤ s.1.toNat by omega) (show s.1.toNat < 17 by omega)
  have h4 := pt_sz (show s.1.toNat < 17 by omega)
  rw [sz_D] at h4
  rw [List.map_cons, List.sum_cons, List.length_cons, List.length_map] at h1
  rw [List.length_map] at h2
  have h5 := Nat.mul_le_mul_right 180001 h4
  omega
/-! script.line. -/
def bfld (s : Stp) (c : UInt8) : ByteArray := if c = 98 then hexB (byt s) else textB (getC c s)
theorem bfld_D (s : Stp) (c : UInt8) : D (bfld s c) = fldT s c := by
  unfold bfld fldT
  split
  · rfl
  · rfl
theorem aline_loop (s : Stp) (q x0 : ByteArray) (ha : Alf (D q)) (hq : q.size ≤ 4) (hg : Good s) (hr : ∀ c, c = 104 ∨ c = 110 ∨ c = 112 ∨ c = 119 ∨ c = 107 → 0 ≤ getC c s ∧ getC c s ≤ 2147483647) : ∀ (d i : Nat) (hi : i + d = q.size) (w : List ByteArray) (hw : w.length ≤ i + 1),
    Ev (fun n => Go.Proofs.YtakamchmiakicaaDoorF25a.f65_script_line_L4 n w ((q.size : Nat) : Int) (i : Int) s.1 s.2.1 s.2.2.1 s.2.2.2.1 s.2.2.2.2.1 s.2.2.2.2.2.1 s.2.2.2.2.2.2 x0 q) (fun r => r = w ++ ((D q).drop i).map (bfld s))
  | 0, i, hi, w, hw => by
    apply Ev.succ
    unfold Go.Proofs.YtakamchmiakicaaDoorF25a.f65_script_line_L4
    refine Ev.neg (by simp only [decide_eq_true_eq]; omega) (Ev.some ?_)
    rw [List.drop_eq_nil_of_le (by rw [← sz_D]; omega)]; simp
  | d + 1, i, hi, w, hw => by
    have hil : i < (D q).length := by rw [← sz_D]; omega
    have hbt : byteAt q (i : Int) = (((D q)[i]'hil).toNat : Int) := byte_at hil
    have hdrop : (D q).drop i = (D q)[i] :: (D q).drop (i + 1) := List.drop_eq_getElem_cons hil
    have hc := ha _ (List.getElem_mem hil)
    have ih := fun w' hw' => aline_loop s q x0 ha hq hg hr d (i + 1) (by omega) w' hw'
    apply Ev.succ
    unfold Go.Proofs.YtakamchmiakicaaDoorF25a.f65_script_line_L4
    rw [i64_id (e := (i : Int) + 1) (by omega) (by omega), hbt, hdrop]
    generalize (D q)[i] = c at hc
    refine Ev.pos (by simp only [decide_eq_true_eq]; omega) (Ev.guard (by omega) ?_)
    rcases hc with rfl | rfl | rfl | rfl | rfl | rfl
    · have hv : 0 ≤ s.2.1 ∧ s.2.1 ≤ 2147483647 := hr 104 (.inl rfl)
      refine Ev.bind (apart_h s) ?_
      rintro _ rfl
      refine Ev.bind (text_ev s.2.1 (by omega) (by omega)) ?_
      rintro _ rfl
      refine Ev.guard (by simp only [List.length_singleton, maxLen]; omega) ((ih _ (by simp; omega)).mono ?_)
      rintro _ rfl
      rw [List.append_assoc]; rfl
    · have hv : 0 ≤ s.2.2.1 ∧ s.2.2.1 ≤ 2147483647 := hr 110 (.inr (.inl rfl))
      refine Ev.bind (apart_n s) ?_
      rintro _ rfl
      refine Ev.bind (text_ev s.2.2.1 (by omega) (by omega)) ?_
      rintro _ rfl
      refine Ev.guard (by simp only [List.length_singleton, maxLen]; omega) ((ih _ (by simp; omega)).mono ?_)
      rintro _ rfl
      rw [List.append_assoc]; rfl
    · have hv : 0 ≤ s.2.2.2.1 ∧ s.2.2.2.1 ≤ 2147483647 := hr 112 (.inr (.inr (.inl rfl)))
      refine Ev.bind (apart_p s) ?_
      rintro _ rfl
      refine Ev.bind (text_ev s.2.2.2.1 (by omega) (by omega)) ?_
      rintro _ rfl
      refine Ev.guard (by simp only [List.length_singleton, maxLen]; omega) ((ih _ (by simp; omega)).mono ?_)
      rintro _ rfl
      rw [List.append_assoc]; rfl
    · have hv : 0 ≤ s.2.2.2.2.1 ∧ s.2.2.2.2.1 ≤ 2147483647 := hr 119 (.inr (.inr (.inr (.inl rfl))))
      refine Ev.bind (apart_w s) ?_
      rintro _ rfl
      refine Ev.bind (text_ev s.2.2.2.2.1 (by omega) (by omega)) ?_
      rintro _ rfl
      refine Ev.guard (by simp only [List.length_singleton, maxLen]; omega) ((ih _ (by simp; omega)).mono ?_)
      rintro _ rfl
      rw [List.append_assoc]; rfl
    · have hv : 0 ≤ s.2.2.2.2.2.1 ∧ s.2.2.2.2.2.1 ≤ 2147483647 := hr 107 (.inr (.inr (.inr (.inr rfl))))
      refine Ev.bind (apart_k s) ?_
      rintro _ rfl
      refine Ev.bind (text_ev s.2.2.2.2.2.1 (by omega) (by omega)) ?_
      rintro _ rfl
      refine Ev.guard (by simp only [List.length_singleton, maxLen]; omega) ((ih _ (by simp; omega)).mono ?_)
      rintro _ rfl
      rw [List.append_assoc]; rfl
    · refine Ev.bind (apart_b s) ?_
      rintro _ rfl
      refine Ev.bind (hex_ev s.2.2.2.2.2.2 hg.2 hg.1) ?_
      rintro _ rfl
      refine Ev.guard (by simp only [List.length_singleton, maxLen]; omega) ((ih _ (by simp; omega)).mono ?_)
      rintro _ rfl
      rw [List.append_assoc]; rfl
theorem aline_ev (s : Stp) (hs : rightS s = true) (hg : Good s) : Ev (fun n => Go.Proofs.YtakamchmiakicaaDoorF25a.f65_script_line n s.1 s.2.1 s.2.2.1 s.2.2.2.1 s.2.2.2.2.1 s.2.2.2.2.2.1 s.2.2.2.2.2.2) (fun r => r = unw (lineS s)) := by
  have hk := (right_parts hs).1
  have hk1 : 1 ≤ s.1.toNat := by omega
  have hk2 : s.1.toNat < 17 := by omega
  unfold Go.Proofs.YtakamchmiakicaaDoorF25a.f65_script_line
  refine Ev.bind (P := fun r => r = Option.get Go.Proofs.YtakamchmiakicaaDoorF25a.f70_script_shapes rfl) (Ev.some rfl) ?_
  rintro _ rfl
  refine Ev.guard (by omega) (Ev.bind (aline_loop s (pt s.1.toNat) (wd s.1.toNat) (alf_pt hk2) (pt_sz hk2) hg (fun c hc => ⟨(right_get hs hc).1, (right_get hs hc).2.1⟩) (pt s.1.toNat).size 0 (by omega) [wd s.1.toNat] (by simp)) ?_)
  rintro _ rfl
  rw [List.drop_zero]
  have hD : ([wd s.1.toNat] ++ (D (pt s.1.toNat)).map (bfld s)).map D = D (wd s.1.toNat) :: (D (pt s.1.toNat)).map (fldT s) := by
    rw [List.singleton_append, List.map_cons, List.map_map]
    congr 1
    exact List.map_congr_left fun c _ => bfld_D s c
  have hfil : fil (D (wd s.1.toNat) :: (D (pt s.1.toNat)).map (fldT s)) = D (wd s.1.toNat) :: (D (pt s.1.toNat)).map (fldT s) := by
    unfold fil
    rw [List.filter_eq_self]
    intro w hw
    simp only [ne_eq, decide_not, Bool.not_eq_eq_eq_not, Bool.not_true, decide_eq_false_iff_not]
    rcases List.mem_cons.1 hw with rfl | hw
    · exact wd_ne hk1 hk2
    · obtain ⟨c, hc, rfl⟩ := List.mem_map.1 hw
      exact right_fld hs hc
  have hl : D (lineB ([wd s.1.toNat] ++ (D (pt s.1.toNat)).map (bfld s))) = lineS s := by
    rw [line_Dj, hD, hfil]; rfl
  have hlen := lineS_len hk hg
  have hp := pt_sz hk2
  rw [sz_D] at hp
  refine Ev.bind (line_ev _ (by simp; omega) (by rw [sz_D, hl]; omega)) ?_
  rintro _ rfl
  exact Ev.some (ext_D hl)
/-! The document's. -/
theorem get_is (c : UInt8) (hc : c = 104 ∨ c = 110 ∨ c = 112 ∨ c = 119 ∨ c = 107) (s : Stp) : Ev (fun _ => f74_broughamref25_get s.1 s.2.1 s.2.2.1 s.2.2.2.1 s.2.2.2.2.1 s.2.2.2.2.2.1 s.2.2.2.2.2.2 (c.toNat : Int)) (fun r => r = getC c s) := by
  rcases hc with rfl | rfl | rfl | rfl | rfl <;> exact Ev.some rfl
theorem has_loop (x : ByteArray) (c : UInt8) (hx : x.size ≤ 1000) : ∀ (d i : Nat) (hi : i + d = x.size), Ev (fun n => f75_broughamref25_has_L2 n x (c.toNat : Int) (i : Int)) (fun w => w = if c ∈ (D x).drop i then .inl true else .inr ())
  | 0, i, hi => by
    apply Ev.succ
    unfold f75_broughamref25_has_L2
    refine Ev.neg (by simp only [decide_eq_true_eq]; omega) (Ev.some ?_)
    rw [List.drop_eq_nil_of_le (by rw [← sz_D]; omega)]; simp
  | d + 1, i, hi => by
    have hil : i < (D x).length := by rw [← sz_D]; omega
    have hbt : byteAt x (i : Int) = (((D x)[i]'hil).toNat : Int) := byte_at hil
    have hdrop : (D x).drop i = (D x)[i] :: (D x).drop (i + 1) := List.drop_eq_getElem_cons hil
    have ih := has_loop x c hx d (i + 1) (by omega)
    apply Ev.succ
    unfold f75_broughamref25_has_L2
    rw [i64_id (e := (i : Int) + 1) (by omega) (by omega), hbt, hdrop]
    generalize (D x)[i] = y
    refine Ev.pos (by simp only [decide_eq_true_eq]; omega) (Ev.guard (by omega) (Ev.ite (fun c1 => Ev.some ?_) (fun c1 => ?_)))
    · have e : y = c := UInt8.toNat_inj.1 (by simp only [beq_iff_eq] at c1; omega)
      rw [if_pos (by rw [e]; exact List.mem_cons_self)]
    · have e : ¬ c = y := fun e => c1 (by rw [e]; simp)
      refine ih.mono ?_
      rintro _ rfl
      by_cases q : c ∈ (D x).drop (i + 1)
      · rw [if_pos q, if_pos (List.mem_cons_of_mem _ q)]
      · rw [if_neg q, if_neg (by simp only [List.mem_cons, not_or]; exact ⟨e, q⟩)]
theorem has_ev (x : ByteArray) (c : UInt8) (hx : x.size ≤ 1000) : Ev (fun n => f75_broughamref25_has n x (c.toNat : Int)) (fun r => r = decide (c ∈ D x)) := by
  unfold f75_broughamref25_has
  refine Ev.bind (has_loop x c hx x.size 0 (by omega)) ?_
  rintro _ rfl
  rw [List.drop_zero]
  by_cases q : c ∈ D x
  · rw [if_pos q, decide_eq_true q]; exact Ev.some rfl
  · rw [if_neg q, decide_eq_false q]; exact Ev.some rfl
theorem refright_loop (q : ByteArray) (s : Stp) (hq : q.size ≤ 1000) : ∀ (d i : Nat) (hi : i + d = 5),
    Ev (fun n => f44_broughamref25_Right_L6 n q (⟨#[104, 110, 112, 119, 107]⟩ : ByteArray) (i : Int) s.1 s.2.1 s.2.2.1 s.2.2.2.1 s.2.2.2.2.1 s.2.2.2.2.2.1 s.2.2.2.2.2.2) (fun w => w = R5 q s ((chs.drop i).all (fieldOK (D q) s)))
  | 0, i, hi => by
    obtain rfl : i = 5 := by omega
    apply Ev.succ
    unfold f44_broughamref25_Right_L6
    exact Ev.neg (by decide) (Ev.some rfl)
  | d + 1, i, hi => by
    have hc := chs_mem (show i < 5 by omega)
    have hg := chs_byte (show i < 5 by omega)
    have ih := refright_loop q s hq d (i + 1) (by omega)
    have hd : chs.drop i = chs.getD i 0 :: chs.drop (i + 1) := drop_cons (show i < 5 by omega) _
    have hz : (⟨#[104, 110, 112, 119, 107]⟩ : ByteArray).size = 5 := rfl
    apply Ev.succ
    unfold f44_broughamref25_Right_L6
    rw [hg, hd, List.all_cons, i64_id (e := (i : Int) + 1) (by omega) (by omega), hz]
    generalize chs.getD i 0 = c at hc
    refine Ev.pos (by simp only [decide_eq_true_eq]; omega) (Ev.guard (by omega) (Ev.bind (get_is c hc s) ?_))
    rintro _ rfl
    refine Ev.ite (fun c1 => Ev.some ?_) (fun c1 => Ev.ite (fun c2 => Ev.some ?_) (fun c2 => Ev.ite (fun c3 => Ev.guard (by omega) (Ev.bind (has_ev q c hq) ?_)) (fun c3 => ?_)))
    · simp only [decide_eq_true_eq] at c1
      rw [field_no (by omega)]; rfl
    · simp only [decide_eq_true_eq] at c2
      rw [field_no (by omega)]; rfl
    · rintro _ rfl
      simp only [decide_eq_true_eq] at c1 c2
      simp only [bne_iff_ne, ne_eq] at c3
      by_cases h : c ∈ D q
      · rw [decide_eq_true h, field_yes (by omega) (by omega) (.inr h)]
        exact Ev.neg (by decide) ih
      · rw [decide_eq_false h, field_no (by rintro ⟨_, _, w | w⟩; exact c3 w; exact h w)]
        exact Ev.pos (by decide) (Ev.some rfl)
    · simp only [decide_eq_true_eq] at c1 c2
      simp only [bne_iff_ne, ne_eq, Decidable.not_not] at c3
      rw [field_yes (by omega) (by omega) (.inl c3)]
      exact ih
theorem word_out {k : Int} (h : ¬ (1 ≤ k ∧ k ≤ 16)) : f73_broughamref25_word k = some (⟨#[]⟩, ⟨#[]⟩) := by
  unfold f73_broughamref25_word
  by_cases h1 : k < 1
  · rw [if_pos (decide_eq_true h1)]
  · rw [if_neg (by simpa using h1), if_pos (decide_eq_true (by omega))]
theorem word_in {k : Int} (h : 1 ≤ k ∧ k ≤ 16) : f73_broughamref25_word k = some (wd k.toNat, pt k.toNat) := by
  have := word_is (k := k.toNat) (by omega) (by omega)
  rwa [show ((k.toNat : Nat) : Int) = k by omega] at this
theorem refright_ev (s : Stp) : Ev (fun n => f44_broughamref25_Right n s.1 s.2.1 s.2.2.1 s.2.2.2.1 s.2.2.2.2.1 s.2.2.2.2.2.1 s.2.2.2.2.2.2) (fun r => r = rightS s) := by
  unfold f44_broughamref25_Right rightS
  by_cases hk : 1 ≤ s.1 ∧ s.1 ≤ 16
  · rw [decide_eq_true hk]
    refine Ev.bind (P := fun r => r = (wd s.1.toNat, pt s.1.toNat)) (Ev.of (word_in hk) rfl) ?_
    rintro _ rfl
    dsimp only
    rw [str_dec]
    have hp := pt_sz (show s.1.toNat < 17 by omega)
    refine Ev.neg (by rw [decide_eq_true_eq]; exact wd_ne (by omega) (by omega)) (Ev.bind (refright_loop (pt s.1.toNat) s (by omega) 5 0 rfl) ?_)
    rintro _ rfl
    rw [List.drop_zero]
    unfold R5
    cases hb : chs.all (fieldOK (D (pt s.1.toNat)) s) with
    | false => exact Ev.some rfl
    | true =>
      refine Ev.ite (fun c3 => Ev.some ?_) (fun c3 => Ev.bind (has_ev (pt s.1.toNat) 98 (by omega)) ?_)
      · simp only [beq_iff_eq] at c3
        rw [decide_eq_true (show byt s = [] from List.eq_nil_of_length_eq_zero (by have : ((byt s).length : Int) = 0 := c3; omega))]; rfl
      · rintro _ rfl
        refine Ev.some ?_
        simp only [beq_iff_eq] at c3
        rw [decide_eq_false (show ¬ byt s = [] from fun q => c3 (by have : byt s = s.2.2.2.2.2.2 := rfl; rw [this] at q; show ((s.2.2.2.2.2.2.length : Nat) : Int) = 0; rw [q]; rfl))]; rfl
  · rw [decide_eq_false hk]
    refine Ev.bind (P := fun r => r = (⟨#[]⟩, ⟨#[]⟩)) (Ev.of (word_out hk) rfl) ?_
    rintro _ rfl
    exact Ev.pos (str_refl _) (Ev.some rfl)
theorem join_tail_cons (x : List UInt8) (r : List (List UInt8)) : Lib.joinTail [32] (x :: r) = 32 :: (x ++ Lib.joinTail [32] r) := by simp [Lib.joinTail]
theorem refline_loop (s : Stp) (q : ByteArray) (ha : Alf (D q)) (hq : q.size ≤ 4) (hg : Good s) (hr : ∀ c, c = 104 ∨ c = 110 ∨ c = 112 ∨ c = 119 ∨ c = 107 → 0 ≤ getC c s ∧ getC c s ≤ 2147483647) : ∀ (d i : Nat) (hi : i + d = q.size) (w : ByteArray) (hw : w.size ≤ 1000000 + i * 200000),
    Ev (fun n => f69_broughamref25_Line_L3 n w q (i : Int) s.1 s.2.1 s.2.2.1 s.2.2.2.1 s.2.2.2.2.1 s.2.2.2.2.2.1 s.2.2.2.2.2.2) (fun r => D r = D w ++ Lib.joinTail [32] (((D q).drop i).map (fldT s)))
  | 0, i, hi, w, hw => by
    apply Ev.succ
    unfold f69_broughamref25_Line_L3
    refine Ev.neg (by simp only [decide_eq_true_eq]; omega) (Ev.some ?_)
    rw [List.drop_eq_nil_of_le (by rw [← sz_D]; omega)]
    simp [Lib.joinTail]
  | d + 1, i, hi, w, hw => by
    have hil : i < (D q).length := by rw [← sz_D]; omega
    have hbt : byteAt q (i : Int) = (((D q)[i]'hil).toNat : Int) := byte_at hil
    have hdrop : (D q).drop i = (D q)[i] :: (D q).drop (i + 1) := List.drop_eq_getElem_cons hil
    have hc := ha _ (List.getElem_mem hil)
    have ih := fun w' hw' => refline_loop s q ha hq hg hr d (i + 1) (by omega) w' hw'
    have h98 : (98 : UInt8).toNat = 98 := rfl
    have hs1 : (⟨#[32]⟩ : ByteArray).size = 1 := rfl
    apply Ev.succ
    unfold f69_broughamref25_Line_L3
    rw [i64_id (e := (i : Int) + 1) (by omega) (by omega), hbt, hdrop]
    generalize (D q)[i] = c at hc
    have hfl := fld_len s c hg.2
    have go : ∀ x : ByteArray, D x = fldT s c → Ev (fun n => f69_broughamref25_Line_L3 n (w ++ ((⟨#[32]⟩ : ByteArray) ++ x)) q ((i : Int) + 1) s.1 s.2.1 s.2.2.1 s.2.2.2.1 s.2.2.2.2.1 s.2.2.2.2.2.1 s.2.2.2.2.2.2) (fun r => D r = D w ++ Lib.joinTail [32] ((c :: (D q).drop (i + 1)).map (fldT s))) := by
      intro x hx
      have hxs : x.size = (fldT s c).length := by rw [sz_D, hx]
      refine (ih (w ++ ((⟨#[32]⟩ : ByteArray) ++ x)) (by rw [sz_app, sz_app, hs1, hxs]; omega)).mono ?_
      intro r hr
      rw [hr, List.map_cons, join_tail_cons, D_app, D_app, hx]
      show D w ++ ([32] ++ _) ++ _ = D w ++ ([32] ++ (_ ++ _))
      simp only [List.append_assoc]
    refine Ev.pos (by simp only [decide_eq_true_eq]; omega) (Ev.guard (by omega) (Ev.ite (fun c0 => ?_) (fun c0 => ?_)))
    · have e0 : c = 98 := UInt8.toNat_inj.1 (by simp only [beq_iff_eq] at c0; omega)
      refine Ev.bind (refhex_is s.2.2.2.2.2.2 hg.2 hg.1) ?_
      rintro _ rfl
      have hx : D (hexB s.2.2.2.2.2.2) = fldT s c := by rw [e0]; rfl
      have hxs : (hexB s.2.2.2.2.2.2).size = (fldT s c).length := by rw [sz_D, hx]
      exact Ev.guard (by rw [hs1, hxs]; omega) (Ev.guard (by rw [sz_app, hs1, hxs]; omega) (go _ hx))
    · have e0 : ¬ c = 98 := fun e => c0 (by rw [e]; rfl)
      have hc : c = 104 ∨ c = 110 ∨ c = 112 ∨ c = 119 ∨ c = 107 := by
        rcases hc with h | h | h | h | h | h
        · exact .inl h
        · exact .inr (.inl h)
        · exact .inr (.inr (.inl h))
        · exact .inr (.inr (.inr (.inl h)))
        · exact .inr (.inr (.inr (.inr h)))
        · exact absurd h e0
      have hv := hr c hc
      refine Ev.guard (by omega) (Ev.bind (get_is c hc s) ?_)
      rintro _ rfl
      refine Ev.bind (textZ (getC c s) (by omega) (by omega)) ?_
      rintro _ rfl
      have hx : D (textB (getC c s)) = fldT s c := by unfold fldT; rw [if_neg e0]; rfl
      have hxs : (textB (getC c s)).size = (fldT s c).length := by rw [sz_D, hx]
      exact Ev.guard (by rw [hs1, hxs]; omega) (Ev.guard (by rw [sz_app, hs1, hxs]; omega) (go _ hx))
theorem refline_ev (s : Stp) (hs : rightS s = true) (hg : Good s) : Ev (fun n => f69_broughamref25_Line n s.1 s.2.1 s.2.2.1 s.2.2.2.1 s.2.2.2.2.1 s.2.2.2.2.2.1 s.2.2.2.2.2.2) (fun r => r = unw (lineS s ++ [10])) := by
  have hk := (right_parts hs).1
  have hk1 : 1 ≤ s.1.toNat := by omega
  have hk2 : s.1.toNat < 17 := by omega
  have hw := wd_len hk1 hk2
  rw [← sz_D] at hw
  unfold f69_broughamref25_Line
  refine Ev.bind (P := fun r => r = (wd s.1.toNat, pt s.1.toNat)) (Ev.of (word_in hk) rfl) ?_
  rintro _ rfl
  refine Ev.bind (refline_loop s (pt s.1.toNat) (alf_pt hk2) (pt_sz hk2) hg (fun c hc => ⟨(right_get hs hc).1, (right_get hs hc).2.1⟩) (pt s.1.toNat).size 0 (by omega) (wd s.1.toNat) (by omega)) ?_
  intro r hr
  rw [List.drop_zero] at hr
  have hr : D r = lineS s := by
    unfold lineS
    rw [hr, Lib.join_cons]
  have hlen := lineS_len hk hg
  have hsz : r.size = (lineS s).length := by rw [sz_D, hr]
  have hs1 : (⟨#[10]⟩ : ByteArray).size = 1 := rfl
  refine Ev.guard (by rw [hs1, hsz]; omega) (Ev.some (ext_D ?_))
  rw [D_app, hr]; rfl
end Go.Proofs.YtakamchmiakicaaDoorF25
