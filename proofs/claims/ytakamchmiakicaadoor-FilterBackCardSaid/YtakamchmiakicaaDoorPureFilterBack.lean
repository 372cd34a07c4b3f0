/- FilterBack as plain Lean: of the functions that text F35b prints, the law answers true for every filter and text. Conditions: none. -/
import Derived.Test.YtakamchmiakicaaDoorPureFMade
namespace Go.Proofs.YtakamchmiakicaaDoorF35b
open Go Zed Go.Proofs.YtakamchmiakicaaDoorLeaf
set_option linter.unusedVariables false
set_option linter.unusedSimpArgs false
set_option maxRecDepth 100000

theorem _root_.Zed.Ev.sh {α : Type} {f : Nat → Option α} {Q : α → Prop} (h : Ev f Q) : Ev (fun n => f (n + 1)) Q := by
  obtain ⟨r, h1, N, h2⟩ := h
  exact ⟨r, h1, N, fun n hn => h2 (n + 1) (by omega)⟩
/-- A node of what stands below it. -/
def nd (o n : Int) : List PT → PT
  | [] => .node o n .nil .nil
  | [a] => .node o n a .nil
  | a :: b :: _ => .node o n a b
mutual
def md : FT → PT
  | .mk o n l => nd o n (mds l)
def mds : List FT → List PT
  | [] => []
  | t :: r => md t :: mds r
end
mutual
/-- At most two below each. -/
def tw : FT → Prop
  | .mk o n l => l.length ≤ 2 ∧ tws l
def tws : List FT → Prop
  | [] => True
  | t :: r => tw t ∧ tws r
end
theorem un_1 (x : FR) (l : List FR) : (x :: l).getD 0 (0, 0, []) = x := rfl
theorem un_2 (x y : FR) (l : List FR) : (x :: y :: l).getD 1 (0, 0, []) = y := rfl
abbrev MadeE (x : FT) : Prop := Ev (fun n => f28_broughamlaw35_Made n x.un.1 x.un.2.1 (x.un.2.2.map FT.un)) (fun r => r = md x)
theorem made_step (o k : Int) (l : List FT) (h : ∀ x ∈ l, MadeE x) : MadeE (.mk o k l) := by
  show Ev (fun n => f28_broughamlaw35_Made n o k (l.map FT.un)) (fun r => r = nd o k (mds l))
  apply Ev.succ
  simp only [f28_broughamlaw35_Made]
  match l, h with
  | [], h =>
    refine Ev.neg (by simp) (Ev.neg (by simp) (Ev.some rfl))
  | [a], h =>
    refine Ev.pos (by simp) (Ev.guard (by simp) (Ev.bind (h a (by simp)) ?_))
    rintro _ rfl
    exact Ev.neg (by simp) (Ev.some rfl)
  | a :: b :: r, h =>
    refine Ev.pos (by simp; omega) (Ev.guard (by simp; omega) (Ev.bind (h a (by simp)) ?_))
    rintro _ rfl
    refine Ev.pos (by simp; omega) (Ev.guard (by simp; omega) (Ev.bind (h b (by simp)) ?_))
    rintro _ rfl
    exact Ev.some rfl
mutual
theorem made_ev : ∀ x : FT, MadeE x
  | .mk o k l => made_step o k l (mades_ev l)
theorem mades_ev : ∀ l : List FT, ∀ x ∈ l, MadeE x
  | [], x, h => by cases h
  | t :: r, x, h => by
    rcases List.mem_cons.1 h with e | h
    · rw [e]; exact made_ev t
    · exact mades_ev r x h
end
/-- How many parts: never none; of a small tree, more than may be if there are more than two below one. -/
abbrev PartsE (x : FT) : Prop := Ev (fun n => f37_broughamlaw35_parts n x.un.1 x.un.2.1 (x.un.2.2.map FT.un) 200) (fun r => dpt (md x) ≤ 17 → 1 ≤ r ∧ r + 1 ≤ 202 * 2 ^ dpt (md x) ∧ (r ≤ 200 → tw x))
theorem parts_step (o k : Int) (l : List FT) (h : ∀ x ∈ l, PartsE x) : PartsE (.mk o k l) := by
  show Ev (fun n => f37_broughamlaw35_parts n o k (l.map FT.un) 200) (fun r => dpt (nd o k (mds l)) ≤ 17 → 1 ≤ r ∧ r + 1 ≤ 202 * 2 ^ dpt (nd o k (mds l)) ∧ (r ≤ 200 → tw (.mk o k l)))
  have two : ∀ d : Nat, 202 * 2 ^ (d + 1) = 2 * (202 * 2 ^ d) := fun d => by rw [Nat.pow_succ]; omega
  have big : ∀ d : Nat, d ≤ 17 → 202 * 2 ^ d ≤ 26476544 := fun d h => by have := pow17 h; omega
  apply Ev.succ
  simp only [f37_broughamlaw35_parts]
  match l, h with
  | [], h =>
    refine Ev.neg (by simp) (Ev.bind (P := fun r => r = 1) ?_ ?_)
    · apply Ev.succ
      simp only [f37_broughamlaw35_parts_L5]
      exact Ev.neg (by simp) (Ev.some rfl)
    · rintro _ rfl
      refine Ev.some fun hd => ⟨by omega, ?_, fun _ => ⟨by simp, trivial⟩⟩
      show (1 : Int) + 1 ≤ 202 * 2 ^ 1
      decide
  | [a], h =>
    have ha := h a (by simp)
    have hd1 : dpt (nd o k (mds [a])) = dpt (md a) + 1 := by show max (dpt (md a)) 0 + 1 = _; omega
    refine Ev.neg (by simp) (Ev.bind (P := fun r => dpt (nd o k (mds [a])) ≤ 17 → 1 ≤ r ∧ r + 1 ≤ 202 * 2 ^ dpt (nd o k (mds [a])) ∧ (r ≤ 200 → tw (.mk o k [a]))) ?_ (fun r hr => Ev.some hr))
    apply Ev.succ
    simp only [f37_broughamlaw35_parts_L5]
    refine Ev.pos (by simp) (Ev.pos (by decide) (Ev.guard (by simp) (Ev.bind (Ev.sh ha) fun r hr => ?_)))
    apply Ev.succ
    simp only [f37_broughamlaw35_parts_L5]
    rw [show IntKind.wrap .i64 (0 + 1) = 1 from by decide]
    refine Ev.neg (by simp) (Ev.some fun hd => ?_)
    rw [hd1] at hd ⊢
    obtain ⟨r1, r2, r3⟩ := hr (by omega)
    have b1 := big _ (show dpt (md a) ≤ 17 by omega)
    have c1 : ((202 * 2 ^ dpt (md a) : Nat) : Int) = 202 * 2 ^ dpt (md a) := by push_cast; rfl
    rw [i64_id (by omega) (by omega)]
    refine ⟨by omega, ?_, fun q => ⟨by simp, r3 (by omega), trivial⟩⟩
    have c2 : ((202 * 2 ^ (dpt (md a) + 1) : Nat) : Int) = 202 * 2 ^ (dpt (md a) + 1) := by push_cast; rfl
    rw [← c2, two]; push_cast; omega
  | [a, b], h =>
    have ha := h a (by simp)
    have hb := h b (by simp)
    have hd1 : dpt (nd o k (mds [a, b])) = max (dpt (md a)) (dpt (md b)) + 1 := rfl
    refine Ev.neg (by simp) (Ev.bind (P := fun r => dpt (nd o k (mds [a, b])) ≤ 17 → 1 ≤ r ∧ r + 1 ≤ 202 * 2 ^ dpt (nd o k (mds [a, b])) ∧ (r ≤ 200 → tw (.mk o k [a, b]))) ?_ (fun r hr => Ev.some hr))
    apply Ev.succ
    simp only [f37_broughamlaw35_parts_L5]
    refine Ev.pos (by simp) (Ev.pos (by decide) (Ev.guard (by simp) (Ev.bind (Ev.sh ha) fun r hr => ?_)))
    have mono : ∀ d e : Nat, d ≤ e → 202 * 2 ^ d ≤ 202 * 2 ^ e := fun d e h => Nat.mul_le_mul_left _ (Nat.pow_le_pow_right (by omega) h)
    have c2 : ((202 * 2 ^ (max (dpt (md a)) (dpt (md b)) + 1) : Nat) : Int) = 202 * 2 ^ (max (dpt (md a)) (dpt (md b)) + 1) := by push_cast; rfl
    have ca : ((202 * 2 ^ dpt (md a) : Nat) : Int) = 202 * 2 ^ dpt (md a) := by push_cast; rfl
    have cb : ((202 * 2 ^ dpt (md b) : Nat) : Int) = 202 * 2 ^ dpt (md b) := by push_cast; rfl
    have m1 := mono (dpt (md a)) (max (dpt (md a)) (dpt (md b))) (by omega)
    have m2 := mono (dpt (md b)) (max (dpt (md a)) (dpt (md b))) (by omega)
    have t1 := two (max (dpt (md a)) (dpt (md b)))
    apply Ev.succ
    simp only [f37_broughamlaw35_parts_L5]
    rw [show IntKind.wrap .i64 (0 + 1) = 1 from by decide]
    refine Ev.pos (by simp) (Ev.ite (fun c => Ev.guard (by simp) (Ev.bind (Ev.sh (Ev.sh hb)) fun s hs => ?_)) (fun c => Ev.some fun hd => ?_))
    · apply Ev.succ
      simp only [f37_broughamlaw35_parts_L5]
      rw [show IntKind.wrap .i64 (1 + 1) = 2 from by decide]
      refine Ev.neg (by simp) (Ev.some fun hd => ?_)
      simp only [decide_eq_true_eq] at c
      rw [hd1] at hd ⊢
      obtain ⟨r1, r2, r3⟩ := hr (by omega)
      obtain ⟨s1, s2, s3⟩ := hs (by omega)
      have b1 := big _ (show dpt (md a) ≤ 17 by omega)
      have b2 := big _ (show dpt (md b) ≤ 17 by omega)
      rw [i64_id (e := 1 + r) (by omega) (by omega)] at c ⊢
      rw [i64_id (by omega) (by omega)]
      refine ⟨by omega, ?_, fun q => ⟨by simp, r3 (by omega), s3 (by omega), trivial⟩⟩
      rw [← c2]; omega
    · simp only [decide_eq_true_eq] at c
      rw [hd1] at hd ⊢
      obtain ⟨r1, r2, r3⟩ := hr (by omega)
      have b1 := big _ (show dpt (md a) ≤ 17 by omega)
      rw [i64_id (e := 1 + r) (by omega) (by omega)] at c ⊢
      refine ⟨by omega, ?_, fun q => by omega⟩
      rw [← c2]; omega
  | a :: b :: c :: r, h =>
    refine Ev.pos (by simp; omega) (Ev.some fun hd => ⟨by decide, ?_, fun q => absurd q (by decide)⟩)
    have h1 : 1 ≤ dpt (nd o k (mds (a :: b :: c :: r))) := by show 1 ≤ max _ _ + 1; omega
    have h2 : 2 ^ 1 ≤ 2 ^ dpt (nd o k (mds (a :: b :: c :: r))) := Nat.pow_le_pow_right (by omega) h1
    have c1 : ((202 * 2 ^ dpt (nd o k (mds (a :: b :: c :: r))) : Nat) : Int) = 202 * 2 ^ dpt (nd o k (mds (a :: b :: c :: r))) := by push_cast; rfl
    rw [← c1, show IntKind.wrap .i64 (200 + 1) = 201 by decide]
    omega
mutual
theorem parts_ev : ∀ x : FT, PartsE x
  | .mk o k l => parts_step o k l (partss_ev l)
theorem partss_ev : ∀ l : List FT, ∀ x ∈ l, PartsE x
  | [], x, h => by cases h
  | t :: r, x, h => by
    rcases List.mem_cons.1 h with e | h
    · rw [e]; exact parts_ev t
    · exact partss_ev r x h
end
theorem great_ev (x : FT) : Ev (fun n => f26_broughamlaw35_great n x.un.1 x.un.2.1 (x.un.2.2.map FT.un)) (fun r => r = false → dpt (md x) ≤ 17 → tw x) := by
  unfold f26_broughamlaw35_great
  refine Ev.bind (parts_ev x) fun r hr => Ev.some fun q hd => (hr hd).2.2 ?_
  simpa using q
theorem md_node : ∀ x : FT, (md x).isNil = false
  | .mk o n l => by
    show (nd o n (mds l)).isNil = false
    match mds l with
    | [] => rfl
    | [a] => rfl
    | a :: b :: r => rfl
theorem un_of_map (l : List FT) : (l.map FT.un).map FT.of = l := by
  rw [List.map_map]
  conv => rhs; rw [← List.map_id l]
  exact List.map_congr_left fun a _ => by cases a; rfl
mutual
theorem pf_md : ∀ x : FT, tw x → pf (md x) = (x.un.1, x.un.2.1, x.un.2.2.map FT.un)
  | .mk o n [], h => rfl
  | .mk o n [a], h => by
    have ha := pf_md a h.2.1
    have hn := md_node a
    show pf (.node o n (md a) .nil) = (o, n, [a.un])
    show (o, n, (if (md a).isNil = true then [] else [pk (pf (md a))]) ++ []) = _
    rw [hn, ha]
    show (o, n, [(a.un.1, a.un.2.1, (a.un.2.2.map FT.un).map FT.of)]) = _
    rw [un_of_map]
  | .mk o n [a, b], h => by
    have ha := pf_md a h.2.1
    have hb := pf_md b h.2.2.1
    have hn := md_node a
    have hm := md_node b
    show (o, n, (if (md a).isNil = true then [] else [pk (pf (md a))]) ++ (if (md b).isNil = true then [] else [pk (pf (md b))])) = (o, n, [a.un, b.un])
    rw [hn, ha, hm, hb]
    show (o, n, [(a.un.1, a.un.2.1, (a.un.2.2.map FT.un).map FT.of), (b.un.1, b.un.2.1, (b.un.2.2.map FT.un).map FT.of)]) = _
    rw [un_of_map, un_of_map]
  | .mk o n (a :: b :: c :: r), h => by
    have := h.1
    simp at this
end
theorem tx_ne {t : PT} (h : Tr t) (hg : Good t) : (!((tx t).toList == (⟨#[]⟩ : ByteArray).toList)) = true := by
  unfold Good at hg
  simp only [Bool.and_eq_true] at hg
  have := (tx_is h hg.2).2.1
  have e : ¬ ((tx t).toList == (⟨#[]⟩ : ByteArray).toList) = true := fun q => by
    rw [str_dec, decide_eq_true_eq] at q
    rw [sz_D, show D (tx t) = [] from q] at this
    simp at this
  simpa using e
/-- The second half: what is read is written, and read as the same. -/
theorem back_half (t : ByteArray) : Ev (fun n => (f21_filter_Parse n t).bind fun r319_0 =>
      if (!r319_0.2) = true then
        if (PT.isNil r319_0.1) = true then
          (f23_broughamlaw35_alive n).bind fun r321_0 =>
          some r321_0
        else
          some false
      else
        (f27_filter_Text n r319_0.1).bind fun r367_0 =>
        (f21_filter_Parse n r367_0).bind fun r368_0 =>
        if (!(r367_0.toList == (⟨#[]⟩ : ByteArray).toList)) = true then
          if (decide ((((r367_0.size : Nat) : Int) : Int) > 4096)) = true then
            (f23_broughamlaw35_alive n).bind fun r369_0 =>
            some r369_0
          else
            if r368_0.2 = true then
              (f25_broughamlaw35_Plain n r319_0.1 20).bind fun r369_0 =>
              (f25_broughamlaw35_Plain n r368_0.1 20).bind fun r369_1 =>
              (f24_broughamref35_Same n r369_0.1 r369_0.2.1 r369_0.2.2 r369_1.1 r369_1.2.1 r369_1.2.2).bind fun r369_2 =>
              if r369_2 = true then
                (f23_broughamlaw35_alive n).bind fun r369_3 =>
                some r369_3
              else
                some false
            else
              some false
        else
          some false) (fun r => r = true) := by
  refine Ev.bind (parseT_ev t) fun r hr => ?_
  rcases hr with ⟨rfl, _⟩ | ⟨u, ⟨_, hu, hg⟩, rfl⟩
  · exact Ev.pos (by simp) (Ev.pos (by simp [PT.isNil]) (Ev.bind alive_ev (fun r hr => Ev.some hr)))
  · have htr := (or_tr hu).1
    have hg0 := hg
    unfold Good at hg0
    simp only [Bool.and_eq_true, decide_eq_true_eq] at hg0
    refine Ev.neg (by simp) (Ev.bind (text_says u) fun s hs => ?_)
    rcases hs with ⟨_, _, rfl⟩ | ⟨hs, _⟩
    · refine Ev.bind (parse_tx htr hg) ?_
      rintro _ rfl
      refine Ev.pos (tx_ne htr hg) (Ev.ite (fun c => Ev.bind alive_ev (fun r hr => Ev.some hr)) (fun c => ?_))
      have hc : (tx u).size ≤ 4096 := by simp only [decide_eq_true_eq] at c; omega
      rw [if_pos hc]
      refine Ev.pos rfl (Ev.bind (plainF_ev htr 20 (by omega)) ?_)
      rintro _ rfl
      refine Ev.bind (plainF_ev htr 20 (by omega)) ?_
      rintro _ rfl
      refine Ev.bind (sameF_ev htr) ?_
      rintro _ rfl
      exact Ev.pos rfl (Ev.bind alive_ev (fun r hr => Ev.some hr))
    · exact absurd ⟨htr, hg⟩ hs
theorem FilterBack (x0 : Int × Int × List FT) (o0 : K.ok FK x0) (x1 : ByteArray) (o1 : K.ok .str x1) : ∃ n, f6_broughamlaw35_FilterBack n x0.1 x0.2.1 (x0.2.2.map FT.un) x1 = some true := by
  apply Ev.true
  have gr := great_ev (.of x0)
  have mk := made_ev (.of x0)
  have gr : Ev (fun n => f26_broughamlaw35_great n x0.1 x0.2.1 (x0.2.2.map FT.un)) (fun r => r = false → dpt (md (.of x0)) ≤ 17 → tw (.of x0)) := gr
  have mk : Ev (fun n => f28_broughamlaw35_Made n x0.1 x0.2.1 (x0.2.2.map FT.un)) (fun r => r = md (.of x0)) := mk
  unfold f6_broughamlaw35_FilterBack
  refine Ev.bind gr fun r hr => Ev.ite (fun _ => Ev.some rfl) (fun c => Ev.ite (fun _ => Ev.some rfl) (fun c2 => ?_))
  have hr := hr (by simpa using c)
  refine Ev.bind mk ?_
  rintro _ rfl
  refine Ev.bind (text_says (md (.of x0))) fun s hs => ?_
  rcases hs with ⟨htr, hg, rfl⟩ | ⟨_, rfl⟩
  · refine Ev.bind (parse_tx htr hg) ?_
    rintro _ rfl
    refine Ev.pos (tx_ne htr hg) (Ev.ite (fun c3 => ?_) (fun c3 => back_half x1))
    have hc : (tx (md (.of x0))).size ≤ 4096 := by simp only [decide_eq_true_eq] at c3; omega
    rw [if_pos hc]
    have hg0 := hg
    unfold Good at hg0
    simp only [Bool.and_eq_true, decide_eq_true_eq] at hg0
    have hpf : pf (md (.of x0)) = (x0.1, x0.2.1, x0.2.2.map FT.un) := pf_md (.of x0) (hr (by omega))
    refine Ev.neg (by simp) (Ev.bind (plainF_ev htr 20 (by omega)) ?_)
    rintro _ rfl
    have hs := sameF_ev htr
    rw [hpf] at hs ⊢
    refine Ev.bind hs ?_
    rintro _ rfl
    exact Ev.neg (by simp) (back_half x1)
  · refine Ev.bind (parseT_ev _) fun r _ => ?_
    exact Ev.neg (by simp) (back_half x1)
end Go.Proofs.YtakamchmiakicaaDoorF35b
