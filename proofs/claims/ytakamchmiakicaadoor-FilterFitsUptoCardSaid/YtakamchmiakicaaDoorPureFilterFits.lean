/- FilterFits as plain Lean: of the functions that text F35c prints, the law answers true for every filter that is no deeper than 2000000 and every segment. Conditions: none. -/
import Derived.Test.YtakamchmiakicaaDoorPureFFits
namespace Go.Proofs.YtakamchmiakicaaDoorF35c
open Go Zed Go.Proofs.YtakamchmiakicaaDoorLeaf
set_option linter.unusedVariables false
set_option linter.unusedSimpArgs false
set_option maxRecDepth 100000

/-! The document's text. -/
theorem dt1 (n : Nat) (k : Int) (L : List FR) : f35_broughamref35_Text (n + 3) 1 k L = some tAll := by kernel_rfl
theorem dt11 (n : Nat) (k : Int) (L : List FR) : f35_broughamref35_Text (n + 3) 11 k L = some tEmpty := by kernel_rfl
theorem dt21 (n : Nat) (L : List FR) : f35_broughamref35_Text (n + 3) 2 1 L = some tSyn := by kernel_rfl
theorem dt22 (n : Nat) (L : List FR) : f35_broughamref35_Text (n + 3) 2 2 L = some tAck := by kernel_rfl
theorem dt24 (n : Nat) (L : List FR) : f35_broughamref35_Text (n + 3) 2 4 L = some tRst := by kernel_rfl
def numT (w : BA) (o : Option BA) : Option BA := o.bind fun r => if (w ++ (⟨#[32]⟩ : BA)).size + r.size ≤ 9223372036854775807 then some ((w ++ (⟨#[32]⟩ : BA)) ++ r) else none
theorem dt3 (n : Nat) (k : Int) (L : List FR) : f35_broughamref35_Text (n + 3) 3 k L = (numT tPort (f62_broughamref01_Text (n + 1) k)).bind fun w => some w := by kernel_rfl
theorem dt4 (n : Nat) (k : Int) (L : List FR) : f35_broughamref35_Text (n + 3) 4 k L = (numT tSrc (f62_broughamref01_Text (n + 1) k)).bind fun w => some w := by kernel_rfl
theorem dt5 (n : Nat) (k : Int) (L : List FR) : f35_broughamref35_Text (n + 3) 5 k L = (numT tDst (f62_broughamref01_Text (n + 1) k)).bind fun w => some w := by kernel_rfl
theorem dt6 (n : Nat) (k : Int) (L : List FR) : f35_broughamref35_Text (n + 3) 6 k L = (numT tHas (f62_broughamref01_Text (n + 1) k)).bind fun w => some w := by kernel_rfl
theorem dt7 (n : Nat) (k : Int) (L : List FR) : f35_broughamref35_Text (n + 3) 7 k L = (numT tLong (f62_broughamref01_Text (n + 1) k)).bind fun w => some w := by kernel_rfl
theorem dt8 (n : Nat) (k : Int) (x : FR) : f35_broughamref35_Text (n + 3) 8 k [x] = ((f35_broughamref35_Text (n + 2) x.1 x.2.1 (x.2.2.map FT.un)).bind fun r => if (⟨#[40, 32, 110, 111, 116, 32]⟩ : BA).size + r.size ≤ 9223372036854775807 then
    if ((⟨#[40, 32, 110, 111, 116, 32]⟩ : BA) ++ r).size + (⟨#[32, 41]⟩ : BA).size ≤ 9223372036854775807 then some ((⟨#[40, 32, 110, 111, 116, 32]⟩ ++ r) ++ ⟨#[32, 41]⟩) else none else none).bind fun w => some w := by kernel_rfl
theorem dt9 (n : Nat) (k : Int) (x y : FR) : f35_broughamref35_Text (n + 3) 9 k [x, y] = ((f35_broughamref35_Text (n + 2) x.1 x.2.1 (x.2.2.map FT.un)).bind fun r => if (⟨#[40, 32]⟩ : BA).size + r.size ≤ 9223372036854775807 then
    if ((⟨#[40, 32]⟩ : BA) ++ r).size + (⟨#[32, 97, 110, 100, 32]⟩ : BA).size ≤ 9223372036854775807 then (f35_broughamref35_Text (n + 2) y.1 y.2.1 (y.2.2.map FT.un)).bind fun s =>
    if (((⟨#[40, 32]⟩ : BA) ++ r) ++ (⟨#[32, 97, 110, 100, 32]⟩ : BA)).size + s.size ≤ 9223372036854775807 then
    if ((((⟨#[40, 32]⟩ : BA) ++ r) ++ (⟨#[32, 97, 110, 100, 32]⟩ : BA)) ++ s).size + (⟨#[32, 41]⟩ : BA).size ≤ 9223372036854775807 then some ((((⟨#[40, 32]⟩ ++ r) ++ ⟨#[32, 97, 110, 100, 32]⟩) ++ s) ++ ⟨#[32, 41]⟩) else none else none else none else none).bind fun w => some w := by kernel_rfl
theorem dt10 (n : Nat) (k : Int) (x y : FR) : f35_broughamref35_Text (n + 3) 10 k [x, y] = ((f35_broughamref35_Text (n + 2) x.1 x.2.1 (x.2.2.map FT.un)).bind fun r => if (⟨#[40, 32]⟩ : BA).size + r.size ≤ 9223372036854775807 then
    if ((⟨#[40, 32]⟩ : BA) ++ r).size + (⟨#[32, 111, 114, 32]⟩ : BA).size ≤ 9223372036854775807 then (f35_broughamref35_Text (n + 2) y.1 y.2.1 (y.2.2.map FT.un)).bind fun s =>
    if (((⟨#[40, 32]⟩ : BA) ++ r) ++ (⟨#[32, 111, 114, 32]⟩ : BA)).size + s.size ≤ 9223372036854775807 then
    if ((((⟨#[40, 32]⟩ : BA) ++ r) ++ (⟨#[32, 111, 114, 32]⟩ : BA)) ++ s).size + (⟨#[32, 41]⟩ : BA).size ≤ 9223372036854775807 then some ((((⟨#[40, 32]⟩ ++ r) ++ ⟨#[32, 111, 114, 32]⟩) ++ s) ++ ⟨#[32, 41]⟩) else none else none else none else none).bind fun w => some w := by kernel_rfl
theorem docnum {f : Nat → Option BA} {k : Int} {w h : BA} (hf : ∀ n, f (n + 3) = (numT w (f62_broughamref01_Text (n + 1) k)).bind fun w => some w) (hk : 0 ≤ k ∧ k ≤ 2147483647) (hw : w ++ (⟨#[32]⟩ : BA) = h) (hz : (h ++ textB k).size ≤ 30) : Ev f (fun r => r = h ++ textB k) := by
  obtain ⟨r, rfl, N, hN⟩ := textZ k (by omega) (by omega)
  refine ⟨_, rfl, N + 3, fun n hn => ?_⟩
  obtain ⟨m, rfl⟩ : ∃ m, n = m + 3 := ⟨n - 3, by omega⟩
  have hN : f62_broughamref01_Text (m + 1) k = some (textB k) := hN (m + 1) (by omega)
  rw [hf, bs, hN]
  unfold numT
  rw [Option.bind_some, hw, if_pos (by rw [sz_app] at hz; omega)]
theorem docleaf {o : Int} (h : Leaf o) (k : Int) (hl : leafS o k = true) : Ev (fun n => f35_broughamref35_Text n o k []) (fun r => r = leafT o k) := by
  have hn := leafS_num h hl
  have hz := (leaf_pc h hl).2.2
  have one : ∀ {f : Nat → Option BA} {r : BA}, (∀ n, f (n + 3) = some r) → Ev f (fun x => x = r) := fun hf => ⟨_, rfl, 3, fun n hn => by
    obtain ⟨m, rfl⟩ : ∃ m, n = m + 3 := ⟨n - 3, by omega⟩
    exact hf m⟩
  rcases h with rfl | rfl | rfl | rfl | rfl | rfl | rfl | rfl
  · exact one (fun n => dt1 n k [])
  · have hk : k = 1 ∨ k = 2 ∨ k = 4 := by simpa [leafS] using hl
    rcases hk with rfl | rfl | rfl
    · exact one (fun n => dt21 n [])
    · exact one (fun n => dt22 n [])
    · exact one (fun n => dt24 n [])
  · exact docnum (fun n => dt3 n k []) (hn (by decide) (by decide) (by decide)) (ext_D (by rw [D_app]; rfl)) hz
  · exact docnum (fun n => dt4 n k []) (hn (by decide) (by decide) (by decide)) (ext_D (by rw [D_app]; rfl)) hz
  · exact docnum (fun n => dt5 n k []) (hn (by decide) (by decide) (by decide)) (ext_D (by rw [D_app]; rfl)) hz
  · exact docnum (fun n => dt6 n k []) (hn (by decide) (by decide) (by decide)) (ext_D (by rw [D_app]; rfl)) hz
  · exact docnum (fun n => dt7 n k []) (hn (by decide) (by decide) (by decide)) (ext_D (by rw [D_app]; rfl)) hz
  · exact one (fun n => dt11 n k [])
theorem doctext_ev : ∀ {t : PT} (h : Tr t) (hl : lvs t = true) (hd : dpt t ≤ 17), Ev (fun n => f35_broughamref35_Text n (pf t).1 (pf t).2.1 (pf t).2.2) (fun r => r = tx t) := by
  intro t h
  induction h with
  | @leaf o k h =>
    intro hl hd
    have e : lvs (.node o k .nil .nil) = leafS o k := by simp [lvs]
    rw [e] at hl
    have e1 : tx (.node o k .nil .nil) = leafT o k := by unfold Leaf at h; rw [tx, if_neg (by omega), if_neg (by omega), if_neg (by omega)]
    rw [e1]; exact docleaf h k hl
  | @neg a h ih =>
    intro hl hd
    have hz := (tx_is (.neg h) hl).2.2
    rw [lvs_neg h] at hl
    have hd0 := pow17 hd
    rw [dpt_neg] at hd
    obtain ⟨_, rfl, N, hN⟩ := ih hl (by omega)
    have hN : ∀ n, N ≤ n → f35_broughamref35_Text n (pf a).1 (pf a).2.1 (pf a).2.2 = some (tx a) := hN
    have e1 : tx (.node 8 0 a .nil) = (⟨#[40, 32, 110, 111, 116, 32]⟩ ++ tx a) ++ ⟨#[32, 41]⟩ := by rw [tx, if_pos rfl]
    rw [e1] at hz ⊢
    rw [sz_app] at hz
    rw [pf_not h.node]
    refine ⟨_, rfl, N + 3, fun n hn => ?_⟩
    obtain ⟨m, rfl⟩ : ∃ m, n = m + 3 := ⟨n - 3, by omega⟩
    show f35_broughamref35_Text (m + 3) 8 0 [pk (pf a)] = _
    rw [dt8, bs, pk_un]
    show ((f35_broughamref35_Text (m + 2) (pf a).1 (pf a).2.1 (pf a).2.2).bind _) = _
    rw [hN _ (by omega), Option.bind_some, if_pos (by rw [sz_app] at hz; omega), if_pos (by omega)]
  | @two o a b ho h k ih1 ih2 =>
    intro hl hd
    have hz := (tx_is (.two ho h k) hl).2.2
    rw [lvs_two h, Bool.and_eq_true] at hl
    have hd0 := pow17 hd
    rw [dpt_two] at hd
    obtain ⟨_, rfl, N, hN⟩ := ih1 hl.1 (by omega)
    obtain ⟨_, rfl, M, hM⟩ := ih2 hl.2 (by omega)
    have hN : ∀ n, N ≤ n → f35_broughamref35_Text n (pf a).1 (pf a).2.1 (pf a).2.2 = some (tx a) := hN
    have hM : ∀ n, M ≤ n → f35_broughamref35_Text n (pf b).1 (pf b).2.1 (pf b).2.2 = some (tx b) := hM
    rw [pf_two h.node k.node]
    refine ⟨_, rfl, max N M + 3, fun n hn => ?_⟩
    obtain ⟨m, rfl⟩ : ∃ m, n = m + 3 := ⟨n - 3, by omega⟩
    show f35_broughamref35_Text (m + 3) o 0 [pk (pf a), pk (pf b)] = _
    have na := hN (m + 2) (by omega)
    have nb := hM (m + 2) (by omega)
    have na' : f35_broughamref35_Text (m + 2) (pk (pf a)).1 (pk (pf a)).2.1 ((pk (pf a)).2.2.map FT.un) = some (tx a) := by rw [pk_un]; exact na
    have nb' : f35_broughamref35_Text (m + 2) (pk (pf b)).1 (pk (pf b)).2.1 ((pk (pf b)).2.2.map FT.un) = some (tx b) := by rw [pk_un]; exact nb
    rcases ho with rfl | rfl
    · have e1 : tx (.node 9 0 a b) = (((⟨#[40, 32]⟩ ++ tx a) ++ ⟨#[32, 97, 110, 100, 32]⟩) ++ tx b) ++ ⟨#[32, 41]⟩ := by rw [tx, if_neg (by omega), if_pos rfl]
      rw [e1] at hz ⊢
      have z1 := hz; rw [sz_app] at z1
      have z2 := z1; rw [sz_app] at z2
      have z3 := z2; rw [sz_app] at z3
      have z4 := z3; rw [sz_app] at z4
      rw [dt9, bs, na', Option.bind_some, if_pos (by omega), if_pos (by omega), nb', Option.bind_some, if_pos (by omega), if_pos (by omega)]
    · have e1 : tx (.node 10 0 a b) = (((⟨#[40, 32]⟩ ++ tx a) ++ ⟨#[32, 111, 114, 32]⟩) ++ tx b) ++ ⟨#[32, 41]⟩ := by rw [tx, if_neg (by omega), if_neg (by omega), if_pos rfl]
      rw [e1] at hz ⊢
      have z1 := hz; rw [sz_app] at z1
      have z2 := z1; rw [sz_app] at z2
      have z3 := z2; rw [sz_app] at z3
      have z4 := z3; rw [sz_app] at z4
      rw [dt10, bs, na', Option.bind_some, if_pos (by omega), if_pos (by omega), nb', Option.bind_some, if_pos (by omega), if_pos (by omega)]
/-! Those that fit. -/
abbrev SgT := Int × Int × Int × Int × Int × List (Int × List Int) × List Int
def sg (s : SgT) : Sg := ⟨s.1, s.2.1, s.2.2.1, s.2.2.2.1, s.2.2.2.2.1, s.2.2.2.2.2.1, s.2.2.2.2.2.2⟩
theorem of1 (n : Nat) (t : PT) (s : SgT) : f33_filter_Of (n + 2) t [s] = ((f32_filter_Match (n + 1) t s.1 s.2.1 s.2.2.1 s.2.2.2.1 s.2.2.2.2.1 s.2.2.2.2.2.1 s.2.2.2.2.2.2).bind fun r => if r = true then some [s] else some []).bind fun w => some w := by kernel_rfl
theorem of2 (n : Nat) (t : PT) (s : SgT) : f33_filter_Of (n + 3) t [s, s] = ((f32_filter_Match (n + 2) t s.1 s.2.1 s.2.2.1 s.2.2.2.1 s.2.2.2.2.1 s.2.2.2.2.2.1 s.2.2.2.2.2.2).bind fun r =>
    if r = true then (f32_filter_Match (n + 1) t s.1 s.2.1 s.2.2.1 s.2.2.2.1 s.2.2.2.2.1 s.2.2.2.2.2.1 s.2.2.2.2.2.2).bind fun q => if q = true then some [s, s] else some [s]
    else (f32_filter_Match (n + 1) t s.1 s.2.1 s.2.2.1 s.2.2.2.1 s.2.2.2.2.1 s.2.2.2.2.2.1 s.2.2.2.2.2.2).bind fun q => if q = true then some [s] else some []).bind fun w => some w := by kernel_rfl
theorem of1_ev {t : PT} {s : SgT} {b : Bool} (h : Ev (fun n => f32_filter_Match n t s.1 s.2.1 s.2.2.1 s.2.2.2.1 s.2.2.2.2.1 s.2.2.2.2.2.1 s.2.2.2.2.2.2) (fun r => r = b)) : Ev (fun n => f33_filter_Of n t [s]) (fun r => r = if b = true then [s] else []) := by
  obtain ⟨_, rfl, N, hN⟩ := h
  refine ⟨_, rfl, N + 2, fun n hn => ?_⟩
  obtain ⟨m, rfl⟩ : ∃ m, n = m + 2 := ⟨n - 2, by omega⟩
  have h1 := hN (m + 1) (by omega)
  show f33_filter_Of (m + 2) t [s] = _
  rw [of1, bs]
  dsimp only at h1
  rw [h1]
  rename_i b
  cases b <;> rfl
theorem of2_ev {t : PT} {s : SgT} {b : Bool} (h : Ev (fun n => f32_filter_Match n t s.1 s.2.1 s.2.2.1 s.2.2.2.1 s.2.2.2.2.1 s.2.2.2.2.2.1 s.2.2.2.2.2.2) (fun r => r = b)) : Ev (fun n => f33_filter_Of n t [s, s]) (fun r => r = if b = true then [s, s] else []) := by
  obtain ⟨_, rfl, N, hN⟩ := h
  refine ⟨_, rfl, N + 3, fun n hn => ?_⟩
  obtain ⟨m, rfl⟩ : ∃ m, n = m + 3 := ⟨n - 3, by omega⟩
  have h1 := hN (m + 1) (by omega)
  have h2 := hN (m + 2) (by omega)
  show f33_filter_Of (m + 3) t [s, s] = _
  rw [of2, bs]
  dsimp only at h1 h2
  rw [h1, h2]
  rename_i b
  cases b <;> rfl
theorem same_loop7 (s : Sg) (hl : s.o.length ≤ 1000000) : ∀ (d i : Nat) (hi : i + d = s.o.length), Ev (fun n => f36_broughamref07_Same_L4 n (i : Int) s.a s.b s.c s.d s.e s.o s.x s.a s.b s.c s.d s.e s.o s.x) (fun w => w = .inr ())
  | 0, i, hi => by
    apply Ev.succ
    simp only [f36_broughamref07_Same_L4]
    exact Ev.neg (by simp only [decide_eq_true_eq]; omega) (Ev.some rfl)
  | d + 1, i, hi => by
    apply Ev.succ
    simp only [f36_broughamref07_Same_L4]
    rw [Int.toNat_natCast, i64_id (e := (i : Int) + 1) (by omega) (by omega)]
    have e : ∀ (a : Int) (b : List Int), f63_broughamref07_SameOption a b a b = some true := by intro a b; unfold f63_broughamref07_SameOption; rw [if_pos (by simp)]; simp
    refine Ev.pos (by simp only [decide_eq_true_eq]; omega) (Ev.guard (by omega) (Ev.guard (by omega) (Ev.bind (P := fun r => r = true) (Ev.of (e _ _) rfl) ?_)))
    rintro _ rfl
    exact Ev.neg (by simp) (same_loop7 s hl d (i + 1) (by omega))
theorem same7_ev (s : Sg) (hl : s.o.length ≤ 1000000) : Ev (fun n => f36_broughamref07_Same n s.a s.b s.c s.d s.e s.o s.x s.a s.b s.c s.d s.e s.o s.x) (fun r => r = true) := by
  unfold f36_broughamref07_Same
  refine Ev.neg (by simp) (Ev.neg (by simp) (Ev.neg (by simp) (Ev.neg (by simp) (Ev.neg (by simp) (Ev.neg (by simp) (Ev.neg (by simp) (Ev.bind (same_loop7 s hl s.o.length 0 (by omega)) ?_)))))))
  rintro _ rfl
  exact Ev.some rfl
theorem tx_eq (t : PT) : ((tx t).toList == (tx t).toList) = true := by simp
theorem FilterFits (N : Nat) (hN : N ≤ 1048576) (x0 : Int × Int × List FT) (o0 : K.okN N FK x0) (x1 : SgT)
    (o1 : K.ok (.pair (.int .u16) (.pair (.int .u16) (.pair (.int .u32) (.pair (.int .u32) (.pair (.int .u8) (.pair (.slice (.pair (.int .u8) (.slice (.int .u8)))) (.slice (.int .u8)))))))) x1) :
    ∃ n, f7_broughamlaw35_FilterFits n x0.1 x0.2.1 (x0.2.2.map FT.un) x1.1 x1.2.1 x1.2.2.1 x1.2.2.2.1 x1.2.2.2.2.1 x1.2.2.2.2.2.1 x1.2.2.2.2.2.2 = some true := by
  apply Ev.true
  have k0 : FT.ok (.of x0) := by obtain ⟨a, b, c⟩ := x0; exact o0.ok
  have kd : FT.dp (.of x0) ≤ 2000000 := by
    have h2 := o0.2.2.2
    have h3 : FT.dps x0.2.2 ≤ N := h2
    show FT.dps x0.2.2 + 1 ≤ 2000000
    omega
  have he := ok_u8 o1.2.2.2.2.1
  have hok := o1.2.2.2.2.2.1.2
  clear o1 o0
  have g0 : Ev (fun n => f26_broughamlaw35_great n x0.1 x0.2.1 (x0.2.2.map FT.un)) (fun r => r = false → dpt (md (.of x0)) ≤ 17 → tw (.of x0)) := great_ev (.of x0)
  have m0 : Ev (fun n => f28_broughamlaw35_Made n x0.1 x0.2.1 (x0.2.2.map FT.un)) (fun r => r = md (.of x0)) := made_ev (.of x0)
  have r0 : Ev (fun n => f30_broughamref35_Right n x0.1 x0.2.1 (x0.2.2.map FT.un)) (fun r => r = true → AllP (.of x0) ∧ FT.dp (.of x0) ≤ 16) := rightV_ev (.of x0) k0 kd
  unfold f7_broughamlaw35_FilterFits
  refine Ev.bind g0 fun r hr => Ev.ite (fun _ => Ev.some rfl) (fun c0 => ?_)
  have htw := hr (by simpa using c0)
  refine Ev.bind (greatS_ev x1.1 x1.2.1 x1.2.2.1 x1.2.2.2.1 x1.2.2.2.2.1 x1.2.2.2.2.2.1 x1.2.2.2.2.2.2) fun r hg => Ev.ite (fun _ => Ev.some rfl) (fun c2 => ?_)
  obtain ⟨hs5, _⟩ := hg (by simpa using c2)
  have hS : SgOk (sg x1) := ⟨⟨he.1, by show x1.2.2.2.2.1 ≤ 255; omega⟩, fun p hp => by
    have := ok_u8 (hok p hp).1
    exact ⟨this.1, by omega⟩, by show x1.2.2.2.2.2.1.length ≤ 1000000; omega⟩
  refine Ev.bind m0 ?_
  rintro _ rfl
  by_cases hg : Tr (md (.of x0)) ∧ Good (md (.of x0))
  · obtain ⟨ht, hgd⟩ := hg
    have hg0 := hgd
    unfold Good at hg0
    simp only [Bool.and_eq_true, decide_eq_true_eq] at hg0
    have hpf : pf (md (.of x0)) = (x0.1, x0.2.1, x0.2.2.map FT.un) := pf_md (.of x0) (htw (by omega))
    have r1 := rightF_ev ht (by omega)
    have t1 := doctext_ev ht hg0.2 (by omega)
    have f1 := fits_ev (sg x1) hS ht hg0.2
    rw [hpf] at r1 t1 f1
    have mt := matchG_ev (sg x1) hS.2.2 ht hgd
    have mt' : Ev (fun n => f32_filter_Match n (md (.of x0)) x1.1 x1.2.1 x1.2.2.1 x1.2.2.2.1 x1.2.2.2.2.1 x1.2.2.2.2.2.1 x1.2.2.2.2.2.2) (fun r => r = mS (sg x1) (md (.of x0))) := mt
    have f1' : Ev (fun n => f34_broughamref35_Fits n x0.1 x0.2.1 (x0.2.2.map FT.un) x1.1 x1.2.1 x1.2.2.1 x1.2.2.2.1 x1.2.2.2.2.1 x1.2.2.2.2.2.1 x1.2.2.2.2.2.2) (fun r => r = mS (sg x1) (md (.of x0))) := f1
    have sm := same7_ev (sg x1) hS.2.2
    have sm' : Ev (fun n => f36_broughamref07_Same n x1.1 x1.2.1 x1.2.2.1 x1.2.2.2.1 x1.2.2.2.2.1 x1.2.2.2.2.2.1 x1.2.2.2.2.2.2 x1.1 x1.2.1 x1.2.2.1 x1.2.2.2.1 x1.2.2.2.2.1 x1.2.2.2.2.2.1 x1.2.2.2.2.2.2) (fun r => r = true) := sm
    refine Ev.bind r1 ?_
    rintro _ rfl
    refine Ev.neg (by unfold Good at hgd; rw [hgd]; simp) (Ev.bind f1' ?_)
    rintro _ rfl
    refine Ev.bind (of2_ev (s := x1) mt') ?_
    rintro _ rfl
    refine Ev.bind (rightX_ev _) fun rr hrr => Ev.pos (hrr.2 ⟨ht, hgd⟩) (Ev.bind (text_says _) fun w hw => ?_)
    rcases hw with ⟨_, _, rfl⟩ | ⟨hw, _⟩
    · refine Ev.bind t1 ?_
      rintro _ rfl
      refine Ev.pos (tx_eq _) (Ev.bind mt' ?_)
      rintro _ rfl
      refine Ev.pos (by simp) ?_
      cases mS (sg x1) (md (.of x0)) with
      | false => exact Ev.pos (by simp) (Ev.pos (by simp) (Ev.bind alive_ev (fun r hr => Ev.some hr)))
      | true =>
        refine Ev.pos (by simp) (Ev.neg (by simp) (Ev.guard (by simp) (Ev.bind (P := fun r => r = true) sm' ?_)))
        rintro _ rfl
        exact Ev.pos rfl (Ev.bind alive_ev (fun r hr => Ev.some hr))
    · exact absurd ⟨ht, hgd⟩ hw
  · refine Ev.bind r0 fun r hr => ?_
    have hrf : r = false := by
      cases r with
      | false => rfl
      | true =>
        obtain ⟨⟨p1, p2, p3⟩, p4⟩ := hr rfl
        have := dpt_md (.of x0)
        exact absurd ⟨p2, by unfold Good; rw [p3, decide_eq_true (by omega)]; rfl⟩ hg
    subst hrf
    have mt : Ev (fun n => f32_filter_Match n (md (.of x0)) x1.1 x1.2.1 x1.2.2.1 x1.2.2.2.1 x1.2.2.2.2.1 x1.2.2.2.2.2.1 x1.2.2.2.2.2.2) (fun r => r = false) :=
      (matchX_ev (sg x1) hS.2.2 (md (.of x0))).mono fun q hq => by
        rcases hq with ⟨a, b, _⟩ | ⟨_, e⟩
        · exact absurd ⟨a, b⟩ hg
        · exact e
    refine Ev.pos rfl (Ev.bind (rightX_ev _) fun rr hrr => Ev.pos ?_ (Ev.bind (text_says _) fun w hw => ?_))
    · cases rr with
      | false => rfl
      | true => exact absurd (hrr.1 rfl) hg
    · rcases hw with ⟨a, b, _⟩ | ⟨_, rfl⟩
      · exact absurd ⟨a, b⟩ hg
      · refine Ev.pos (by simp) (Ev.bind mt ?_)
        rintro _ rfl
        refine Ev.pos rfl (Ev.bind (of1_ev (s := x1) mt) ?_)
        rintro _ rfl
        exact Ev.pos (by simp) (Ev.bind alive_ev (fun r hr => Ev.some hr))
end Go.Proofs.YtakamchmiakicaaDoorF35c
