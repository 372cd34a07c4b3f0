/- FilterFits as plain Lean: of the functions that text F35c prints, the law answers true for every filter that is no deeper than 1048576 and every segment. Conditions: none. -/
import Derived.Test.YtakamchmiakicaaDoorPureLib35c
namespace Go.Proofs.YtakamchmiakicaaDoorF35c
open Go Zed Go.Proofs.YtakamchmiakicaaDoorLeaf
set_option linter.unusedVariables false
set_option linter.unusedSimpArgs false
set_option maxRecDepth 100000

/-! How deep, where that is a number. -/
abbrev DpE (x : FT) : Prop := Ev (fun n => f57_broughamref35_depth n x.un.1 x.un.2.1 (x.un.2.2.map FT.un)) (fun r => r = ((FT.dp x : Nat) : Int))
theorem dps_mem {l : List FT} {x : FT} (h : x ∈ l) : FT.dp x ≤ FT.dps l := by
  induction l with
  | nil => cases h
  | cons t r ih =>
    show _ ≤ max (FT.dp t) (FT.dps r)
    rcases List.mem_cons.1 h with rfl | h
    · omega
    · have := ih h; omega
theorem dp_loop (o k : Int) (l : List FT) (hl : l.length ≤ 4000000000000) (hd : FT.dps l ≤ 2000000) (h : ∀ x ∈ l, DpE x) : ∀ (d i : Nat) (hi : i + d = l.length) (z : Nat),
    Ev2 (fun m n => f57_broughamref35_depth_L3 (f57_broughamref35_depth m) n (z : Int) (i : Int) o k (l.map FT.un)) (fun r => r = ((max z (FT.dps (l.drop i)) : Nat) : Int))
  | 0, i, hi, z => by
    apply Ev2.succ
    simp only [f57_broughamref35_depth_L3]
    refine Ev2.neg (by simp only [decide_eq_true_eq, List.length_map]; omega) (Ev2.some ?_)
    rw [List.drop_eq_nil_of_le (by omega)]; simp [FT.dps]
  | d + 1, i, hi, z => by
    obtain ⟨x, hx, e1, e2⟩ := un_get l i (by omega)
    apply Ev2.succ
    simp only [f57_broughamref35_depth_L3]
    rw [Int.toNat_natCast, i64_id (e := (i : Int) + 1) (by omega) (by omega), e1]
    refine Ev2.pos (by simp only [decide_eq_true_eq, List.length_map]; omega) (Ev2.guard (by simp only [List.length_map]; omega) (Ev2.bind (Ev2.left (h x hx)) ?_))
    rintro _ rfl
    have e3 : FT.dps (l.drop i) = max (FT.dp x) (FT.dps (l.drop (i + 1))) := by rw [e2]; rfl
    refine Ev2.ite (fun c => (dp_loop o k l hl hd h d (i + 1) (by omega) (FT.dp x)).mono fun r hr => ?_) (fun c => (dp_loop o k l hl hd h d (i + 1) (by omega) z).mono fun r hr => ?_)
    · simp only [decide_eq_true_eq] at c
      rw [hr, e3]; omega
    · simp only [decide_eq_true_eq] at c
      rw [hr, e3]; omega
theorem dp_step (o k : Int) (l : List FT) (hl : l.length ≤ 4000000000000) (hd : FT.dps l ≤ 2000000) (h : ∀ x ∈ l, DpE x) : DpE (.mk o k l) := by
  show Ev (fun n => f57_broughamref35_depth n o k (l.map FT.un)) (fun r => r = ((FT.dps l + 1 : Nat) : Int))
  apply Ev.succ
  simp only [f57_broughamref35_depth]
  refine Ev.bind (Ev2.diag (dp_loop o k l hl hd h l.length 0 (by omega) 0)) ?_
  rintro _ rfl
  rw [List.drop_zero]
  refine Ev.some ?_
  rw [i64_id (by omega) (by omega)]; omega
mutual
theorem dpV_ev : ∀ x : FT, FT.ok x → FT.dp x ≤ 2000000 → DpE x
  | .mk o k l, h, hd => dp_step o k l (FT.ok_len h).1 (Nat.le_trans (Nat.le_succ _) hd) (dpVs_ev l (FT.ok_len h).2 (Nat.le_trans (Nat.le_succ _) hd))
theorem dpVs_ev : ∀ l : List FT, (∀ x ∈ l, FT.ok x) → FT.dps l ≤ 2000000 → ∀ x ∈ l, DpE x
  | [], _, _, x, h => by cases h
  | t :: r, ho, hd, x, h => by
    have hd : max (FT.dp t) (FT.dps r) ≤ 2000000 := hd
    rcases List.mem_cons.1 h with e | h
    · rw [e]; exact dpV_ev t (ho t List.mem_cons_self) (by omega)
    · exact dpVs_ev r (fun y hy => ho y (List.mem_cons_of_mem _ hy)) (by omega) x h
end
mutual
theorem dpt_md : ∀ x : FT, dpt (md x) ≤ FT.dp x
  | .mk o n [] => by show max 0 0 + 1 ≤ 0 + 1; omega
  | .mk o n [a] => by
    have := dpt_md a
    show max (dpt (md a)) 0 + 1 ≤ max (FT.dp a) 0 + 1
    omega
  | .mk o n (a :: b :: r) => by
    have := dpt_md a
    have := dpt_md b
    show max (dpt (md a)) (dpt (md b)) + 1 ≤ max (FT.dp a) (max (FT.dp b) (FT.dps r)) + 1
    omega
end
theorem rightV_ev (x : FT) (h : FT.ok x) (hd : FT.dp x ≤ 2000000) : Ev (fun n => f30_broughamref35_Right n x.un.1 x.un.2.1 (x.un.2.2.map FT.un)) (fun r => r = true → AllP x ∧ FT.dp x ≤ 16) := by
  unfold f30_broughamref35_Right
  refine Ev.bind (dpV_ev x h hd) ?_
  rintro _ rfl
  refine Ev.ite (fun c => Ev.bind (allX_ev x h) fun r hr => Ev.some fun q => ⟨hr q, ?_⟩) (fun _ => Ev.some fun q => by cases q)
  simp only [decide_eq_true_eq] at c; omega
/-! Which segments fit, as the document says. -/
theorem ft1 (n : Nat) (k : Int) (L : List FR) (s : Sg) : f34_broughamref35_Fits (n + 1) 1 k L s.a s.b s.c s.d s.e s.o s.x = some true := by kernel_rfl
theorem ft2 (n : Nat) (k : Int) (L : List FR) (s : Sg) : f34_broughamref35_Fits (n + 1) 2 k L s.a s.b s.c s.d s.e s.o s.x = if k ≠ 0 then some ((Int.tmod (IntKind.wrap .i64 (Int.tdiv (IntKind.wrap .i64 s.e) k)) 2) == 1) else none := by kernel_rfl
theorem ft3 (n : Nat) (k : Int) (L : List FR) (s : Sg) : f34_broughamref35_Fits (n + 1) 3 k L s.a s.b s.c s.d s.e s.o s.x = if (IntKind.wrap .i64 s.a == k) = true then some true else some (IntKind.wrap .i64 s.b == k) := by kernel_rfl
theorem ft4 (n : Nat) (k : Int) (L : List FR) (s : Sg) : f34_broughamref35_Fits (n + 1) 4 k L s.a s.b s.c s.d s.e s.o s.x = some (IntKind.wrap .i64 s.a == k) := by kernel_rfl
theorem ft5 (n : Nat) (k : Int) (L : List FR) (s : Sg) : f34_broughamref35_Fits (n + 1) 5 k L s.a s.b s.c s.d s.e s.o s.x = some (IntKind.wrap .i64 s.b == k) := by kernel_rfl
theorem ft6 (n : Nat) (k : Int) (L : List FR) (s : Sg) : f34_broughamref35_Fits (n + 1) 6 k L s.a s.b s.c s.d s.e s.o s.x = (f34_broughamref35_Fits_L14 (f34_broughamref35_Fits n) n 0 6 k L s.a s.b s.c s.d s.e s.o s.x).bind fun w => match w with | .inl e => some e | .inr e => some false := by kernel_rfl
theorem ft7 (n : Nat) (k : Int) (L : List FR) (s : Sg) : f34_broughamref35_Fits (n + 1) 7 k L s.a s.b s.c s.d s.e s.o s.x = some (decide (((s.x.length : Nat) : Int) ≥ k)) := by kernel_rfl
theorem ft11 (n : Nat) (k : Int) (L : List FR) (s : Sg) : f34_broughamref35_Fits (n + 1) 11 k L s.a s.b s.c s.d s.e s.o s.x = some (((s.x.length : Nat) : Int) == 0) := by kernel_rfl
theorem ft8 (n : Nat) (k : Int) (x : FR) (s : Sg) : f34_broughamref35_Fits (n + 1) 8 k [x] s.a s.b s.c s.d s.e s.o s.x = (f34_broughamref35_Fits n x.1 x.2.1 (x.2.2.map FT.un) s.a s.b s.c s.d s.e s.o s.x).bind fun r => some (!r) := by kernel_rfl
theorem ft9 (n : Nat) (k : Int) (x y : FR) (s : Sg) : f34_broughamref35_Fits (n + 1) 9 k [x, y] s.a s.b s.c s.d s.e s.o s.x = (f34_broughamref35_Fits n x.1 x.2.1 (x.2.2.map FT.un) s.a s.b s.c s.d s.e s.o s.x).bind fun r => if r = true then (f34_broughamref35_Fits n y.1 y.2.1 (y.2.2.map FT.un) s.a s.b s.c s.d s.e s.o s.x).bind fun q => some q else some false := by kernel_rfl
theorem ft10 (n : Nat) (k : Int) (x y : FR) (s : Sg) : f34_broughamref35_Fits (n + 1) 10 k [x, y] s.a s.b s.c s.d s.e s.o s.x = (f34_broughamref35_Fits n x.1 x.2.1 (x.2.2.map FT.un) s.a s.b s.c s.d s.e s.o s.x).bind fun r => if r = true then some true else (f34_broughamref35_Fits n y.1 y.2.1 (y.2.2.map FT.un) s.a s.b s.c s.d s.e s.o s.x).bind fun q => some q := by kernel_rfl
theorem flags1 : ∀ e : Fin 256, ((Int.tmod (IntKind.wrap .i64 (Int.tdiv (IntKind.wrap .i64 (e.val : Int)) 1)) 2) == 1) = ((bits .and .i64 (IntKind.wrap .i64 (e.val : Int)) 1) != 0) := by decide +kernel
theorem flags2 : ∀ e : Fin 256, ((Int.tmod (IntKind.wrap .i64 (Int.tdiv (IntKind.wrap .i64 (e.val : Int)) 2)) 2) == 1) = ((bits .and .i64 (IntKind.wrap .i64 (e.val : Int)) 2) != 0) := by decide +kernel
theorem flags4 : ∀ e : Fin 256, ((Int.tmod (IntKind.wrap .i64 (Int.tdiv (IntKind.wrap .i64 (e.val : Int)) 4)) 2) == 1) = ((bits .and .i64 (IntKind.wrap .i64 (e.val : Int)) 4) != 0) := by decide +kernel
def SgOk (s : Sg) : Prop := (0 ≤ s.e ∧ s.e ≤ 255) ∧ (∀ p ∈ s.o, 0 ≤ p.1 ∧ p.1 ≤ 255) ∧ s.o.length ≤ 1000000
theorem flags_is {s : Sg} (hs : SgOk s) {k : Int} (hk : k = 1 ∨ k = 2 ∨ k = 4) : ((Int.tmod (IntKind.wrap .i64 (Int.tdiv (IntKind.wrap .i64 s.e) k)) 2) == 1) = ((bits .and .i64 (IntKind.wrap .i64 s.e) k) != 0) := by
  obtain ⟨⟨h0, h1⟩, _⟩ := hs
  have e : s.e = (((⟨s.e.toNat, by omega⟩ : Fin 256).val : Nat) : Int) := by show s.e = ((s.e.toNat : Nat) : Int); omega
  rw [e]
  rcases hk with rfl | rfl | rfl
  · exact flags1 _
  · exact flags2 _
  · exact flags4 _
theorem has_loop (s : Sg) (hs : SgOk s) (k : Int) (L : List FR) : ∀ (d i : Nat) (hi : i + d = s.o.length),
    Ev2 (fun m n => f34_broughamref35_Fits_L14 (f34_broughamref35_Fits m) n (i : Int) 6 k L s.a s.b s.c s.d s.e s.o s.x) (fun w => match w with | .inl e => e = true ∧ (s.o.drop i).any (fun p => p.1 == k) = true | .inr _ => (s.o.drop i).any (fun p => p.1 == k) = false)
  | 0, i, hi => by
    apply Ev2.succ
    simp only [f34_broughamref35_Fits_L14]
    refine Ev2.neg (by simp only [decide_eq_true_eq]; omega) (Ev2.some ?_)
    show (s.o.drop i).any _ = false
    rw [List.drop_eq_nil_of_le (by omega)]; rfl
  | d + 1, i, hi => by
    have hl := hs.2.2
    have e1 : s.o.drop i = s.o.getD i (0, []) :: s.o.drop (i + 1) := drop_cons (by omega) _
    have hm : s.o.getD i (0, []) ∈ s.o := getD_mem (by omega) _
    have hb := hs.2.1 _ hm
    apply Ev2.succ
    simp only [f34_broughamref35_Fits_L14]
    rw [Int.toNat_natCast, i64_id (e := (i : Int) + 1) (by omega) (by omega), i64_id (e := (s.o.getD i (0, [])).1) (by omega) (by omega)]
    refine Ev2.pos (by simp only [decide_eq_true_eq]; omega) (Ev2.guard (by omega) (Ev2.ite (fun c => Ev2.some ?_) (fun c => (has_loop s hs k L d (i + 1) (by omega)).mono fun w hw => ?_)))
    · refine ⟨rfl, ?_⟩
      rw [e1, List.any_cons, c]; rfl
    · rw [e1, List.any_cons, (by simpa using c : ((s.o.getD i (0, [])).1 == k) = false), Bool.false_or]; exact hw
theorem fits_leaf {o : Int} (h : Leaf o) (k : Int) (hk : leafS o k = true) (s : Sg) (hs : SgOk s) : Ev (fun n => f34_broughamref35_Fits n o k [] s.a s.b s.c s.d s.e s.o s.x) (fun r => r = leafM s o k) := by
  apply Ev.succ
  have hl := hs.2.2
  unfold leafM
  unfold leafS at hk
  rcases h with rfl | rfl | rfl | rfl | rfl | rfl | rfl | rfl
  · simp only [ft1]; exact Ev.some rfl
  · have hk : k = 1 ∨ k = 2 ∨ k = 4 := by simpa using hk
    simp only [ft2]
    exact Ev.pos (by omega) (Ev.some (flags_is hs hk))
  · simp only [ft3]
    refine Ev.ite (fun c => Ev.some ?_) (fun c => Ev.some ?_)
    · rw [c]; rfl
    · rw [(by simpa using c : (IntKind.wrap .i64 s.a == k) = false)]; rfl
  · simp only [ft4]; exact Ev.some rfl
  · simp only [ft5]; exact Ev.some rfl
  · have hk : 1 ≤ k ∧ k ≤ 255 := by simpa using hk
    simp only [ft6]
    have w : IntKind.wrap .u8 k = k := u8_id (by omega) (by omega)
    refine Ev.bind (Ev2.diag (has_loop s hs k [] s.o.length 0 (by omega))) fun r hr => ?_
    rw [List.drop_zero] at hr
    show Ev _ (fun r => r = s.o.any (fun p => p.1 == IntKind.wrap .u8 k))
    rw [w]
    cases r with
    | inl e => exact Ev.some (hr.1.trans hr.2.symm)
    | inr e => exact Ev.some hr.symm
  · simp only [ft7]; exact Ev.some rfl
  · simp only [ft11]; exact Ev.some rfl
theorem fits_ev (s : Sg) (hs : SgOk s) : ∀ {t : PT} (h : Tr t) (hl : lvs t = true), Ev (fun n => f34_broughamref35_Fits n (pf t).1 (pf t).2.1 (pf t).2.2 s.a s.b s.c s.d s.e s.o s.x) (fun r => r = mS s t) := by
  intro t h
  induction h with
  | @leaf o k h =>
    intro hl
    have e : mS s (.node o k .nil .nil) = leafM s o k := by unfold Leaf at h; rw [mS, if_neg (by omega), if_neg (by omega), if_neg (by omega)]
    have e2 : lvs (.node o k .nil .nil) = leafS o k := by simp [lvs]
    rw [e]; exact fits_leaf h k (e2 ▸ hl) s hs
  | @neg a h ih =>
    intro hl
    rw [lvs_neg h] at hl
    rw [pf_not h.node]
    apply Ev.succ
    simp only [ft8, pk_un]
    refine Ev.bind (ih hl) ?_
    rintro _ rfl
    exact Ev.some (by rw [mS, if_pos rfl])
  | @two o a b ho h k ih1 ih2 =>
    intro hl
    rw [lvs_two h, Bool.and_eq_true] at hl
    rw [pf_two h.node k.node]
    apply Ev.succ
    rcases ho with rfl | rfl
    · simp only [ft9, pk_un]
      refine Ev.bind (ih1 hl.1) ?_
      rintro _ rfl
      have e : mS s (.node 9 0 a b) = (mS s a && mS s b) := by rw [mS, if_neg (by omega), if_pos rfl]
      rw [e]
      cases mS s a
      · exact Ev.neg (by simp) (Ev.some rfl)
      · refine Ev.pos rfl (Ev.bind (ih2 hl.2) ?_)
        rintro _ rfl
        exact Ev.some rfl
    · simp only [ft10, pk_un]
      refine Ev.bind (ih1 hl.1) ?_
      rintro _ rfl
      have e : mS s (.node 10 0 a b) = (mS s a || mS s b) := by rw [mS, if_neg (by omega), if_neg (by omega), if_pos rfl]
      rw [e]
      cases mS s a
      · refine Ev.neg (by simp) (Ev.bind (ih2 hl.2) ?_)
        rintro _ rfl
        exact Ev.some rfl
      · exact Ev.pos rfl (Ev.some rfl)
end Go.Proofs.YtakamchmiakicaaDoorF35c
