/- Texts ZedUa of our own machine for the walk of WholeChallenges, one behind the other. -/
import Derived.Test.YtiammpabkpoidaaGreatW12
namespace Zed
open Go
set_option linter.unusedVariables false
set_option linter.unusedSimpArgs false

/-- A change of how a state is told: nil in a cell of a slot or of a variable; a row that is not told to be full. -/
inductive Co where
  | nil (box : Bool) (t j : Nat) (T : K) (e : Option TypeId)
  | flag (l : Nat)
  | mv (l : Nat) (t j : Nat)
  | pub (l : Nat) (keep : Bool)
  | nilrow (t j : Nat) (T : K) (e : TypeId)
  | mvrow (l : Nat)
  | drop (l : Nat)
  | tree (id : Nat)
  | nilpt (t : Nat)

noncomputable def coZ (nx : Nat) (T : K) (own : Bool) : Z1 → Option Z1
  | .d (.sl .unit _) => some (if own then .own nx T [] else .d (.sl T []))
  | _ => none
noncomputable def atL (f : Z1 → Option Z1) : Nat → List Z1 → Option (List Z1)
  | _, [] => none
  | 0, z :: r => (f z).map fun z' => z' :: r
  | n + 1, z :: r => (atL f n r).map fun r' => z :: r'
noncomputable def coV (f : Z1 → Option Z1) (j : Nat) : V1 → Option V1
  | .c z => if j = 0 then (f z).map .c else none
  | .agg cs => (atL f j cs).map .agg
noncomputable def mvZ (l nx : Nat) : Z1 → Option Z1
  | .own l' T xs => if l' = l then some (.own nx T xs) else none
  | _ => none
noncomputable def pubZ (l : Nat) (T : K) (xs : List T.den) (z : Z1) : Z1 := match z with
  | .row l' _ => if l' = l then .own l T xs else z
  | _ => z
noncomputable def pubV (f : Z1 → Z1) : V1 → V1
  | .c z => .c (f z)
  | .agg cs => .agg (cs.map f)
noncomputable def pubS (f : Z1 → Z1) : Z → Z
  | .one v => .one (pubV f v)
  | .tup vs => .tup (vs.map (pubV f))
  | .no => .no
noncomputable def pubB (f : Z1 → Z1) (l : Nat) (keep : Bool) (bx : List (Nat × List Z1)) : List (Nat × List Z1) := (bx.filter fun p => keep || p.1 != l).map fun p => (p.1, p.2.map f)
noncomputable def mvrZ (l nx : Nat) (z : Z1) : Z1 := match z with
  | .row l' T => if l' = l then .row nx T else z
  | _ => z
noncomputable def rowZ (nx : Nat) (T : K) : Z1 → Option Z1
  | .d (.sl .unit _) => some (.row nx T)
  | _ => none
/-- A node's cells as a tree. -/
noncomputable def ptX : X → Option PT
  | .pt t => some t
  | .nilP => some .nil
  | _ => none
noncomputable def treeOf : List Z1 → Option PT
  | [.d (.int .i64 o), .d (.int .i64 n), .d x, .d y] => match ptX x, ptX y with
    | some a, some b => some (.node o n a b)
    | _, _ => none
  | _ => none
noncomputable def treeZ (id : Nat) (t : PT) (z : Z1) : Z1 := match z with
  | .ptr id' 0 => if id' = id then .d (.pt t) else z
  | _ => z
noncomputable def coLive (nx : Nat) (live : List (Nat × Option Ow)) : Option TypeId → List (Nat × Option Ow)
  | some e => (nx, some ⟨e, 0⟩) :: live
  | none => live
noncomputable def coSt (c : Co) (s : St) : Option St :=
  match c with
  | .nil true t j T e => (look s.bx t).bind fun cs => (atL (coZ s.nx T e.isSome) j cs).map fun cs' => ⟨s.sl, coLive s.nx s.live e, (t, cs') :: s.bx, s.nx + 1⟩
  | .nil false t j T e => match look s.sl t with
    | some (.one v) => (coV (coZ s.nx T e.isSome) j v).map fun v' => ⟨(t, .one v') :: s.sl, coLive s.nx s.live e, s.bx, s.nx + 1⟩
    | _ => none
  | .flag l => match lvOf s.live l with
    | some ow => some ⟨s.sl, (l, some ⟨ow.e, 0⟩) :: s.live, s.bx, s.nx⟩
    | none => none
  | .mv l t j => match lvOf s.live l, look s.sl t with
    | some ow, some (.one v) => (coV (mvZ l s.nx) j v).map fun v' => ⟨(t, .one v') :: s.sl, (s.nx, some ow) :: (l, none) :: s.live, s.bx, s.nx + 1⟩
    | _, _ => none
  | .pub l keep => match lvOf s.live l, look s.bx l with
    | some ow, some [.run T xs] => if ow.k = 2 then some ⟨s.sl.map fun p => (p.1, pubS (pubZ l T xs) p.2), (l, some ⟨ow.e, 0⟩) :: s.live, pubB (pubZ l T xs) l keep s.bx, s.nx⟩ else none
    | _, _ => none
  | .nilrow t j T e => match look s.sl t with
    | some (.one v) => (coV (rowZ s.nx T) j v).map fun v' => ⟨(t, .one v') :: s.sl, (s.nx, some ⟨e, 2⟩) :: s.live, (s.nx, [.run T []]) :: s.bx, s.nx + 1⟩
    | _ => none
  | .mvrow l => match lvOf s.live l, look s.bx l with
    | some ow, some [.run T xs] => if ow.k = 2 then some ⟨s.sl.map fun p => (p.1, pubS (mvrZ l s.nx) p.2), (s.nx, some ow) :: (l, none) :: s.live, (s.nx, [.run T xs]) :: pubB (mvrZ l s.nx) l true s.bx, s.nx + 1⟩ else none
    | _, _ => none
  | .drop l => some ⟨s.sl, (l, none) :: s.live, s.bx, s.nx⟩
  | .tree id => (look s.bx id).bind fun cs => (treeOf cs).map fun t => ⟨s.sl.map fun p => (p.1, pubS (treeZ id t) p.2), s.live, pubB (treeZ id t) id false s.bx, s.nx⟩
  | .nilpt t => match look s.sl t with
    | some (.one (.c (.d .nilP))) => some ⟨(t, .one (.c (.d (.pt .nil)))) :: s.sl, s.live, s.bx, s.nx⟩
    | _ => none
noncomputable def coAll : List Co → St → Option St
  | [], s => some s
  | c :: r, s => (coSt c s).bind (coAll r)

section
variable {P : Program} {E : Ent} {g : G} {a : Act} {W : World}

theorem coZ_rc {nx : Nat} {T : K} {own : Bool} {v : Value} {z z' : Z1} (h : RC W g v z) (hz : coZ nx T own z = some z') : RC W ⟨g.F, g.ρ, setN g.ω nx (.slice none 0 0)⟩ v z' ∧ z'.below (· < nx + 1) := by
  unfold coZ at hz
  split at hz
  · rename_i xs
    cases hz
    have h1 : RD W g.F v (.sl 0 (xs.map K.unit.rrow)) := h
    obtain ⟨rfl, _, h2⟩ := RD.nil_any h1 T.size
    cases own
    · exact ⟨h2, trivial⟩
    · exact ⟨⟨h2, setN_same _ _ _⟩, Nat.lt_succ_self nx⟩
  · cases hz

theorem atL_rcs {nx : Nat} {T : K} {own : Bool} : ∀ {cs cs' : List Z1} {j : Nat} {vs : List Value}, RCs W g vs cs → (∀ z ∈ cs, z.below (· < nx)) → atL (coZ nx T own) j cs = some cs' →
    RCs W ⟨g.F, g.ρ, setN g.ω nx (.slice none 0 0)⟩ vs cs' ∧ ∀ z ∈ cs', z.below (· < nx + 1)
  | [], cs', j, vs, h, hb, hz => by cases j <;> cases hz
  | z :: r, cs', j, vs, h, hb, hz => by
    have keepC : ∀ {v : Value} {z : Z1}, z.below (· < nx) → RC W g v z → RC W ⟨g.F, g.ρ, setN g.ω nx (.slice none 0 0)⟩ v z := fun hb h =>
      RC.keep (g := g) (g' := ⟨g.F, g.ρ, setN g.ω nx (.slice none 0 0)⟩) (Keeps.refl _ _) hb (fun _ _ => rfl) (fun l hl => setN_ne _ _ (by have : l < nx := hl; omega)) h
    have mono : ∀ k, k < nx → k < nx + 1 := fun k hk => by omega
    cases vs with
    | nil => have := h.1; simp at this
    | cons v vs =>
      have h0 := h.2 0 v z rfl rfl
      have hr : RCs W g vs r := ⟨by have := h.1; simpa using this, fun j u c h1 h2 => h.2 (j + 1) u c h1 h2⟩
      cases j with
      | zero =>
        obtain ⟨z', h1, rfl⟩ := omap hz
        obtain ⟨q1, q2⟩ := coZ_rc h0 h1
        refine ⟨⟨by have := hr.1; simp [this], fun j u c p1 p2 => ?_⟩, fun c hc => ?_⟩
        · cases j with
          | zero => simp at p1 p2; subst p1; subst p2; exact q1
          | succ j => exact keepC (hb c (List.mem_cons_of_mem _ (List.mem_of_getElem? (by simpa using p2)))) (hr.2 j u c (by simpa using p1) (by simpa using p2))
        · rcases List.mem_cons.1 hc with rfl | hc
          · exact q2
          · exact Z1.below_mono mono (hb c (List.mem_cons_of_mem _ hc))
      | succ j =>
        obtain ⟨r', h1, rfl⟩ := omap hz
        obtain ⟨q1, q2⟩ := atL_rcs hr (fun c hc => hb c (List.mem_cons_of_mem _ hc)) h1
        refine ⟨⟨by have := q1.1; simp [this], fun j u c p1 p2 => ?_⟩, fun c hc => ?_⟩
        · cases j with
          | zero => simp at p1 p2; subst p1; subst p2; exact keepC (hb z List.mem_cons_self) h0
          | succ j => exact q1.2 j u c (by simpa using p1) (by simpa using p2)
        · rcases List.mem_cons.1 hc with rfl | hc
          · exact Z1.below_mono mono (hb _ List.mem_cons_self)
          · exact q2 c hc

theorem coV_rv {nx : Nat} {T : K} {own : Bool} {v v' : V1} {j : Nat} {u : Value} (h : RV W g u v) (hb : v.below (· < nx)) (hz : coV (coZ nx T own) j v = some v') :
    RV W ⟨g.F, g.ρ, setN g.ω nx (.slice none 0 0)⟩ u v' ∧ v'.below (· < nx + 1) := by
  cases v with
  | c z =>
    simp only [coV] at hz
    split at hz
    · obtain ⟨z', h1, rfl⟩ := omap hz
      exact coZ_rc h h1
    · cases hz
  | agg cs =>
    obtain ⟨cs', h1, rfl⟩ := omap hz
    obtain ⟨vs, hv, hr⟩ := h
    obtain ⟨q1, q2⟩ := atL_rcs hr hb h1
    exact ⟨⟨vs, hv, q1⟩, q2⟩

theorem mvZ_rc {nx l : Nat} {v : Value} {z z' : Z1} (hl : l < nx) (h : RC W g v z) (hz : mvZ l nx z = some z') : RC W ⟨g.F, g.ρ, setN g.ω nx (g.ω l)⟩ v z' ∧ z'.below (· < nx + 1) := by
  unfold mvZ at hz
  split at hz
  · split at hz
    · rename_i hh
      subst hh
      cases hz
      exact ⟨⟨h.1, (setN_same _ _ _).trans h.2⟩, Nat.lt_succ_self nx⟩
    · cases hz
  · cases hz
theorem atL_mv {nx l : Nat} (hl : l < nx) : ∀ {cs cs' : List Z1} {j : Nat} {vs : List Value}, RCs W g vs cs → (∀ z ∈ cs, z.below (· < nx)) → atL (mvZ l nx) j cs = some cs' →
    RCs W ⟨g.F, g.ρ, setN g.ω nx (g.ω l)⟩ vs cs' ∧ ∀ z ∈ cs', z.below (· < nx + 1)
  | [], cs', j, vs, h, hb, hz => by cases j <;> cases hz
  | z :: r, cs', j, vs, h, hb, hz => by
    have keepC : ∀ {v : Value} {z : Z1}, z.below (· < nx) → RC W g v z → RC W ⟨g.F, g.ρ, setN g.ω nx (g.ω l)⟩ v z := fun hb h =>
      RC.keep (g := g) (g' := ⟨g.F, g.ρ, setN g.ω nx (g.ω l)⟩) (Keeps.refl _ _) hb (fun _ _ => rfl) (fun l hl => setN_ne _ _ (by have : l < nx := hl; omega)) h
    have mono : ∀ k, k < nx → k < nx + 1 := fun k hk => by omega
    cases vs with
    | nil => have := h.1; simp at this
    | cons v vs =>
      have h0 := h.2 0 v z rfl rfl
      have hr : RCs W g vs r := ⟨by have := h.1; simpa using this, fun j u c h1 h2 => h.2 (j + 1) u c h1 h2⟩
      cases j with
      | zero =>
        obtain ⟨z', h1, rfl⟩ := omap hz
        obtain ⟨q1, q2⟩ := mvZ_rc hl h0 h1
        refine ⟨⟨by have := hr.1; simp [this], fun j u c p1 p2 => ?_⟩, fun c hc => ?_⟩
        · cases j with
          | zero => simp at p1 p2; subst p1; subst p2; exact q1
          | succ j => exact keepC (hb c (List.mem_cons_of_mem _ (List.mem_of_getElem? (by simpa using p2)))) (hr.2 j u c (by simpa using p1) (by simpa using p2))
        · rcases List.mem_cons.1 hc with rfl | hc
          · exact q2
          · exact Z1.below_mono mono (hb c (List.mem_cons_of_mem _ hc))
      | succ j =>
        obtain ⟨r', h1, rfl⟩ := omap hz
        obtain ⟨q1, q2⟩ := atL_mv hl hr (fun c hc => hb c (List.mem_cons_of_mem _ hc)) h1
        refine ⟨⟨by have := q1.1; simp [this], fun j u c p1 p2 => ?_⟩, fun c hc => ?_⟩
        · cases j with
          | zero => simp at p1 p2; subst p1; subst p2; exact keepC (hb z List.mem_cons_self) h0
          | succ j => exact q1.2 j u c (by simpa using p1) (by simpa using p2)
        · rcases List.mem_cons.1 hc with rfl | hc
          · exact Z1.below_mono mono (hb _ List.mem_cons_self)
          · exact q2 c hc
theorem coV_mv {nx l : Nat} (hl : l < nx) {v v' : V1} {j : Nat} {u : Value} (h : RV W g u v) (hb : v.below (· < nx)) (hz : coV (mvZ l nx) j v = some v') :
    RV W ⟨g.F, g.ρ, setN g.ω nx (g.ω l)⟩ u v' ∧ v'.below (· < nx + 1) := by
  cases v with
  | c z =>
    simp only [coV] at hz
    split at hz
    · obtain ⟨z', h1, rfl⟩ := omap hz
      exact mvZ_rc hl h h1
    · cases hz
  | agg cs =>
    obtain ⟨cs', h1, rfl⟩ := omap hz
    obtain ⟨vs, hv, hr⟩ := h
    obtain ⟨q1, q2⟩ := atL_mv hl hr hb h1
    exact ⟨⟨vs, hv, q1⟩, q2⟩

theorem lvOf_cons (l : List (Nat × Option Ow)) (k : Nat) (x : Option Ow) (j : Nat) : lvOf ((k, x) :: l) j = if k = j then x else lvOf l j := by
  simp only [lvOf, look]
  split
  · rfl
  · rfl

theorem look_maps {α β : Type} (f : α → β) : ∀ (l : List (Nat × α)) (t : Nat), look (l.map fun p => (p.1, f p.2)) t = (look l t).map f
  | [], _ => rfl
  | (i, x) :: l, t => by
    simp only [List.map_cons, look]
    split
    · rfl
    · exact look_maps f l t
theorem look_pubB (f : Z1 → Z1) (l : Nat) (keep : Bool) : ∀ (bx : List (Nat × List Z1)) (t : Nat) (cs : List Z1), look (pubB f l keep bx) t = some cs → ∃ cs0, look bx t = some cs0 ∧ cs = cs0.map f
  | [], _, _, h => by cases h
  | (i, x) :: bx, t, cs, h => by
    unfold pubB at h
    rw [List.filter_cons] at h
    split at h
    · simp only [List.map_cons, look] at h ⊢
      split at h
      · rename_i e; rw [if_pos e]; cases h; exact ⟨x, rfl, rfl⟩
      · rename_i e; rw [if_neg e]; exact look_pubB f l keep bx t cs h
    · rename_i hk
      simp only [look]
      obtain ⟨c0, h1, h2⟩ := look_pubB f l keep bx t cs h
      have hne : ¬ i = t := fun e => by
        subst e
        simp only [Bool.or_eq_true, bne_iff_ne, ne_eq, not_or, Decidable.not_not] at hk
        obtain ⟨h3, rfl⟩ := hk
        have nn : ∀ (b : List (Nat × List Z1)) (c : List Z1), look (pubB f i keep b) i = some c → False := by
          intro b
          induction b with
          | nil => intro c h; cases h
          | cons y b ih =>
            intro c h
            unfold pubB at h
            rw [List.filter_cons] at h
            split at h
            · rename_i hy
              simp only [Bool.or_eq_true, bne_iff_ne, ne_eq] at hy
              rcases hy with hy | hy
              · exact h3 hy
              · simp only [List.map_cons, look, if_neg hy] at h; exact ih c h
            · exact ih c h
        exact nn bx cs h
      rw [if_neg hne]; exact ⟨c0, h1, h2⟩
/-- A row that was written is given away: what it holds is frozen. -/
theorem AI.pub {s : St} {l : Nat} {e : TypeId} {T : K} {xs : List T.den} {keep : Bool} (h : AI P E g s.den a W) (hl : s.den.live l = some ⟨e, 2⟩) (hb : s.den.bx l = some [.run T xs]) :
    ∃ g', AI P E g' (St.den ⟨s.sl.map fun p => (p.1, pubS (pubZ l T xs) p.2), (l, some ⟨e, 0⟩) :: s.live, pubB (pubZ l T xs) l keep s.bx, s.nx⟩) a W := by
  obtain ⟨F', hF0, hK, hv, hF1, hF2⟩ : ∃ F' : Nat → Nat → Prop, (∀ b o, g.F b o → F' b o) ∧ Keeps g.F F' W W ∧ RD W F' (g.ω l) (X.sl T xs).raw ∧ (∀ b o, F' b o → g.F b o ∨ ((g.ω l).ownBlock = some b ∧ b < W.heap.size)) ∧
      OwnV P W F' (g.ω l) ⟨e, 0⟩ := by
    rcases h.rowIs hl hb with ⟨h1, rfl⟩ | ⟨hT, b, cap, cur, h1, h2, h3, h4, h5, h6, h7⟩
    · refine ⟨g.F, fun _ _ q => q, Keeps.refl _ _, by rw [h1]; exact (RD.slNil T.size : RD W g.F _ (.sl T.size [])), fun b o q => .inl q, .inl ⟨h1, (show (0 : Nat) ≠ 1 by decide)⟩⟩
    · have hK : Keeps g.F (fun b' o => g.F b' o ∨ (b' = b ∧ o < xs.length * T.size)) W W := ⟨fun b o q => .inl q, fun _ _ _ => rfl⟩
      have hcs : xs.length * T.size ≤ cur.size := by rw [h6, hT.2]; exact Nat.mul_le_mul_right _ h4
      refine ⟨fun b' o => g.F b' o ∨ (b' = b ∧ o < xs.length * T.size), fun _ _ q => .inl q, hK, ?_, fun b' o q => ?_, ?_⟩
      · rw [h1]
        refine RD.ofFlat rfl h4 hT.1 (vals := cur.toList.take (xs.length * T.size)) (fun q u hq hu => ?_) (Rel2.keepD hK h3)
        rw [List.getElem?_take_of_lt hq] at hu
        refine ⟨?_, .inr ⟨rfl, hq⟩⟩
        simp only [World.cell?, h2]
        simpa using hu
      · rcases q with q | ⟨rfl, q⟩
        · exact .inl q
        · refine .inr ⟨by rw [h1]; rfl, ?_⟩
          exact (Array.getElem?_eq_some_iff.1 h2).1
      · refine .inr ⟨b, xs.length, cap, cur, (0, 0), h1, h2, h4, h5, h6, fun o q => ?_, fun q => absurd (show (0 : Nat) = 1 from q) (by decide), .inl rfl, fun q => absurd (show (0 : Nat) = 2 from q) (by decide)⟩
        rcases q with q | ⟨_, q⟩
        · exact absurd q (h7 o)
        · rw [← hT.2]; exact q
  have keepC : ∀ {v : Value} {z : Z1}, RC W g v z → RC W ⟨F', g.ρ, g.ω⟩ v z := fun h => RC.keep (g := g) (g' := ⟨F', g.ρ, g.ω⟩) (n := fun _ => True) hK (by cases (‹Z1›) <;> first | trivial | exact fun _ _ => trivial) (fun _ _ => rfl) (fun _ _ => rfl) h
  have pubC : ∀ {v : Value} {z : Z1}, RC W g v z → RC W ⟨F', g.ρ, g.ω⟩ v (pubZ l T xs z) := by
    intro v z hz
    unfold pubZ
    split
    · split
      · rename_i hh; subst hh
        obtain ⟨q1, _⟩ := (hz : g.ω _ = v ∧ _)
        subst q1
        exact ⟨hv, rfl⟩
      · exact keepC hz
    · exact keepC hz
  have pubCs : ∀ {vs : List Value} {cs : List Z1}, RCs W g vs cs → RCs W ⟨F', g.ρ, g.ω⟩ vs (cs.map (pubZ l T xs)) := by
    intro vs cs hz
    refine ⟨by rw [hz.1, List.length_map], fun j v z h1 h2 => ?_⟩
    rw [List.getElem?_map] at h2
    cases hc : cs[j]? with
    | none => rw [hc] at h2; cases h2
    | some c => rw [hc] at h2; cases h2; exact pubC (hz.2 j v c h1 hc)
  have pubV' : ∀ {v : Value} {z : V1}, RV W g v z → RV W ⟨F', g.ρ, g.ω⟩ v (pubV (pubZ l T xs) z) := by
    intro v z hz
    cases z with
    | c z => exact pubC hz
    | agg cs => obtain ⟨vs, h1, h2⟩ := hz; exact ⟨vs, h1, pubCs h2⟩
  have lowC : ∀ {n : Nat → Prop} {z : Z1}, z.below n → (pubZ l T xs z).below n := by
    intro n z hz
    unfold pubZ
    split
    · split
      · rename_i hh; subst hh; exact hz
      · exact hz
    · exact hz
  have lowV : ∀ {n : Nat → Prop} {v : V1}, v.below n → (pubV (pubZ l T xs) v).below n := by
    intro n v hz
    cases v with
    | c z => exact lowC hz
    | agg cs => intro z hm; obtain ⟨y, hy, rfl⟩ := List.mem_map.1 hm; exact lowC (hz y hy)
  have hrun : ∀ cs : List Z1, isRun (cs.map (pubZ l T xs)) = isRun cs := by
    intro cs
    cases cs with
    | nil => rfl
    | cons z r =>
      cases r with
      | cons w r => rw [List.map_cons, List.map_cons, isRun_two, isRun_two]
      | nil =>
        cases z <;> first | rfl | skip
        unfold List.map pubZ
        dsimp only
        split <;> rfl
  have hlv : ∀ l' ow', lvOf ((l, some ⟨e, 0⟩) :: s.live) l' = some ow' → (l' = l ∧ ow' = ⟨e, 0⟩) ∨ (l' ≠ l ∧ s.den.live l' = some ow') := by
    intro l' ow' h1
    rw [lvOf_cons] at h1
    split at h1
    · rename_i hh; cases h1; exact .inl ⟨hh.symm, rfl⟩
    · rename_i hh; exact .inr ⟨fun q => hh q.symm, h1⟩
  have hlv0 : ∀ l' ow', lvOf ((l, some ⟨e, 0⟩) :: s.live) l' = some ow' → ∃ ow0, s.den.live l' = some ow0 := by
    intro l' ow' h1
    rcases hlv l' ow' h1 with ⟨rfl, _⟩ | ⟨_, h2⟩
    · exact ⟨_, hl⟩
    · exact ⟨_, h2⟩
  have hbx : ∀ id cs, bc (look (pubB (pubZ l T xs) l keep s.bx)) id = some cs → ∃ cs0, bc s.den.bx id = some cs0 ∧ cs = cs0.map (pubZ l T xs) := by
    intro id cs hid
    obtain ⟨h1, h2⟩ := bc_some hid
    obtain ⟨c0, h3, rfl⟩ := look_pubB _ _ _ _ _ _ h1
    exact ⟨c0, bc_of h3 (by rw [← hrun]; exact h2), rfl⟩
  refine ⟨⟨F', g.ρ, g.ω⟩, {
    defers := h.defers
    tsz := h.tsz
    slots := fun t z hz => ?_
    low := fun t z hz => ?_
    liveLow := fun l' ow' h1 => by obtain ⟨ow0, q⟩ := hlv0 l' ow' h1; exact h.liveLow l' ow0 q
    boxLow := fun id cs hid => by
      obtain ⟨c0, h3, rfl⟩ := look_pubB _ _ _ _ _ _ (hid : look (pubB (pubZ l T xs) l keep s.bx) id = some cs)
      obtain ⟨q1, q2⟩ := h.boxLow id c0 h3
      exact ⟨q1, fun z hz => by obtain ⟨y, hy, rfl⟩ := List.mem_map.1 hz; exact lowC (q2 y hy)⟩
    pkLow := h.pkLow
    pin := h.pin
    b := {
      fz := fun b o q => by
        rcases hF1 b o q with q | q
        · exact h.b.fz b o q
        · exact q.2
      os := h.b.os, tape := h.b.tape, output := h.b.output, size := h.b.size, block := h.b.block
      keeps := h.b.keeps.trans hK
      fmay := fun b o q => by
        rcases hF1 b o q with q | q
        · exact h.b.fmay b o q
        · exact .inr (h.h.ownMay l _ hl b q.1) }
    h := {
      own := fun l' ow' h1 => by
        rcases hlv l' ow' h1 with ⟨rfl, rfl⟩ | ⟨hne, h2⟩
        · exact hF2
        · rcases h.h.own l' ow' h2 with ⟨p1, p2⟩ | ⟨g0, n, cap, cur, fr, p1, p2, p3, p4, p5, p6, p7, p8, p9⟩
          · exact .inl ⟨p1, p2⟩
          · have hg0 : ∀ o, F' g0 o → g.F g0 o := fun o q => by
              rcases hF1 g0 o q with q | q
              · exact q
              · exact absurd q.1 (h.h.ownNe l' ow' l _ h2 hl hne g0 (by rw [p1]; rfl))
            exact .inr ⟨g0, n, cap, cur, fr, p1, p2, p3, p4, p5, fun o q => p6 o (hg0 o q), p7, p8, fun hk => ⟨(p9 hk).1, fun o q => (p9 hk).2 o (hg0 o q)⟩⟩
      ownNe := fun l1 e1 l2 e2 h1 h2 => by
        obtain ⟨o1, q1⟩ := hlv0 l1 e1 h1
        obtain ⟨o2, q2⟩ := hlv0 l2 e2 h2
        exact h.h.ownNe l1 o1 l2 o2 q1 q2
      ownMay := fun l1 e1 h1 => by obtain ⟨o1, q1⟩ := hlv0 l1 e1 h1; exact h.h.ownMay l1 o1 q1
      box := fun id cs hid => by
        obtain ⟨c0, h3, rfl⟩ := hbx id cs hid
        obtain ⟨p1, p3⟩ := h.h.box id c0 h3
        refine ⟨?_, fun o q => ?_⟩
        · rcases p1 with ⟨vs, ty, h1, hy, h2⟩ | ⟨k, k', l0, es, cl, h1, h2, h4⟩ | ⟨k, l0, h1, h2, h4⟩
          · exact .inl ⟨vs, ty, h1, by simpa using hy, by rw [List.length_map]; exact pubCs h2⟩
          · subst h1; exact .inr (.inl ⟨k, k', l0, es, cl, rfl, h2, h4⟩)
          · subst h1; cases k <;> first | exact .inr (.inr ⟨_, l0, rfl, h2, h4⟩) | cases h4
        · rcases hF1 _ o q with q | q
          · exact p3 o q
          · exact absurd q.1 (h.h.boxOwn id c0 l _ h3 hl)
      boxNe := fun id id' cs cs' h1 h2 => by
        obtain ⟨c1, q1, _⟩ := hbx id cs h1
        obtain ⟨c2, q2, _⟩ := hbx id' cs' h2
        exact h.h.boxNe id id' c1 c2 q1 q2
      boxMay := fun id cs h1 => by obtain ⟨c1, q1, _⟩ := hbx id cs h1; exact h.h.boxMay id c1 q1
      boxOwn := fun id cs l1 e1 h1 h2 => by
        obtain ⟨c1, q1, _⟩ := hbx id cs h1
        obtain ⟨o1, q2⟩ := hlv0 l1 e1 h2
        exact h.h.boxOwn id c1 l1 o1 q1 q2 }
    r := fun id T0 xs0 ow' hid h1 hk => ?_ }⟩
  · have hz' : look (s.sl.map fun p => (p.1, pubS (pubZ l T xs) p.2)) t = some z := hz
    rw [look_maps] at hz'
    cases hs : look s.sl t with
    | none => rw [hs] at hz'; cases hz'
    | some z0 =>
      rw [hs] at hz'; cases hz'
      obtain ⟨v, q1, q2⟩ := h.slots t z0 hs
      refine ⟨v, q1, ?_⟩
      cases z0 with
      | one x => exact pubV' q2
      | no => exact q2
      | tup vs =>
        obtain ⟨us, p1, p2, p3⟩ := q2
        refine ⟨us, p1, by rw [p2, List.length_map], fun j u x h1 h2 => ?_⟩
        rw [List.getElem?_map] at h2
        cases hc : vs[j]? with
        | none => rw [hc] at h2; cases h2
        | some c => rw [hc] at h2; cases h2; exact pubV' (p3 j u c h1 hc)
  · have hz' : look (s.sl.map fun p => (p.1, pubS (pubZ l T xs) p.2)) t = some z := hz
    rw [look_maps] at hz'
    cases hs : look s.sl t with
    | none => rw [hs] at hz'; cases hz'
    | some z0 =>
      rw [hs] at hz'; cases hz'
      have q := h.low t z0 hs
      cases z0 with
      | one x => exact lowV q
      | no => exact q
      | tup vs => intro v hm; obtain ⟨y, hy, rfl⟩ := List.mem_map.1 hm; exact lowV (q y hy)
  · rcases hlv id ow' h1 with ⟨rfl, rfl⟩ | ⟨hne, h2⟩
    · cases hk
    · obtain ⟨c0, h3, h4⟩ := look_pubB _ _ _ _ _ _ (hid : look (pubB (pubZ l T xs) l keep s.bx) id = some [.run T0 xs0])
      have h5 : c0 = [.run T0 xs0] := by
        cases c0 with
        | nil => cases h4
        | cons z r =>
          cases r with
          | cons w r => simp at h4
          | nil =>
            have h4 := h4.symm
            simp only [List.map_cons, List.map_nil, List.cons.injEq, and_true] at h4
            cases z with
            | row l' T' =>
              have h4' : (if l' = l then Z1.own l T xs else .row l' T') = .run T0 xs0 := h4
              split at h4' <;> cases h4'
            | run T' xs' => exact congrArg (fun z => [z]) h4
            | _ => cases h4
      subst h5
      exact RowIs.keep (h.r id T0 xs0 ow' h3 h2 hk) hK (fun _ _ => rfl)

theorem rowZ_rc {nx : Nat} {T : K} {v : Value} {z z' : Z1} (h : RC W g v z) (hz : rowZ nx T z = some z') : RC W ⟨g.F, g.ρ, setN g.ω nx (.slice none 0 0)⟩ v z' ∧ z'.below (· < nx + 1) := by
  unfold rowZ at hz
  split at hz
  · rename_i xs
    cases hz
    have h1 : RD W g.F v (.sl 0 (xs.map K.unit.rrow)) := h
    obtain ⟨rfl, _, h2⟩ := RD.nil_any h1 T.size
    exact ⟨⟨setN_same _ _ _, _, _, _, rfl⟩, Nat.lt_succ_self nx⟩
  · cases hz
theorem atL_row {nx : Nat} {T : K} : ∀ {cs cs' : List Z1} {j : Nat} {vs : List Value}, RCs W g vs cs → (∀ z ∈ cs, z.below (· < nx)) → atL (rowZ nx T) j cs = some cs' →
    RCs W ⟨g.F, g.ρ, setN g.ω nx (.slice none 0 0)⟩ vs cs' ∧ ∀ z ∈ cs', z.below (· < nx + 1)
  | [], cs', j, vs, h, hb, hz => by cases j <;> cases hz
  | z :: r, cs', j, vs, h, hb, hz => by
    have keepC : ∀ {v : Value} {z : Z1}, z.below (· < nx) → RC W g v z → RC W ⟨g.F, g.ρ, setN g.ω nx (.slice none 0 0)⟩ v z := fun hb h =>
      RC.keep (g := g) (g' := ⟨g.F, g.ρ, setN g.ω nx (.slice none 0 0)⟩) (Keeps.refl _ _) hb (fun _ _ => rfl) (fun l hl => setN_ne _ _ (by have : l < nx := hl; omega)) h
    have mono : ∀ k, k < nx → k < nx + 1 := fun k hk => by omega
    cases vs with
    | nil => have := h.1; simp at this
    | cons v vs =>
      have h0 := h.2 0 v z rfl rfl
      have hr : RCs W g vs r := ⟨by have := h.1; simpa using this, fun j u c h1 h2 => h.2 (j + 1) u c h1 h2⟩
      cases j with
      | zero =>
        obtain ⟨z', h1, rfl⟩ := omap hz
        obtain ⟨q1, q2⟩ := rowZ_rc h0 h1
        refine ⟨⟨by have := hr.1; simp [this], fun j u c p1 p2 => ?_⟩, fun c hc => ?_⟩
        · cases j with
          | zero => simp at p1 p2; subst p1; subst p2; exact q1
          | succ j => exact keepC (hb c (List.mem_cons_of_mem _ (List.mem_of_getElem? (by simpa using p2)))) (hr.2 j u c (by simpa using p1) (by simpa using p2))
        · rcases List.mem_cons.1 hc with rfl | hc
          · exact q2
          · exact Z1.below_mono mono (hb c (List.mem_cons_of_mem _ hc))
      | succ j =>
        obtain ⟨r', h1, rfl⟩ := omap hz
        obtain ⟨q1, q2⟩ := atL_row hr (fun c hc => hb c (List.mem_cons_of_mem _ hc)) h1
        refine ⟨⟨by have := q1.1; simp [this], fun j u c p1 p2 => ?_⟩, fun c hc => ?_⟩
        · cases j with
          | zero => simp at p1 p2; subst p1; subst p2; exact keepC (hb z List.mem_cons_self) h0
          | succ j => exact q1.2 j u c (by simpa using p1) (by simpa using p2)
        · rcases List.mem_cons.1 hc with rfl | hc
          · exact Z1.below_mono mono (hb _ List.mem_cons_self)
          · exact q2 c hc
theorem coV_row {nx : Nat} {T : K} {v v' : V1} {j : Nat} {u : Value} (h : RV W g u v) (hb : v.below (· < nx)) (hz : coV (rowZ nx T) j v = some v') :
    RV W ⟨g.F, g.ρ, setN g.ω nx (.slice none 0 0)⟩ u v' ∧ v'.below (· < nx + 1) := by
  cases v with
  | c z =>
    simp only [coV] at hz
    split at hz
    · obtain ⟨z', h1, rfl⟩ := omap hz
      exact rowZ_rc h h1
    · cases hz
  | agg cs =>
    obtain ⟨cs', h1, rfl⟩ := omap hz
    obtain ⟨vs, hv, hr⟩ := h
    obtain ⟨q1, q2⟩ := atL_row hr hb h1
    exact ⟨⟨vs, hv, q1⟩, q2⟩
/-- Nil in a slot, told as an empty row that may be written. -/
theorem AI.nilrow {s : St} {t j : Nat} {T : K} {e : TypeId} {v v' : V1} (h : AI P E g s.den a W) (hv : look s.sl t = some (.one v)) (hz : coV (rowZ s.nx T) j v = some v') :
    ∃ g', AI P E g' (St.den ⟨(t, .one v') :: s.sl, (s.nx, some ⟨e, 2⟩) :: s.live, (s.nx, [.run T []]) :: s.bx, s.nx + 1⟩) a W := by
  have hnx : ∀ {k : Nat}, s.den.us k → k ≠ s.nx := fun {k} hk e => by have : k < s.nx := hk; omega
  have mono : ∀ k, s.den.us k → k < s.nx + 1 := fun k hk => by have : k < s.nx := hk; omega
  have hsame : ∀ {k : Nat}, s.den.us k → setN g.ω s.nx (.slice none 0 0) k = g.ω k := fun hk => setN_ne _ _ (hnx hk)
  have keepZ : ∀ {v : Value} {z : Z}, z.below s.den.us → RZ W g v z → RZ W ⟨g.F, g.ρ, setN g.ω s.nx (.slice none 0 0)⟩ v z := fun hb h =>
    RZ.keep (g := g) (g' := ⟨g.F, g.ρ, setN g.ω s.nx (.slice none 0 0)⟩) (Keeps.refl _ _) hb (fun _ _ => rfl) (fun l hl => hsame hl) h
  have keepCs : ∀ {cs : List Z1}, (∀ z ∈ cs, z.below s.den.us) → ∀ vs : List Value, RCs W g vs cs → RCs W ⟨g.F, g.ρ, setN g.ω s.nx (.slice none 0 0)⟩ vs cs := fun hb vs h =>
    RCs.keep (g := g) (g' := ⟨g.F, g.ρ, setN g.ω s.nx (.slice none 0 0)⟩) (Keeps.refl _ _) hb (fun _ _ => rfl) (fun l hl => hsame hl) h
  have keepB : ∀ {cs : List Z1}, (∀ z ∈ cs, z.below s.den.us) → ∀ b : Nat, BoxIs W g b cs → BoxIs W ⟨g.F, g.ρ, setN g.ω s.nx (.slice none 0 0)⟩ b cs := fun hb b h => by
    rcases h with ⟨vs, ty, h1, hy, h2⟩ | ⟨k, k', l, es, cl, h1, h2, h3⟩ | ⟨k, l, h1, h2, h3⟩
    · exact .inl ⟨vs, ty, h1, hy, keepCs hb _ h2⟩
    · exact .inr (.inl ⟨k, k', l, es, cl, h1, h2, h3⟩)
    · exact .inr (.inr ⟨k, l, h1, h2, h3⟩)
  have lv : ∀ k ow', lvOf ((s.nx, some ⟨e, 2⟩) :: s.live) k = some ow' → (k = s.nx ∧ ow' = ⟨e, 2⟩) ∨ (k ≠ s.nx ∧ s.den.live k = some ow') := by
    intro k ow' h1
    rw [lvOf_cons] at h1
    split at h1
    · rename_i hh; cases h1; exact .inl ⟨hh.symm, rfl⟩
    · rename_i hh; exact .inr ⟨fun q => hh q.symm, h1⟩
  have own0 : (setN g.ω s.nx (.slice none 0 0) s.nx).ownBlock = none := by rw [setN_same]; rfl
  have hbx : ∀ id cs, bc (look ((s.nx, [.run T []]) :: s.bx)) id = some cs → bc s.den.bx id = some cs := by
    intro id cs hid
    obtain ⟨h1, h2⟩ := bc_some hid
    have h1' : (if s.nx = id then some [Z1.run T []] else look s.bx id) = some cs := h1
    split at h1'
    · cases h1'; cases h2
    · exact bc_of h1' h2
  have hvl : v.below s.den.us := h.low t (.one v) hv
  refine ⟨⟨g.F, g.ρ, setN g.ω s.nx (.slice none 0 0)⟩, {
    defers := h.defers
    tsz := h.tsz
    slots := fun u z hz0 => by
      have hz' : (if t = u then some (Z.one v') else look s.sl u) = some z := hz0
      by_cases hh : t = u
      · rw [if_pos hh] at hz'; subst hh; cases hz'
        obtain ⟨x, q1, q2⟩ := h.slots t _ hv
        exact ⟨x, q1, (coV_row q2 hvl hz).1⟩
      · rw [if_neg hh] at hz'
        obtain ⟨x, q1, q2⟩ := h.slots u z hz'; exact ⟨x, q1, keepZ (h.low u z hz') q2⟩
    low := fun u z hz0 => by
      have hz' : (if t = u then some (Z.one v') else look s.sl u) = some z := hz0
      by_cases hh : t = u
      · rw [if_pos hh] at hz'; subst hh; cases hz'
        obtain ⟨x, q1, q2⟩ := h.slots t _ hv
        exact (coV_row q2 hvl hz).2
      · rw [if_neg hh] at hz'; exact Z.below_mono mono (h.low u z hz')
    liveLow := fun k ow' hk => by
      rcases lv k ow' hk with ⟨rfl, _⟩ | ⟨_, h2⟩
      · exact Nat.lt_succ_self s.nx
      · exact mono k (h.liveLow k ow' h2)
    boxLow := fun id c hid => by
      have h1' : (if s.nx = id then some [Z1.run T []] else look s.bx id) = some c := hid
      split at h1'
      · rename_i hh; subst hh; cases h1'
        exact ⟨Nat.lt_succ_self s.nx, fun z hm => by simp only [List.mem_singleton] at hm; subst hm; trivial⟩
      · obtain ⟨q1, q2⟩ := h.boxLow id c h1'
        exact ⟨mono id q1, fun z hz => Z1.below_mono mono (q2 z hz)⟩
    pkLow := fun j hj => mono j (h.pkLow j hj)
    pin := fun j hj => by
      show g.ρ j = E.ρ0 j ∧ setN g.ω s.nx (.slice none 0 0) j = E.ω0 j
      rw [hsame (h.pkLow j hj)]; exact h.pin j hj
    b := h.b
    h := {
      own := fun k ow' hk => by
        rcases lv k ow' hk with ⟨rfl, rfl⟩ | ⟨_, h2⟩
        · exact .inl ⟨setN_same _ _ _, (show (2 : Nat) ≠ 1 by decide)⟩
        · show OwnV P W g.F (setN g.ω s.nx _ k) ow'
          rw [hsame (h.liveLow k ow' h2)]; exact h.h.own k ow' h2
      ownNe := fun k e1 k' e2 hk hk' hne b hb1 hb2 => by
        rcases lv k e1 hk with ⟨rfl, _⟩ | ⟨_, h2⟩
        · have hb1 : (setN g.ω s.nx (.slice none 0 0) s.nx).ownBlock = some b := hb1
          rw [own0] at hb1; cases hb1
        · rcases lv k' e2 hk' with ⟨rfl, _⟩ | ⟨_, h2'⟩
          · have hb2 : (setN g.ω s.nx (.slice none 0 0) s.nx).ownBlock = some b := hb2
            rw [own0] at hb2; cases hb2
          · have hb1 : (setN g.ω s.nx (.slice none 0 0) k).ownBlock = some b := hb1
            have hb2 : (setN g.ω s.nx (.slice none 0 0) k').ownBlock = some b := hb2
            rw [hsame (h.liveLow k e1 h2)] at hb1; rw [hsame (h.liveLow k' e2 h2')] at hb2
            exact h.h.ownNe k e1 k' e2 h2 h2' hne b hb1 hb2
      ownMay := fun k e1 hk b hb1 => by
        rcases lv k e1 hk with ⟨rfl, _⟩ | ⟨_, h2⟩
        · have hb1 : (setN g.ω s.nx (.slice none 0 0) s.nx).ownBlock = some b := hb1
          rw [own0] at hb1; cases hb1
        · have hb1 : (setN g.ω s.nx (.slice none 0 0) k).ownBlock = some b := hb1
          rw [hsame (h.liveLow k e1 h2)] at hb1
          exact h.h.ownMay k e1 h2 b hb1
      box := fun id c hid => by
        have hid0 := hbx id c hid
        obtain ⟨p1, p3⟩ := h.h.box id c hid0
        exact ⟨keepB (h.boxLow id c (bc_some hid0).1).2 _ p1, p3⟩
      boxNe := fun id id' c c' h1 h2 => h.h.boxNe id id' c c' (hbx _ _ h1) (hbx _ _ h2)
      boxMay := fun id c h1 => h.h.boxMay id c (hbx _ _ h1)
      boxOwn := fun id c k e1 h1 hk hb1 => by
        rcases lv k e1 hk with ⟨rfl, _⟩ | ⟨_, h2⟩
        · have hb1 : (setN g.ω s.nx (.slice none 0 0) s.nx).ownBlock = some _ := hb1
          rw [own0] at hb1; cases hb1
        · have hb1 : (setN g.ω s.nx (.slice none 0 0) k).ownBlock = some (g.ρ id) := hb1
          rw [hsame (h.liveLow k e1 h2)] at hb1
          exact h.h.boxOwn id c k e1 (hbx _ _ h1) h2 hb1 }
    r := fun id T0 xs0 ow' hid hk hk2 => by
      have h1' : (if s.nx = id then some [Z1.run T []] else look s.bx id) = some [.run T0 xs0] := hid
      split at h1'
      · rename_i hh; subst hh
        simp only [Option.some.injEq, List.cons.injEq, Z1.run.injEq, and_true] at h1'
        obtain ⟨rfl, h4⟩ := h1'
        cases h4
        exact .inl ⟨setN_same _ _ _, rfl⟩
      · rename_i hne
        rcases lv id ow' hk with ⟨rfl, _⟩ | ⟨_, h2⟩
        · exact absurd rfl hne
        · show RowIs P W g.F ow'.e (setN g.ω s.nx _ id) T0 xs0
          rw [hsame (h.liveLow id ow' h2)]; exact h.r id T0 xs0 ow' h1' h2 hk2 }⟩

/-- A row that is written takes a new label. -/
theorem AI.mvrow {s : St} {l : Nat} {ow : Ow} {T : K} {xs : List T.den} (h : AI P E g s.den a W) (hl : s.den.live l = some ow) (hb : s.den.bx l = some [.run T xs]) (hk2 : ow.k = 2) :
    ∃ g', AI P E g' (St.den ⟨s.sl.map fun p => (p.1, pubS (mvrZ l s.nx) p.2), (s.nx, some ow) :: (l, none) :: s.live, (s.nx, [.run T xs]) :: pubB (mvrZ l s.nx) l true s.bx, s.nx + 1⟩) a W := by
  have hnx : ∀ {k : Nat}, s.den.us k → k ≠ s.nx := fun {k} hk e => by have : k < s.nx := hk; omega
  have mono : ∀ k, s.den.us k → k < s.nx + 1 := fun k hk => by have : k < s.nx := hk; omega
  have hll : l < s.nx := h.liveLow l ow hl
  have hsame : ∀ {k : Nat}, s.den.us k → setN g.ω s.nx (g.ω l) k = g.ω k := fun hk => setN_ne _ _ (hnx hk)
  have keepC : ∀ {v : Value} {z : Z1}, z.below s.den.us → RC W g v z → RC W ⟨g.F, g.ρ, setN g.ω s.nx (g.ω l)⟩ v z := fun hb h =>
    RC.keep (g := g) (g' := ⟨g.F, g.ρ, setN g.ω s.nx (g.ω l)⟩) (Keeps.refl _ _) hb (fun _ _ => rfl) (fun l hl => hsame hl) h
  have mvC : ∀ {v : Value} {z : Z1}, z.below s.den.us → RC W g v z → RC W ⟨g.F, g.ρ, setN g.ω s.nx (g.ω l)⟩ v (mvrZ l s.nx z) := by
    intro v z hbl hz
    unfold mvrZ
    split
    · split
      · rename_i hh; subst hh
        obtain ⟨q1, q2⟩ := (hz : g.ω _ = v ∧ _)
        exact ⟨(setN_same _ _ _).trans q1, q2⟩
      · exact keepC hbl hz
    · exact keepC hbl hz
  have mvCs : ∀ {vs : List Value} {cs : List Z1}, (∀ z ∈ cs, z.below s.den.us) → RCs W g vs cs → RCs W ⟨g.F, g.ρ, setN g.ω s.nx (g.ω l)⟩ vs (cs.map (mvrZ l s.nx)) := by
    intro vs cs hbl hz
    refine ⟨by rw [hz.1, List.length_map], fun j v z h1 h2 => ?_⟩
    rw [List.getElem?_map] at h2
    cases hc : cs[j]? with
    | none => rw [hc] at h2; cases h2
    | some c => rw [hc] at h2; cases h2; exact mvC (hbl c (List.mem_of_getElem? hc)) (hz.2 j v c h1 hc)
  have mvV : ∀ {v : Value} {z : V1}, z.below s.den.us → RV W g v z → RV W ⟨g.F, g.ρ, setN g.ω s.nx (g.ω l)⟩ v (pubV (mvrZ l s.nx) z) := by
    intro v z hbl hz
    cases z with
    | c z => exact mvC hbl hz
    | agg cs => obtain ⟨vs, h1, h2⟩ := hz; exact ⟨vs, h1, mvCs hbl h2⟩
  have lowC : ∀ {z : Z1}, z.below s.den.us → (mvrZ l s.nx z).below (· < s.nx + 1) := by
    intro z hz
    unfold mvrZ
    split
    · split
      · exact Nat.lt_succ_self s.nx
      · exact Z1.below_mono mono hz
    · exact Z1.below_mono mono hz
  have lowV : ∀ {v : V1}, v.below s.den.us → (pubV (mvrZ l s.nx) v).below (· < s.nx + 1) := by
    intro v hz
    cases v with
    | c z => exact lowC hz
    | agg cs => intro z hm; obtain ⟨y, hy, rfl⟩ := List.mem_map.1 hm; exact lowC (hz y hy)
  have hrun : ∀ cs : List Z1, isRun (cs.map (mvrZ l s.nx)) = isRun cs := by
    intro cs
    cases cs with
    | nil => rfl
    | cons z r =>
      cases r with
      | cons w r => rw [List.map_cons, List.map_cons, isRun_two, isRun_two]
      | nil =>
        cases z <;> first | rfl | skip
        unfold List.map mvrZ
        dsimp only
        split <;> rfl
  have lv : ∀ k ow', lvOf ((s.nx, some ow) :: (l, none) :: s.live) k = some ow' → (k = s.nx ∧ ow' = ow) ∨ (k ≠ l ∧ k ≠ s.nx ∧ s.den.live k = some ow') := by
    intro k ow' hk
    rw [lvOf_cons, lvOf_cons] at hk
    split at hk
    · rename_i hh; cases hk; exact .inl ⟨hh.symm, rfl⟩
    · rename_i hh0
      split at hk
      · cases hk
      · rename_i hh; exact .inr ⟨fun e => hh e.symm, fun e => hh0 e.symm, hk⟩
  have val : ∀ k ow', lvOf ((s.nx, some ow) :: (l, none) :: s.live) k = some ow' → ∃ k0, s.den.live k0 = some ow' ∧ setN g.ω s.nx (g.ω l) k = g.ω k0 ∧ (k = s.nx ↔ k0 = l) ∧ (k ≠ s.nx → k0 = k) := by
    intro k ow' hk
    rcases lv k ow' hk with ⟨rfl, rfl⟩ | ⟨h1, h0, h2⟩
    · exact ⟨l, hl, setN_same _ _ _, by simp, fun q => absurd rfl q⟩
    · exact ⟨k, h2, hsame (h.liveLow k ow' h2), by simp [h0, h1], fun _ => rfl⟩
  have hbx : ∀ id cs, bc (look ((s.nx, [.run T xs]) :: pubB (mvrZ l s.nx) l true s.bx)) id = some cs → ∃ cs0, bc s.den.bx id = some cs0 ∧ cs = cs0.map (mvrZ l s.nx) := by
    intro id cs hid
    obtain ⟨h1, h2⟩ := bc_some hid
    have h1' : (if s.nx = id then some [Z1.run T xs] else look (pubB (mvrZ l s.nx) l true s.bx) id) = some cs := h1
    split at h1'
    · cases h1'; cases h2
    · obtain ⟨c0, h3, rfl⟩ := look_pubB _ _ _ _ _ _ h1'
      exact ⟨c0, bc_of h3 (by rw [← hrun]; exact h2), rfl⟩
  refine ⟨⟨g.F, g.ρ, setN g.ω s.nx (g.ω l)⟩, {
    defers := h.defers
    tsz := h.tsz
    slots := fun t z hz => ?_
    low := fun t z hz => ?_
    liveLow := fun k ow' hk => by
      rcases lv k ow' hk with ⟨rfl, _⟩ | ⟨_, _, h2⟩
      · exact Nat.lt_succ_self s.nx
      · exact mono k (h.liveLow k ow' h2)
    boxLow := fun id cs hid => by
      have h1' : (if s.nx = id then some [Z1.run T xs] else look (pubB (mvrZ l s.nx) l true s.bx) id) = some cs := hid
      split at h1'
      · rename_i hh; subst hh; cases h1'
        exact ⟨Nat.lt_succ_self s.nx, fun z hm => by simp only [List.mem_singleton] at hm; subst hm; trivial⟩
      · obtain ⟨c0, h3, rfl⟩ := look_pubB _ _ _ _ _ _ h1'
        obtain ⟨q1, q2⟩ := h.boxLow id c0 h3
        exact ⟨mono id q1, fun z hz => by obtain ⟨y, hy, rfl⟩ := List.mem_map.1 hz; exact lowC (q2 y hy)⟩
    pkLow := fun j hj => mono j (h.pkLow j hj)
    pin := fun j hj => by
      show g.ρ j = E.ρ0 j ∧ setN g.ω s.nx (g.ω l) j = E.ω0 j
      rw [hsame (h.pkLow j hj)]; exact h.pin j hj
    b := h.b
    h := {
      own := fun k ow' hk => by
        obtain ⟨k0, q1, q2, _⟩ := val k ow' hk
        show OwnV P W g.F (setN g.ω s.nx (g.ω l) k) ow'
        rw [q2]; exact h.h.own k0 ow' q1
      ownNe := fun k e k' e' hk hk' hne b hb1 hb2 => by
        obtain ⟨k0, q1, q2, q3, q4⟩ := val k e hk
        obtain ⟨k1, p1, p2, p3, p4⟩ := val k' e' hk'
        have hb1 : (setN g.ω s.nx (g.ω l) k).ownBlock = some b := hb1
        have hb2 : (setN g.ω s.nx (g.ω l) k').ownBlock = some b := hb2
        rw [q2] at hb1; rw [p2] at hb2
        refine h.h.ownNe k0 e k1 e' q1 p1 (fun q => hne ?_) b hb1 hb2
        by_cases h1 : k = s.nx
        · have := q3.1 h1; rw [h1]; exact (p3.2 (by rw [← q]; exact this)).symm
        · by_cases h2 : k' = s.nx
          · have := p3.1 h2; exact absurd (q3.2 (by rw [q]; exact this)) h1
          · rw [← q4 h1, ← p4 h2]; exact q
      ownMay := fun k ow' hk b hb1 => by
        obtain ⟨k0, q1, q2, _⟩ := val k ow' hk
        have hb1 : (setN g.ω s.nx (g.ω l) k).ownBlock = some b := hb1
        rw [q2] at hb1; exact h.h.ownMay k0 ow' q1 b hb1
      box := fun id cs hid => by
        obtain ⟨c0, h3, rfl⟩ := hbx id cs hid
        obtain ⟨p1, p3⟩ := h.h.box id c0 h3
        refine ⟨?_, p3⟩
        rcases p1 with ⟨vs, ty, h1, hy, h2⟩ | ⟨k, k', l0, es, cl, h1, h2, h4⟩ | ⟨k, l0, h1, h2, h4⟩
        · exact .inl ⟨vs, ty, h1, by simpa using hy, by rw [List.length_map]; exact mvCs (h.boxLow id c0 (bc_some h3).1).2 h2⟩
        · subst h1; exact .inr (.inl ⟨k, k', l0, es, cl, rfl, h2, h4⟩)
        · subst h1; cases k <;> first | exact .inr (.inr ⟨_, l0, rfl, h2, h4⟩) | cases h4
      boxNe := fun id id' cs cs' h1 h2 => by
        obtain ⟨c1, q1, _⟩ := hbx id cs h1
        obtain ⟨c2, q2, _⟩ := hbx id' cs' h2
        exact h.h.boxNe id id' c1 c2 q1 q2
      boxMay := fun id cs h1 => by obtain ⟨c1, q1, _⟩ := hbx id cs h1; exact h.h.boxMay id c1 q1
      boxOwn := fun id cs k ow' h1 hk hc2 => by
        obtain ⟨c1, q1, _⟩ := hbx id cs h1
        obtain ⟨k0, p1, p2, _⟩ := val k ow' hk
        have hc2 : (setN g.ω s.nx (g.ω l) k).ownBlock = some (g.ρ id) := hc2
        rw [p2] at hc2; exact h.h.boxOwn id c1 k0 ow' q1 p1 hc2 }
    r := fun id T0 xs0 ow' hid hk hkk => ?_ }⟩
  · have hz' : look (s.sl.map fun p => (p.1, pubS (mvrZ l s.nx) p.2)) t = some z := hz
    rw [look_maps] at hz'
    cases hs : look s.sl t with
    | none => rw [hs] at hz'; cases hz'
    | some z0 =>
      rw [hs] at hz'; cases hz'
      obtain ⟨v, q1, q2⟩ := h.slots t z0 hs
      have q3 := h.low t z0 hs
      refine ⟨v, q1, ?_⟩
      cases z0 with
      | one x => exact mvV q3 q2
      | no => exact q2
      | tup vs =>
        obtain ⟨us, p1, p2, p3⟩ := q2
        refine ⟨us, p1, by rw [p2, List.length_map], fun j u x h1 h2 => ?_⟩
        rw [List.getElem?_map] at h2
        cases hc : vs[j]? with
        | none => rw [hc] at h2; cases h2
        | some c => rw [hc] at h2; cases h2; exact mvV (q3 c (List.mem_of_getElem? hc)) (p3 j u c h1 hc)
  · have hz' : look (s.sl.map fun p => (p.1, pubS (mvrZ l s.nx) p.2)) t = some z := hz
    rw [look_maps] at hz'
    cases hs : look s.sl t with
    | none => rw [hs] at hz'; cases hz'
    | some z0 =>
      rw [hs] at hz'; cases hz'
      have q := h.low t z0 hs
      cases z0 with
      | one x => exact lowV q
      | no => exact q
      | tup vs => intro v hm; obtain ⟨y, hy, rfl⟩ := List.mem_map.1 hm; exact lowV (q y hy)
  · have h1' : (if s.nx = id then some [Z1.run T xs] else look (pubB (mvrZ l s.nx) l true s.bx) id) = some [.run T0 xs0] := hid
    rcases lv id ow' hk with ⟨rfl, rfl⟩ | ⟨hne, hn0, h2⟩
    · rw [if_pos rfl] at h1'
      simp only [Option.some.injEq, List.cons.injEq, Z1.run.injEq, and_true] at h1'
      obtain ⟨rfl, h4⟩ := h1'
      cases h4
      show RowIs P W g.F ow'.e (setN g.ω s.nx (g.ω l) s.nx) _ _
      rw [setN_same]
      exact h.r l _ _ ow' hb hl hk2
    · rw [if_neg (fun e => hn0 e.symm)] at h1'
      obtain ⟨c0, h3, h4⟩ := look_pubB _ _ _ _ _ _ h1'
      have h5 : c0 = [.run T0 xs0] := by
        cases c0 with
        | nil => cases h4
        | cons z r =>
          cases r with
          | cons w r => simp at h4
          | nil =>
            have h4 := h4.symm
            simp only [List.map_cons, List.map_nil, List.cons.injEq, and_true] at h4
            cases z with
            | row l' T' =>
              have h4' : (if l' = l then Z1.row s.nx T' else .row l' T') = .run T0 xs0 := h4
              split at h4' <;> cases h4'
            | run T' xs' => exact congrArg (fun z => [z]) h4
            | _ => cases h4
      subst h5
      show RowIs P W g.F ow'.e (setN g.ω s.nx (g.ω l) id) T0 xs0
      rw [hsame (h.liveLow id ow' h2)]; exact h.r id T0 xs0 ow' h3 h2 hkk

/-- Cells of a node. -/
theorem treeOf_rd {cs : List Z1} {t : PT} (ht : treeOf cs = some t) : ∃ o n x y a b, cs = [.d (.int .i64 o), .d (.int .i64 n), .d x, .d y] ∧ t = .node o n a b ∧ x.raw = a.raw ∧ y.raw = b.raw := by
  have hx : ∀ {x : X} {a : PT}, ptX x = some a → x.raw = a.raw := by
    intro x a q
    cases x <;> cases q <;> rfl
  unfold treeOf at ht
  split at ht
  · rename_i o n x y
    split at ht
    · rename_i a b h1 h2
      cases ht
      exact ⟨o, n, x, y, a, b, rfl, rfl, hx h1, hx h2⟩
    · cases ht
  · cases ht
/-- A variable that is a node, given away as a tree. -/
theorem AI.tree {s : St} {id : Nat} {cs : List Z1} {t : PT} (h : AI P E g s.den a W) (hb : s.den.bx id = some cs) (ht : treeOf cs = some t) :
    ∃ g', AI P E g' (St.den ⟨s.sl.map fun p => (p.1, pubS (treeZ id t) p.2), s.live, pubB (treeZ id t) id false s.bx, s.nx⟩) a W := by
  obtain ⟨o, n, x, y, p, q, rfl, rfl, hx, hy⟩ := treeOf_rd ht
  have hbc : bc s.den.bx id = some [.d (.int .i64 o), .d (.int .i64 n), .d x, .d y] := bc_of hb rfl
  obtain ⟨hbox, hfree⟩ := h.h.box id _ hbc
  obtain ⟨vs, ty, hw, hy4, hr⟩ := hbox.plain rfl
  have h4 : ([.d (.int .i64 o), .d (.int .i64 n), .d x, .d y] : List Z1).length = 4 := rfl
  rw [h4] at hy4 hr
  have hlt : g.ρ id < W.heap.size := (Array.getElem?_eq_some_iff.1 hw).1
  let F' : Nat → Nat → Prop := fun b k => g.F b k ∨ (b = g.ρ id ∧ k < 4)
  have hK : Keeps g.F F' W W := ⟨fun b k q => .inl q, fun _ _ _ => rfl⟩
  have hvs : 4 ≤ vs.toList.length := by simpa using hy4
  have hcell : ∀ (j : Nat) (v : Value), vs.toList[j]? = some v → W.cell? ⟨g.ρ id, j, none⟩ = some v := by
    intro j v hv
    simp only [World.cell?, hw]
    simpa using hv
  have htree : RD W F' (.pointer (some ⟨g.ρ id, 0, none⟩)) (PT.raw (.node o n p q)) := by
    have hd : ∀ (j : Nat) (d : D), ([.int .i64 o, .int .i64 n, p.raw, q.raw] : List D)[j]? = some d → ∃ z : X, ([.d (.int .i64 o), .d (.int .i64 n), .d x, .d y] : List Z1)[j]? = some (.d z) ∧ z.raw = d := by
      intro j d hd
      match j with
      | 0 => cases hd; exact ⟨_, rfl, rfl⟩
      | 1 => cases hd; exact ⟨_, rfl, rfl⟩
      | 2 => cases hd; exact ⟨_, rfl, hx⟩
      | 3 => cases hd; exact ⟨_, rfl, hy⟩
      | j + 4 => cases hd
    have hlen : ∀ (j : Nat) (d : D), ([.int .i64 o, .int .i64 n, p.raw, q.raw] : List D)[j]? = some d → j < 4 := by
      intro j d hd
      exact (List.getElem?_eq_some_iff.1 hd).1
    refine .ref (g.ρ id) 0 _ (fun j => vs.toList.getD j .nilIface) (fun j d hd' => ?_) (fun j d hd' => ?_)
    · have hj := hlen j d hd'
      have hv : vs.toList[j]? = some (vs.toList.getD j .nilIface) := by
        rw [List.getD_eq_getElem?_getD, List.getElem?_eq_getElem (by omega)]; rfl
      rw [Nat.zero_add]
      exact ⟨hcell j _ hv, .inr ⟨rfl, hj⟩⟩
    · have hj := hlen j d hd'
      obtain ⟨z, hz, rfl⟩ := hd j d hd'
      have hv : vs.toList[j]? = some (vs.toList.getD j .nilIface) := by
        rw [List.getD_eq_getElem?_getD, List.getElem?_eq_getElem (by omega)]; rfl
      exact RD.keep hK (hr.2 j _ _ (by rw [List.getElem?_take_of_lt hj]; exact hv) hz)
  generalize PT.node o n p q = t at htree
  have keepC : ∀ {v : Value} {z : Z1}, RC W g v z → RC W ⟨F', g.ρ, g.ω⟩ v z := fun h => RC.keep (g := g) (g' := ⟨F', g.ρ, g.ω⟩) (n := fun _ => True) hK (by cases (‹Z1›) <;> first | trivial | exact fun _ _ => trivial) (fun _ _ => rfl) (fun _ _ => rfl) h
  have pubC : ∀ {v : Value} {z : Z1}, RC W g v z → RC W ⟨F', g.ρ, g.ω⟩ v (treeZ id t z) := by
    intro v z hz
    unfold treeZ
    split
    · split
      · rename_i hh; subst hh
        have hz : v = .pointer (some ⟨g.ρ _, 0, none⟩) := hz
        rw [hz]; exact htree
      · exact keepC hz
    · exact keepC hz
  have pubCs : ∀ {vs : List Value} {cs : List Z1}, RCs W g vs cs → RCs W ⟨F', g.ρ, g.ω⟩ vs (cs.map (treeZ id t)) := by
    intro vs cs hz
    refine ⟨by rw [hz.1, List.length_map], fun j v z h1 h2 => ?_⟩
    rw [List.getElem?_map] at h2
    cases hc : cs[j]? with
    | none => rw [hc] at h2; cases h2
    | some c => rw [hc] at h2; cases h2; exact pubC (hz.2 j v c h1 hc)
  have pubV' : ∀ {v : Value} {z : V1}, RV W g v z → RV W ⟨F', g.ρ, g.ω⟩ v (pubV (treeZ id t) z) := by
    intro v z hz
    cases z with
    | c z => exact pubC hz
    | agg cs => obtain ⟨vs, h1, h2⟩ := hz; exact ⟨vs, h1, pubCs h2⟩
  have lowC : ∀ {n : Nat → Prop} {z : Z1}, z.below n → (treeZ id t z).below n := by
    intro n z hz
    unfold treeZ
    split
    · split
      · trivial
      · exact hz
    · exact hz
  have lowV : ∀ {n : Nat → Prop} {v : V1}, v.below n → (pubV (treeZ id t) v).below n := by
    intro n v hz
    cases v with
    | c z => exact lowC hz
    | agg cs => intro z hm; obtain ⟨y, hy, rfl⟩ := List.mem_map.1 hm; exact lowC (hz y hy)
  have hone : ∀ z : Z1, isRun [treeZ id t z] = isRun [z] := by
    intro z
    unfold treeZ
    split
    · split <;> rfl
    · rfl
  have hrun : ∀ cs : List Z1, isRun (cs.map (treeZ id t)) = isRun cs := by
    intro cs
    cases cs with
    | nil => rfl
    | cons z r =>
      cases r with
      | cons w r => rw [List.map_cons, List.map_cons, isRun_two, isRun_two]
      | nil => exact hone z
  have hne : ∀ id' cs', look (pubB (treeZ id t) id false s.bx) id' = some cs' → id' ≠ id := by
    intro id' cs' h1 e
    subst e
    have : ∀ (l : List (Nat × List Z1)), look (pubB (treeZ id' t) id' false l) id' = none := by
      intro l
      induction l with
      | nil => rfl
      | cons p r ih =>
        unfold pubB at ih ⊢
        by_cases hp : p.1 = id'
        · rw [List.filter_cons, if_neg (by simp [hp])]; exact ih
        · rw [List.filter_cons, if_pos (by simp [hp]), List.map_cons]
          show (if p.1 = id' then _ else _) = none
          rw [if_neg hp]; exact ih
    rw [this] at h1; cases h1
  have hbx : ∀ id' cs, bc (look (pubB (treeZ id t) id false s.bx)) id' = some cs → ∃ cs0, bc s.den.bx id' = some cs0 ∧ cs = cs0.map (treeZ id t) ∧ id' ≠ id := by
    intro id' cs hid
    obtain ⟨h1, h2⟩ := bc_some hid
    obtain ⟨c0, h3, rfl⟩ := look_pubB _ _ _ _ _ _ h1
    exact ⟨c0, bc_of h3 (by rw [← hrun]; exact h2), rfl, hne _ _ h1⟩
  refine ⟨⟨F', g.ρ, g.ω⟩, {
    defers := h.defers
    tsz := h.tsz
    slots := fun t' z hz => ?_
    low := fun t' z hz => ?_
    liveLow := h.liveLow
    boxLow := fun id' cs hid => by
      obtain ⟨c0, h3, rfl⟩ := look_pubB _ _ _ _ _ _ (hid : look (pubB (treeZ id t) id false s.bx) id' = some cs)
      obtain ⟨q1, q2⟩ := h.boxLow id' c0 h3
      exact ⟨q1, fun z hz => by obtain ⟨y, hy, rfl⟩ := List.mem_map.1 hz; exact lowC (q2 y hy)⟩
    pkLow := h.pkLow
    pin := h.pin
    b := {
      fz := fun b o q => by
        rcases q with q | ⟨rfl, _⟩
        · exact h.b.fz b o q
        · exact hlt
      os := h.b.os, tape := h.b.tape, output := h.b.output, size := h.b.size, block := h.b.block
      keeps := h.b.keeps.trans hK
      fmay := fun b o q => by
        rcases q with q | ⟨rfl, _⟩
        · exact h.b.fmay b o q
        · exact .inr (h.h.boxMay id _ hbc) }
    h := {
      own := fun l' ow' h2 => by
        rcases h.h.own l' ow' h2 with ⟨p1, p2⟩ | ⟨g0, n, cap, cur, fr, p1, p2, p3, p4, p5, p6, p7, p8, p9⟩
        · exact .inl ⟨p1, p2⟩
        · have hg0 : ∀ o, F' g0 o → g.F g0 o := fun o q => by
            rcases q with q | ⟨e, _⟩
            · exact q
            · exact absurd (by rw [p1, e]; rfl) (h.h.boxOwn id _ l' ow' hbc h2)
          exact .inr ⟨g0, n, cap, cur, fr, p1, p2, p3, p4, p5, fun o q => p6 o (hg0 o q), p7, p8, fun hk => ⟨(p9 hk).1, fun o q => (p9 hk).2 o (hg0 o q)⟩⟩
      ownNe := h.h.ownNe
      ownMay := h.h.ownMay
      box := fun id' cs hid => by
        obtain ⟨c0, h3, rfl, hne'⟩ := hbx id' cs hid
        obtain ⟨p1, p3⟩ := h.h.box id' c0 h3
        refine ⟨?_, fun o q => ?_⟩
        · rcases p1 with ⟨vs, ty, h1, hy, h2⟩ | ⟨k, k', l0, es, cl, h1, h2, h4⟩ | ⟨k, l0, h1, h2, h4⟩
          · exact .inl ⟨vs, ty, h1, by simpa using hy, by rw [List.length_map]; exact pubCs h2⟩
          · subst h1; exact .inr (.inl ⟨k, k', l0, es, cl, rfl, h2, h4⟩)
          · subst h1; cases k <;> first | exact .inr (.inr ⟨_, l0, rfl, h2, h4⟩) | cases h4
        · rcases q with q | ⟨e, _⟩
          · exact p3 o q
          · exact h.h.boxNe id' id c0 _ h3 hbc hne' e
      boxNe := fun i1 i2 cs cs' h1 h2 => by
        obtain ⟨c1, q1, _⟩ := hbx i1 cs h1
        obtain ⟨c2, q2, _⟩ := hbx i2 cs' h2
        exact h.h.boxNe i1 i2 c1 c2 q1 q2
      boxMay := fun id' cs h1 => by obtain ⟨c1, q1, _⟩ := hbx id' cs h1; exact h.h.boxMay id' c1 q1
      boxOwn := fun id' cs l1 e1 h1 h2 => by
        obtain ⟨c1, q1, _⟩ := hbx id' cs h1
        exact h.h.boxOwn id' c1 l1 e1 q1 h2 }
    r := fun id' T0 xs0 ow' hid h1 hk => ?_ }⟩
  · have hz' : look (s.sl.map fun p => (p.1, pubS (treeZ id t) p.2)) t' = some z := hz
    rw [look_maps] at hz'
    cases hs : look s.sl t' with
    | none => rw [hs] at hz'; cases hz'
    | some z0 =>
      rw [hs] at hz'; cases hz'
      obtain ⟨v, q1, q2⟩ := h.slots t' z0 hs
      refine ⟨v, q1, ?_⟩
      cases z0 with
      | one x => exact pubV' q2
      | no => exact q2
      | tup vs =>
        obtain ⟨us, p1, p2, p3⟩ := q2
        refine ⟨us, p1, by rw [p2, List.length_map], fun j u x h1 h2 => ?_⟩
        rw [List.getElem?_map] at h2
        cases hc : vs[j]? with
        | none => rw [hc] at h2; cases h2
        | some c => rw [hc] at h2; cases h2; exact pubV' (p3 j u c h1 hc)
  · have hz' : look (s.sl.map fun p => (p.1, pubS (treeZ id t) p.2)) t' = some z := hz
    rw [look_maps] at hz'
    cases hs : look s.sl t' with
    | none => rw [hs] at hz'; cases hz'
    | some z0 =>
      rw [hs] at hz'; cases hz'
      have q := h.low t' z0 hs
      cases z0 with
      | one x => exact lowV q
      | no => exact q
      | tup vs => intro v hm; obtain ⟨y, hy, rfl⟩ := List.mem_map.1 hm; exact lowV (q y hy)
  · obtain ⟨c0, h3, h4⟩ := look_pubB _ _ _ _ _ _ (hid : look (pubB (treeZ id t) id false s.bx) id' = some [.run T0 xs0])
    have h5 : c0 = [.run T0 xs0] := by
      cases c0 with
      | nil => cases h4
      | cons z r =>
        cases r with
        | cons w r => simp at h4
        | nil =>
          have h4 := h4.symm
          simp only [List.map_cons, List.map_nil, List.cons.injEq, and_true] at h4
          unfold treeZ at h4
          split at h4
          · split at h4 <;> cases h4
          · rw [h4]
    subst h5
    exact RowIs.keep (h.r id' T0 xs0 ow' h3 h1 hk) hK (fun _ _ => rfl)

theorem AI.co {c : Co} {s s' : St} (h : AI P E g s.den a W) (hc : coSt c s = some s') : ∃ g', AI P E g' s'.den a W := by
  have hnx : ∀ {k : Nat}, s.den.us k → k ≠ s.nx := fun {k} hk e => by have : k < s.nx := hk; omega
  have mono : ∀ k, s.den.us k → k < s.nx + 1 := fun k hk => by have : k < s.nx := hk; omega
  have keepZ : ∀ {v : Value} {z : Z}, z.below s.den.us → RZ W g v z → RZ W ⟨g.F, g.ρ, setN g.ω s.nx (.slice none 0 0)⟩ v z := fun hb h =>
    RZ.keep (g := g) (g' := ⟨g.F, g.ρ, setN g.ω s.nx (.slice none 0 0)⟩) (Keeps.refl _ _) hb (fun _ _ => rfl) (fun l hl => setN_ne _ _ (hnx hl)) h
  have hsame : ∀ {k : Nat}, s.den.us k → setN g.ω s.nx (.slice none 0 0) k = g.ω k := fun hk => setN_ne _ _ (hnx hk)
  have hplain : ∀ {own : Bool} {T : K} {j : Nat} {cs cs' : List Z1}, atL (coZ s.nx T own) j cs = some cs' → isRun cs = false ∧ isRun cs' = false ∧ plainB cs = true := by
    intro own T j cs cs' h
    cases cs with
    | nil => cases j <;> cases h
    | cons z r =>
      cases r with
      | cons w r =>
        refine ⟨isRun_two _ _ _, ?_, by cases z <;> rfl⟩
        cases j with
        | zero => obtain ⟨z', _, rfl⟩ := omap h; exact isRun_two _ _ _
        | succ j =>
          obtain ⟨r', h1, rfl⟩ := omap h
          cases j with
          | zero => obtain ⟨z', _, rfl⟩ := omap h1; exact isRun_two _ _ _
          | succ j => obtain ⟨r'', _, rfl⟩ := omap h1; exact isRun_two _ _ _
      | nil =>
        cases j with
        | succ j => obtain ⟨r', h1, _⟩ := omap h; cases j <;> cases h1
        | zero =>
          obtain ⟨z', h1, rfl⟩ := omap h
          unfold coZ at h1
          split at h1
          · cases h1; cases own <;> exact ⟨rfl, rfl, rfl⟩
          · cases h1
  -- the live rows, one more
  have liveC : ∀ (e : Option TypeId) (l : Nat) (ow : Ow), lvOf (coLive s.nx s.live e) l = some ow → (s.den.live l = some ow) ∨ (l = s.nx ∧ ow.k = 0) := by
    intro e l ow hl
    cases e with
    | none => exact .inl hl
    | some e =>
      simp only [coLive, lvOf_cons] at hl
      split at hl
      · rename_i hh; cases hl; exact .inr ⟨hh.symm, rfl⟩
      · exact .inl hl
  have hi : ∀ (e : Option TypeId) (bx0 : Nat → Option (List Z1)), (∀ id cs, bx0 id = some cs → ∃ cs0, s.den.bx id = some cs0 ∧ isRun cs = isRun cs0 ∧ ∀ b : Nat, BoxIs W g b cs0 → BoxIs W ⟨g.F, g.ρ, setN g.ω s.nx (.slice none 0 0)⟩ b cs) →
      HI P E ⟨g.F, g.ρ, setN g.ω s.nx (.slice none 0 0)⟩ (lvOf (coLive s.nx s.live e)) (bc bx0) W := fun e bx0 hbx0 => by
    have hbx : ∀ id cs, bc bx0 id = some cs → ∃ cs0, bc s.den.bx id = some cs0 ∧ ∀ b : Nat, BoxIs W g b cs0 → BoxIs W ⟨g.F, g.ρ, setN g.ω s.nx (.slice none 0 0)⟩ b cs := fun id cs hid => by
      obtain ⟨hid, hn⟩ := bc_some hid
      obtain ⟨cs0, q1, q2, q3⟩ := hbx0 id cs hid
      exact ⟨cs0, bc_of q1 (by rw [← q2]; exact hn), q3⟩
    exact {
    own := fun l ow hl => by
      rcases liveC e l ow hl with hl | ⟨rfl, hk⟩
      · show OwnV P W g.F (setN g.ω s.nx _ l) ow
        rw [hsame (h.liveLow l ow hl)]; exact h.h.own l ow hl
      · exact .inl ⟨setN_same _ _ _, by rw [hk]; decide⟩
    ownNe := fun l e1 l' e2 hl hl' hne b hb1 hb2 => by
      rcases liveC e l e1 hl with hl | ⟨rfl, hk⟩
      · rcases liveC e l' e2 hl' with hl' | ⟨rfl, hk⟩
        · have hb1 : (setN g.ω s.nx _ l).ownBlock = some b := hb1
          have hb2 : (setN g.ω s.nx _ l').ownBlock = some b := hb2
          rw [hsame (h.liveLow l e1 hl)] at hb1; rw [hsame (h.liveLow l' e2 hl')] at hb2
          exact h.h.ownNe l e1 l' e2 hl hl' hne b hb1 hb2
        · have hb2 : (setN g.ω s.nx (.slice none 0 0) s.nx).ownBlock = some b := hb2
          rw [setN_same] at hb2; cases hb2
      · have hb1 : (setN g.ω s.nx (.slice none 0 0) s.nx).ownBlock = some b := hb1
        rw [setN_same] at hb1; cases hb1
    ownMay := fun l e1 hl b hb1 => by
      rcases liveC e l e1 hl with hl | ⟨rfl, hk⟩
      · have hb1 : (setN g.ω s.nx _ l).ownBlock = some b := hb1
        rw [hsame (h.liveLow l e1 hl)] at hb1
        exact h.h.ownMay l e1 hl b hb1
      · have hb1 : (setN g.ω s.nx (.slice none 0 0) s.nx).ownBlock = some b := hb1
        rw [setN_same] at hb1; cases hb1
    box := fun id cs hid => by
      obtain ⟨cs0, q1, q2⟩ := hbx id cs hid
      obtain ⟨p1, p3⟩ := h.h.box id cs0 q1
      exact ⟨q2 _ p1, p3⟩
    boxNe := fun id id' cs cs' h1 h2 => by
      obtain ⟨c1, q1, _⟩ := hbx id cs h1
      obtain ⟨c2, q2, _⟩ := hbx id' cs' h2
      exact h.h.boxNe id id' c1 c2 q1 q2
    boxMay := fun id cs h1 => by
      obtain ⟨c1, q1, _⟩ := hbx id cs h1
      exact h.h.boxMay id c1 q1
    boxOwn := fun id cs l e1 h1 hl hc2 => by
      obtain ⟨c1, q1, _⟩ := hbx id cs h1
      rcases liveC e l e1 hl with hl | ⟨rfl, hk⟩
      · have hc2 : (setN g.ω s.nx _ l).ownBlock = some (g.ρ id) := hc2
        rw [hsame (h.liveLow l e1 hl)] at hc2
        exact h.h.boxOwn id c1 l e1 q1 hl hc2
      · have hc2 : (setN g.ω s.nx (.slice none 0 0) s.nx).ownBlock = some (g.ρ id) := hc2
        rw [setN_same] at hc2; cases hc2 }
  have keepCs : ∀ {cs : List Z1}, (∀ z ∈ cs, z.below s.den.us) → ∀ vs : List Value, RCs W g vs cs → RCs W ⟨g.F, g.ρ, setN g.ω s.nx (.slice none 0 0)⟩ vs cs := fun hb vs h =>
    RCs.keep (g := g) (g' := ⟨g.F, g.ρ, setN g.ω s.nx (.slice none 0 0)⟩) (Keeps.refl _ _) hb (fun _ _ => rfl) (fun l hl => hsame hl) h
  have keepB : ∀ {cs : List Z1}, (∀ z ∈ cs, z.below s.den.us) → ∀ b : Nat, BoxIs W g b cs → BoxIs W ⟨g.F, g.ρ, setN g.ω s.nx (.slice none 0 0)⟩ b cs := fun hb b h => by
    rcases h with ⟨vs, ty, h1, hy, h2⟩ | ⟨k, k', l, es, cl, h1, h2, h3⟩ | ⟨k, l, h1, h2, h3⟩
    · exact .inl ⟨vs, ty, h1, hy, keepCs hb _ h2⟩
    · exact .inr (.inl ⟨k, k', l, es, cl, h1, h2, h3⟩)
    · exact .inr (.inr ⟨k, l, h1, h2, h3⟩)
  have hrow : ∀ (e : Option TypeId) (bx0 : Nat → Option (List Z1)), (∀ id T xs, bx0 id = some [.run T xs] → s.den.bx id = some [.run T xs]) → HR P ⟨g.F, g.ρ, setN g.ω s.nx (.slice none 0 0)⟩ (lvOf (coLive s.nx s.live e)) bx0 W := fun e bx0 hbx0 id T xs ow hid hl hk => by
    have hid := hbx0 id T xs hid
    rcases liveC e id ow hl with hl | ⟨_, hk0⟩
    · show RowIs P W g.F ow.e (setN g.ω s.nx _ id) T xs
      rw [hsame (h.liveLow id ow hl)]; exact h.r id T xs ow hid hl hk
    · rw [hk0] at hk; cases hk
  have pin : ∀ j, j < E.pk → g.ρ j = E.ρ0 j ∧ setN g.ω s.nx (.slice none 0 0) j = E.ω0 j := fun j hj => by
    rw [hsame (h.pkLow j hj)]; exact h.pin j hj
  have low : ∀ (e : Option TypeId) (l : Nat) (ow : Ow), lvOf (coLive s.nx s.live e) l = some ow → l < s.nx + 1 := fun e l ow hl => by
    rcases liveC e l ow hl with hl | ⟨rfl, _⟩
    · exact mono l (h.liveLow l ow hl)
    · omega
  unfold coSt at hc
  split at hc
  · rename_i t j T e
    obtain ⟨cs, hb, hc⟩ := obind hc
    obtain ⟨cs', hat, rfl⟩ := omap hc
    have hbl := h.boxLow t cs hb
    exact ⟨⟨g.F, g.ρ, setN g.ω s.nx (.slice none 0 0)⟩, {
      defers := h.defers
      tsz := h.tsz
      slots := fun u z hz => by obtain ⟨v, q1, q2⟩ := h.slots u z hz; exact ⟨v, q1, keepZ (h.low u z hz) q2⟩
      low := fun u z hz => Z.below_mono mono (h.low u z hz)
      liveLow := low e
      boxLow := fun id c hid => by
        have hid' : (if t = id then some cs' else look s.bx id) = some c := hid
        by_cases hh : t = id
        · rw [if_pos hh] at hid'; subst hh; cases hid'
          obtain ⟨vs, _, _, _, hr⟩ := (h.h.box t cs (bc_of hb (hplain hat).1)).1.plain (hplain hat).2.2
          exact ⟨mono t hbl.1, (atL_rcs hr hbl.2 hat).2⟩
        · rw [if_neg hh] at hid'
          obtain ⟨q1, q2⟩ := h.boxLow id c hid'
          exact ⟨mono id q1, fun z hz => Z1.below_mono mono (q2 z hz)⟩
      pkLow := fun j hj => mono j (h.pkLow j hj)
      pin := pin
      b := h.b
      h := hi e _ (fun id c hid => by
        have hid' : (if t = id then some cs' else look s.bx id) = some c := hid
        by_cases hh : t = id
        · rw [if_pos hh] at hid'; subst hh; cases hid'
          refine ⟨cs, hb, by rw [(hplain hat).1, (hplain hat).2.1], fun b hbi => ?_⟩
          obtain ⟨vs, ty, p1, py, p2⟩ := hbi.plain (hplain hat).2.2
          have p3 := (atL_rcs p2 hbl.2 hat).1
          have hcl : cs'.length = cs.length := by have a := p3.1; have b := p2.1; omega
          exact .inl ⟨vs, ty, p1, by omega, by rw [hcl]; exact p3⟩
        · rw [if_neg hh] at hid'
          exact ⟨c, hid', rfl, keepB (h.boxLow id c hid').2⟩)
      r := hrow e _ (fun id T xs hid => by
        have hid' : (if t = id then some cs' else look s.bx id) = some [.run T xs] := hid
        by_cases hh : t = id
        · rw [if_pos hh] at hid'; cases hid'
          have := (hplain hat).2.1; cases this
        · rw [if_neg hh] at hid'; exact hid') }⟩
  · rename_i t j T e
    split at hc
    · rename_i v hv
      obtain ⟨v', hat, rfl⟩ := omap hc
      have hvl : v.below s.den.us := h.low t (.one v) hv
      exact ⟨⟨g.F, g.ρ, setN g.ω s.nx (.slice none 0 0)⟩, {
        defers := h.defers
        tsz := h.tsz
        slots := fun u z hz => by
          have hz' : (if t = u then some (Z.one v') else look s.sl u) = some z := hz
          by_cases hh : t = u
          · rw [if_pos hh] at hz'; subst hh; cases hz'
            obtain ⟨x, q1, q2⟩ := h.slots t _ hv
            exact ⟨x, q1, (coV_rv q2 hvl hat).1⟩
          · rw [if_neg hh] at hz'
            obtain ⟨x, q1, q2⟩ := h.slots u z hz'; exact ⟨x, q1, keepZ (h.low u z hz') q2⟩
        low := fun u z hz => by
          have hz' : (if t = u then some (Z.one v') else look s.sl u) = some z := hz
          by_cases hh : t = u
          · rw [if_pos hh] at hz'; subst hh; cases hz'
            obtain ⟨x, q1, q2⟩ := h.slots t _ hv
            exact (coV_rv q2 hvl hat).2
          · rw [if_neg hh] at hz'; exact Z.below_mono mono (h.low u z hz')
        liveLow := low e
        boxLow := fun id c hid => by
          obtain ⟨q1, q2⟩ := h.boxLow id c hid
          exact ⟨mono id q1, fun z hz => Z1.below_mono mono (q2 z hz)⟩
        pkLow := fun j hj => mono j (h.pkLow j hj)
        pin := pin
        b := h.b
        h := hi e _ (fun id c hid => ⟨c, hid, rfl, keepB (h.boxLow id c hid).2⟩)
        r := hrow e _ (fun _ _ _ hid => hid) }⟩
    · cases hc
  · rename_i l
    split at hc
    · rename_i ow hl
      cases hc
      have hlv : ∀ l' ow', lvOf ((l, some ⟨ow.e, 0⟩) :: s.live) l' = some ow' → ∃ ow0, s.den.live l' = some ow0 ∧ ow0.e = ow'.e ∧ (ow'.k ≠ 0 → ow0 = ow') := by
        intro l' ow' h1
        rw [lvOf_cons] at h1
        split at h1
        · rename_i hh; subst hh; cases h1; exact ⟨ow, hl, rfl, fun hk => absurd rfl hk⟩
        · exact ⟨ow', h1, rfl, fun _ => rfl⟩
      exact ⟨g, {
        defers := h.defers, tsz := h.tsz, slots := h.slots, low := h.low, boxLow := h.boxLow, pkLow := h.pkLow, pin := h.pin, b := h.b
        liveLow := fun l' ow' h1 => by obtain ⟨ow0, q1, _⟩ := hlv l' ow' h1; exact h.liveLow l' ow0 q1
        h := {
          own := fun l' ow' h1 => by
            obtain ⟨ow0, q1, q2, q3⟩ := hlv l' ow' h1
            rcases h.h.own l' ow0 q1 with ⟨p1, p2⟩ | ⟨g0, n, cap, cur, fr, p1, p2, p3, p4, p5, p6, p7, p8, p9⟩
            · refine .inl ⟨p1, ?_⟩
              by_cases hk : ow'.k = 0
              · rw [hk]; decide
              · rw [← q3 hk]; exact p2
            · refine .inr ⟨g0, n, cap, cur, fr, p1, by rw [← q2]; exact p2, p3, p4, by rw [← q2]; exact p5, by rw [← q2]; exact p6, fun hk => p7 (by rw [q3 (by rw [hk]; decide)]; exact hk), p8, fun hk => p9 (by rw [q3 (by rw [hk]; decide)]; exact hk)⟩
          ownNe := fun l1 e1 l2 e2 h1 h2 => by
            obtain ⟨o1, q1, _⟩ := hlv l1 e1 h1
            obtain ⟨o2, q2, _⟩ := hlv l2 e2 h2
            exact h.h.ownNe l1 o1 l2 o2 q1 q2
          ownMay := fun l1 e1 h1 => by obtain ⟨o1, q1, _⟩ := hlv l1 e1 h1; exact h.h.ownMay l1 o1 q1
          box := h.h.box, boxNe := h.h.boxNe, boxMay := h.h.boxMay
          boxOwn := fun id cs l1 e1 h1 h2 => by obtain ⟨o1, q1, _⟩ := hlv l1 e1 h2; exact h.h.boxOwn id cs l1 o1 h1 q1 }
        r := fun id T xs e1 h1 h2 hk => by
          obtain ⟨o1, q1, q2, q3⟩ := hlv id e1 h2
          have := q3 (by rw [hk]; decide)
          subst this
          exact h.r id T xs o1 h1 q1 hk }⟩
    · cases hc
  · rename_i l t j
    split at hc
    · rename_i ow v hl hv
      obtain ⟨v', hat, rfl⟩ := omap hc
      have hll : l < s.nx := h.liveLow l ow hl
      have hvl : v.below s.den.us := h.low t (.one v) hv
      have hsame2 : ∀ {k : Nat}, s.den.us k → setN g.ω s.nx (g.ω l) k = g.ω k := fun hk => setN_ne _ _ (hnx hk)
      have keepZ2 : ∀ {v : Value} {z : Z}, z.below s.den.us → RZ W g v z → RZ W ⟨g.F, g.ρ, setN g.ω s.nx (g.ω l)⟩ v z := fun hb h =>
        RZ.keep (g := g) (g' := ⟨g.F, g.ρ, setN g.ω s.nx (g.ω l)⟩) (Keeps.refl _ _) hb (fun _ _ => rfl) (fun l hl => hsame2 hl) h
      have lv : ∀ k ow', lvOf ((s.nx, some ow) :: (l, none) :: s.live) k = some ow' → (k = s.nx ∧ ow' = ow) ∨ (k ≠ l ∧ s.den.live k = some ow') := by
        intro k ow' hk
        rw [lvOf_cons, lvOf_cons] at hk
        split at hk
        · rename_i hh; cases hk; exact .inl ⟨hh.symm, rfl⟩
        · split at hk
          · cases hk
          · rename_i hh; exact .inr ⟨fun e => hh e.symm, hk⟩
      -- a label's value, as it was
      have val : ∀ k ow', lvOf ((s.nx, some ow) :: (l, none) :: s.live) k = some ow' → ∃ k0, s.den.live k0 = some ow' ∧ setN g.ω s.nx (g.ω l) k = g.ω k0 ∧ (k = s.nx ↔ k0 = l) ∧ (k ≠ s.nx → k0 = k) := by
        intro k ow' hk
        rcases lv k ow' hk with ⟨rfl, rfl⟩ | ⟨h1, h2⟩
        · exact ⟨l, hl, setN_same _ _ _, by simp, fun q => absurd rfl q⟩
        · have := hnx (h.liveLow k ow' h2)
          exact ⟨k, h2, hsame2 (h.liveLow k ow' h2), by simp [this, h1], fun _ => rfl⟩
      exact ⟨⟨g.F, g.ρ, setN g.ω s.nx (g.ω l)⟩, {
        defers := h.defers
        tsz := h.tsz
        slots := fun u z hz => by
          have hz' : (if t = u then some (Z.one v') else look s.sl u) = some z := hz
          by_cases hh : t = u
          · rw [if_pos hh] at hz'; subst hh; cases hz'
            obtain ⟨x, q1, q2⟩ := h.slots t _ hv
            exact ⟨x, q1, (coV_mv hll q2 hvl hat).1⟩
          · rw [if_neg hh] at hz'
            obtain ⟨x, q1, q2⟩ := h.slots u z hz'; exact ⟨x, q1, keepZ2 (h.low u z hz') q2⟩
        low := fun u z hz => by
          have hz' : (if t = u then some (Z.one v') else look s.sl u) = some z := hz
          by_cases hh : t = u
          · rw [if_pos hh] at hz'; subst hh; cases hz'
            obtain ⟨x, q1, q2⟩ := h.slots t _ hv
            exact (coV_mv hll q2 hvl hat).2
          · rw [if_neg hh] at hz'; exact Z.below_mono mono (h.low u z hz')
        liveLow := fun k ow' hk => by
          rcases lv k ow' hk with ⟨rfl, _⟩ | ⟨_, h2⟩
          · exact Nat.lt_succ_self s.nx
          · exact mono k (h.liveLow k ow' h2)
        boxLow := fun id c hid => by
          obtain ⟨q1, q2⟩ := h.boxLow id c hid
          exact ⟨mono id q1, fun z hz => Z1.below_mono mono (q2 z hz)⟩
        pkLow := fun j hj => mono j (h.pkLow j hj)
        pin := fun j hj => by
          show g.ρ j = E.ρ0 j ∧ setN g.ω s.nx (g.ω l) j = E.ω0 j
          rw [hsame2 (h.pkLow j hj)]; exact h.pin j hj
        b := h.b
        h := {
          own := fun k ow' hk => by
            obtain ⟨k0, q1, q2, _⟩ := val k ow' hk
            show OwnV P W g.F (setN g.ω s.nx (g.ω l) k) ow'
            rw [q2]; exact h.h.own k0 ow' q1
          ownNe := fun k e k' e' hk hk' hne b hb1 hb2 => by
            obtain ⟨k0, q1, q2, q3, q4⟩ := val k e hk
            obtain ⟨k1, p1, p2, p3, p4⟩ := val k' e' hk'
            have hb1 : (setN g.ω s.nx (g.ω l) k).ownBlock = some b := hb1
            have hb2 : (setN g.ω s.nx (g.ω l) k').ownBlock = some b := hb2
            rw [q2] at hb1; rw [p2] at hb2
            refine h.h.ownNe k0 e k1 e' q1 p1 (fun q => hne ?_) b hb1 hb2
            by_cases h1 : k = s.nx
            · have := q3.1 h1; rw [h1]; exact (p3.2 (by rw [← q]; exact this)).symm
            · by_cases h2 : k' = s.nx
              · have := p3.1 h2; exact absurd (q3.2 (by rw [q]; exact this)) h1
              · rw [← q4 h1, ← p4 h2]; exact q
          ownMay := fun k ow' hk b hb1 => by
            obtain ⟨k0, q1, q2, _⟩ := val k ow' hk
            have hb1 : (setN g.ω s.nx (g.ω l) k).ownBlock = some b := hb1
            rw [q2] at hb1; exact h.h.ownMay k0 ow' q1 b hb1
          box := fun id c hid => by
            obtain ⟨p1, p3⟩ := h.h.box id c hid
            refine ⟨?_, p3⟩
            rcases p1 with ⟨vs, ty, h1, hy, h2⟩ | ⟨k, k', l, es, cl, h1, h2, h3⟩ | ⟨k, l, h1, h2, h3⟩
            · exact .inl ⟨vs, ty, h1, hy, RCs.keep (g := g) (g' := ⟨g.F, g.ρ, setN g.ω s.nx (g.ω l)⟩) (Keeps.refl _ _) (h.boxLow id c (bc_some hid).1).2 (fun _ _ => rfl) (fun l hl => hsame2 hl) h2⟩
            · exact .inr (.inl ⟨k, k', l, es, cl, h1, h2, h3⟩)
            · exact .inr (.inr ⟨k, l, h1, h2, h3⟩)
          boxNe := h.h.boxNe, boxMay := h.h.boxMay
          boxOwn := fun id c k ow' hid hk hc2 => by
            obtain ⟨k0, q1, q2, _⟩ := val k ow' hk
            have hc2 : (setN g.ω s.nx (g.ω l) k).ownBlock = some (g.ρ id) := hc2
            rw [q2] at hc2; exact h.h.boxOwn id c k0 ow' hid q1 hc2 }
        r := fun id T xs ow' hid hk hk2 => by
          have hu := (h.boxLow id _ hid).1
          rcases lv id ow' hk with ⟨rfl, _⟩ | ⟨_, h2⟩
          · exact absurd rfl (hnx hu)
          · show RowIs P W g.F ow'.e (setN g.ω s.nx (g.ω l) id) T xs
            rw [hsame2 hu]; exact h.r id T xs ow' hid h2 hk2 }⟩
    · cases hc
  · rename_i l keep
    split at hc
    · rename_i ow T xs hl hb
      split at hc
      · rename_i hk
        cases hc
        have hl' : s.den.live l = some ⟨ow.e, 2⟩ := by rw [show s.den.live l = some ow from hl]; cases ow; cases hk; rfl
        exact h.pub hl' hb
      · cases hc
    · cases hc
  · rename_i t j T e
    split at hc
    · rename_i v hv
      obtain ⟨v', hat, rfl⟩ := omap hc
      exact h.nilrow hv hat
    · cases hc
  · rename_i l
    split at hc
    · rename_i ow T xs hl hb
      split at hc
      · rename_i hk
        cases hc
        exact h.mvrow hl hb hk
      · cases hc
    · cases hc
  · rename_i l
    cases hc
    have hlv : ∀ k ow', lvOf ((l, none) :: s.live) k = some ow' → s.den.live k = some ow' := by
      intro k ow' h1
      rw [lvOf_cons] at h1
      split at h1
      · cases h1
      · exact h1
    exact ⟨g, {
      defers := h.defers, tsz := h.tsz, slots := h.slots, low := h.low, boxLow := h.boxLow, pkLow := h.pkLow, pin := h.pin, b := h.b
      liveLow := fun k ow' h1 => h.liveLow k ow' (hlv k ow' h1)
      h := {
        own := fun k ow' h1 => h.h.own k ow' (hlv k ow' h1)
        ownNe := fun l1 e1 l2 e2 h1 h2 => h.h.ownNe l1 e1 l2 e2 (hlv _ _ h1) (hlv _ _ h2)
        ownMay := fun l1 e1 h1 => h.h.ownMay l1 e1 (hlv _ _ h1)
        box := h.h.box, boxNe := h.h.boxNe, boxMay := h.h.boxMay
        boxOwn := fun id cs l1 e1 h1 h2 => h.h.boxOwn id cs l1 e1 h1 (hlv _ _ h2) }
      r := fun id T xs e1 h1 h2 hk => h.r id T xs e1 h1 (hlv _ _ h2) hk }⟩
  · rename_i id
    obtain ⟨cs, hb, hc⟩ := obind hc
    obtain ⟨t, ht, rfl⟩ := omap hc
    exact h.tree hb ht
  · rename_i t
    split at hc
    · rename_i hs
      cases hc
      obtain ⟨v, q1, q2⟩ := h.slots t _ hs
      refine ⟨g, {
        defers := h.defers, tsz := h.tsz, liveLow := h.liveLow, boxLow := h.boxLow, pkLow := h.pkLow, pin := h.pin, b := h.b, h := h.h, r := h.r
        slots := fun t' z hz => ?_
        low := fun t' z hz => ?_ }⟩
      · have hz : look ((t, Z.one (.c (.d (.pt .nil)))) :: s.sl) t' = some z := hz
        simp only [look] at hz
        by_cases e : t = t'
        · subst e
          rw [if_pos rfl] at hz
          cases hz
          exact ⟨v, q1, q2⟩
        · rw [if_neg e] at hz
          exact h.slots t' z hz
      · have hz : look ((t, Z.one (.c (.d (.pt .nil)))) :: s.sl) t' = some z := hz
        simp only [look] at hz
        by_cases e : t = t'
        · rw [if_pos e] at hz
          cases hz; trivial
        · rw [if_neg e] at hz
          exact h.low t' z hz
    · cases hc

theorem AI.coAll {s' : St} : ∀ {cs : List Co} {s : St} {g : G}, AI P E g s.den a W → Zed.coAll cs s = some s' → ∃ g', AI P E g' s'.den a W
  | [], s, g, h, hc => by cases hc; exact ⟨g, h⟩
  | c :: r, s, g, h, hc => by
    obtain ⟨s1, h1, h2⟩ := obind hc
    obtain ⟨g1, h3⟩ := h.co h1
    exact AI.coAll h3 h2
end
end Zed
