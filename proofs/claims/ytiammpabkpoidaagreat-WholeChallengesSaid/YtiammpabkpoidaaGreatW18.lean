/- Texts ZedEc, ZedEd of our own machine for the walk of WholeChallenges, one behind the other. -/
import Derived.Test.YtiammpabkpoidaaGreatW17
namespace Zed
open Go
set_option linter.unusedVariables false
set_option linter.unusedSimpArgs false

noncomputable def EvOK (P : Program) (ev : EvT) : Prop := EvFr ev ∧ ∀ f vs hp acc z hp' acc', ev f vs hp acc = some (z, hp', acc') → AllC acc' → AllC acc ∧ FnW P f vs hp.L hp.B hp.nx z hp'.L hp'.B hp'.nx

theorem decK_spec {β : Type} {col : Bool} {C : Option CP} {acc : List Prop} {k : List Prop → Option β} {b : β} (h : decK col C acc k = some b) : ∃ acc', k acc' = some b ∧ (AllC acc' → AllC acc ∧ holds C) := by
  unfold decK at h
  split at h
  · exact ⟨acc, h, fun q => ⟨q, trivial⟩⟩
  · rename_i c
    split at h
    · exact ⟨_, h, fun q => ⟨q.2, q.1⟩⟩
    · split at h
      · rename_i hp _; exact ⟨acc, h, fun q => ⟨q, hp⟩⟩
      · cases h
theorem Es.goV_spec {β : Type} {str : Bool} {s : Es} {dst : Option Nat} {z : Z} {c : Es → Option β} {b : β} (h : s.goV str dst z c = some b) : ∃ s', c s' = some b ∧ s'.den = s.den.go dst z Eff.no (used s.den.us s.h.nx 1) ∧ s'.h.nx = s.h.nx + 1 := by
  unfold Es.goV at h
  obtain ⟨sl, h1, q1⟩ := setS_spec h
  rw [forceN_eq] at h1
  refine ⟨_, h1, ?_, rfl⟩
  simp only [Es.den, S.go, S.mk.injEq]
  refine ⟨q1, ?_, ?_, ?_⟩
  · funext k
    show Hp.L s.h k = Eff.no.lv (Hp.L s.h) k
    simp [Eff.lv, Eff.no, look]
  · funext k
    show Hp.B s.h k = Eff.no.bv (Hp.B s.h) k
    simp [Eff.bv, Eff.no, look]
  · funext k
    simp only [used, eq_iff_iff, Nat.succ_eq_add_one]
    omega
theorem firstOp_spec {P : Program} {tab : Tab} {base : Nat} {s : S} {op : Op} : ∀ {l : List (Option Ch)} {st : Stp} {n : Nat} {ch : Option Ch}, firstOp P tab base s op l = some (st, n, ch) → opZ P tab base ch s op = some (st, n)
  | [], _, _, _, h => by cases h
  | c :: r, st, n, ch, h => by
    simp only [firstOp] at h
    split at h
    · rename_i st' n' hz; cases h; exact hz
    · exact firstOp_spec h
theorem calleeE_spec {ev : Operand → Option V1} {op : Op} {f : FuncId} {args : List Operand} {ps : List (Nat × Nat)} (h : calleeE ev op = some (f, args, ps)) : ∃ fv as ats, op = .call ⟨.value fv, as, ats⟩ ∧ as.toList = args ∧ ev fv = some (.c (.fn f ps)) := by
  unfold calleeE at h
  split at h
  · rename_i fv as ats
    split at h
    · rename_i f' ps' hf; cases h; exact ⟨fv, as, ats, rfl, rfl, hf⟩
    · cases h
  · cases h
theorem allC_app {C D : List Prop} (h : AllC (C ++ D)) : AllC C ∧ AllC D := allC_append h

section
variable {P : Program} {tab : Tab} {E : Ent} {g : G} {a : Act} {W W' : World}

theorem valsE_spec {s : S} (h : AI P E g s a W) : ∀ {xs : List Operand} {vs : List V1}, valsE s.ev xs = some vs → xs.length = vs.length ∧ (∀ (j : Nat) (v : Value) (z : V1), (xs.map a.eval)[j]? = some v → vs[j]? = some z → RV W g v z) ∧ ∀ v ∈ vs, v.below s.us
  | [], vs, hv => by simp [valsE] at hv; subst hv; simp
  | x :: r, vs, hv => by
    simp only [valsE] at hv
    split at hv
    · rename_i v l h1 h2
      cases hv
      obtain ⟨q1, q2, q3⟩ := valsE_spec h h2
      refine ⟨by simp [q1], fun j u z p1 p2 => ?_, fun u hu => ?_⟩
      · cases j with
        | zero => simp at p1 p2; subst p1; subst p2; exact (h.ev h1).1
        | succ j => exact q2 j u z (by simpa using p1) (by simpa using p2)
      · rcases List.mem_cons.1 hu with rfl | hu
        · exact (h.ev h1).2
        · exact q3 u hu
    · cases hv

theorem callI_wp {s : S} (h : AI P E g s a W) {nx : Nat} (hus : s.us = (· < nx)) {o : Oper} {f : FuncId} {args : List Operand} {ps : List (Nat × Nat)} {vs : List V1} (hc : calleeE s.ev o.op = some (f, args, ps)) (hv : valsE s.ev args = some vs) {z : Z} {L' : Nat → Option Ow} {B' : Nat → Option (List Z1)} {n' : Nat}
    (hf : FnW P f (vs ++ ps.map ptrV) s.live s.bx nx z L' B' n') (hd : ∀ d, o.dst = some d → d < E.nt) {Q : Exit → Act → World → Prop} :
    o.wp P a W (fun a' W' => ∃ g', AI P E g' { sl := putD s.sl o.dst (some z), live := L', bx := B', us := (· < n') } a' W') Q := by
  obtain ⟨fv, as, ats, ho, rfl, hfv⟩ := calleeE_spec hc
  obtain ⟨q1, q2, q3⟩ := valsE_spec h hv
  have efv : a.eval fv = .func (.func f) #[] (ps.map fun p => Value.pointer (some ⟨g.ρ p.1, p.2, none⟩)).toArray := (h.ev hfv).1
  have hpl : ∀ p ∈ ps, s.us p.1 := (h.ev hfv).2
  have hex : (execOp a.eval o).run P W = (callFunc f (as.toList.map a.eval ++ ps.map fun p => Value.pointer (some ⟨g.ρ p.1, p.2, none⟩)).toArray).run P W := by
    unfold execOp
    simp [ho, resolve, efv, Deferred.ofValue, invoke]
    congr 2
    apply Array.ext'
    simp
  have run := h.callI hus (dst := o.dst) (us := as.toList.map a.eval ++ ps.map fun p => Value.pointer (some ⟨g.ρ p.1, p.2, none⟩)) hf hd (by simp [← q1]) (fun j v z h1 h2 => by
    by_cases hj : j < as.toList.length
    · rw [List.getElem?_append_left (by simpa using hj)] at h1
      rw [List.getElem?_append_left (by omega)] at h2
      exact q2 j v z h1 h2
    · rw [List.getElem?_append_right (by simpa using hj)] at h1
      rw [List.getElem?_append_right (by omega)] at h2
      rw [List.length_map, q1] at h1
      rw [List.getElem?_map] at h1 h2
      obtain ⟨p, hp, rfl⟩ := omap h2
      rw [hp] at h1
      cases h1
      rfl) (fun v hv => by
    rcases List.mem_append.1 hv with hv | hv
    · exact q3 v hv
    · obtain ⟨p, hp, rfl⟩ := List.mem_map.1 hv; exact hpl p hp)
  unfold Oper.wp
  rw [hex]
  rcases run with ⟨q1, q2⟩ | ⟨v, W', q1, q2⟩
  · rw [q1]
    refine Calls.mono q2 fun e W' he => ?_
    obtain ⟨v, rfl, hh⟩ := he
    exact hh
  · rw [q1]; exact q2

/-- An operation done leads from state to state. -/
noncomputable def StepOK (P : Program) (ops : Array Oper) (i : Nat) (s s1 : Es) : Prop := ∀ (E : Ent) (g : G) (a : Act) (W : World) (Q : Exit → Act → World → Prop), DstOk ops E.nt → AI P E g s.den a W → wpOp P ops Q i (fun a' W' => ∃ g', AI P E g' s1.den a' W') a W

theorem StepOK.of_stp {cf : Cfg} {ops : Array Oper} {i : Nat} {o : Oper} (ht : TabOk cf.P cf.tab) (h0 : ops[i]? = some o) {s s1 : Es} {st : Stp} {n : Nat} {ch : Option Ch} (hz : stpZ cf.P cf.tab ops s.h.nx ch s.den o = some (st, n)) (hC : holds st.C) (h1 : s1.den = s.den.go o.dst st.z st.e (used s.den.us s.h.nx n)) : StepOK cf.P ops i s s1 := by
  intro E g a W Q hd ha
  have hb : ∀ j, j < n → ¬ s.den.us (s.h.nx + j) := fun j hj q => by have : s.h.nx + j < s.h.nx := q; omega
  exact wpOp_mono (fun a' W' ⟨g', h'⟩ => ⟨g', by rw [h1]; exact h'⟩) (stpZ_wp ht ha h0 hz hC (hd _ o h0) hb)

section
variable {β : Type} {cf : Cfg} {ev : EvT} {ops : Array Oper} {i : Nat} {o : Oper} {s : Es} {acc : List Prop} {k : Kont β} {b : β}
noncomputable def KOK (P : Program) (ops : Array Oper) (i : Nat) (s : Es) (acc : List Prop) (k : Kont β) (b : β) : Prop := ∃ s1 acc1, k s1 acc1 = some b ∧ (AllC acc1 → AllC acc ∧ StepOK P ops i s s1)

theorem slowOp_ok (ht : TabOk cf.P cf.tab) (h0 : ops[i]? = some o) (hw : wantZ ops s.sl.get o = some true) {d : Option Dir} (h : slowOp cf d o s acc k = some b) : KOK cf.P ops i s acc k b := by
  unfold slowOp at h
  split at h
  · rename_i st n ch hz
    obtain ⟨acc1, h1, q1⟩ := decK_spec h
    obtain ⟨s1, h2, q2, q3⟩ := Es.goK_spec h1
    exact ⟨s1, acc1, h2, fun q => ⟨(q1 q).1, StepOK.of_stp ht h0 (ch := ch) (by unfold stpZ; rw [show wantZ ops s.den.sl o = some true from hw]; exact firstOp_spec hz) (q1 q).2 q2⟩⟩
  · cases h
theorem slowE_ok (ht : TabOk cf.P cf.tab) (hev : EvOK cf.P ev) (h0 : ops[i]? = some o) (hw : wantZ ops s.sl.get o = some true) {d : Option Dir} (h : slowE cf ev d o s acc k = some b) : KOK cf.P ops i s acc k b := by
  unfold slowE at h
  split at h
  · rename_i f args ps hc
    unfold seqCall at h
    split at h
    · rename_i vs hvs
      unfold landCall at h
      split at h
      · rename_i z hp acc1 hcall
        obtain ⟨sl, t1, t2⟩ := setS_spec h
        refine ⟨⟨sl, hp⟩, acc1, t1, fun q => ?_⟩
        obtain ⟨c1, hf⟩ := hev.2 f _ _ _ z hp acc1 hcall q
        refine ⟨c1, fun E g a W Q hd ha => ?_⟩
        unfold wpOp
        simp only [h0]
        rw [if_pos (wantZ_wanted ha (show wantZ ops s.den.sl o = some true from hw))]
        refine .inl (Oper.wp_mono (fun a' W' ⟨g', h'⟩ => ⟨g', ?_⟩) (callI_wp ha (nx := s.h.nx) rfl hc hvs hf (hd _ o h0)))
        have : (Es.den ⟨sl, hp⟩) = { sl := putD s.den.sl o.dst (some z), live := hp.L, bx := hp.B, us := (· < hp.nx) } := by simp only [Es.den, t2]
        rw [this]; exact h'
      · cases h
    · cases h
  · exact slowOp_ok ht h0 hw h
theorem actE_ok (ht : TabOk cf.P cf.tab) (hev : EvOK cf.P ev) (h0 : ops[i]? = some o) (hw : wantZ ops s.sl.get o = some true) {d : Option Dir} (h : actE cf ev d o s acc k = some b) : KOK cf.P ops i s acc k b := by
  unfold actE at h
  split at h
  case h_1 | h_2 =>
    unfold fastE at h
    have stp : ∀ {r : FR}, fastOp cf.tab s o.op = some r → ∀ {s1 : Es}, s1.den = s.den.go o.dst r.z r.eff (used s.den.us s.h.nx 1) → StepOK cf.P ops i s s1 := by
      intro r hr s1 h1
      obtain ⟨st, q1, q2, q3, q4⟩ := fast_ok (P := cf.P) hr
      exact StepOK.of_stp ht h0 (ch := none) (by unfold stpZ; rw [show wantZ ops s.den.sl o = some true from hw]; exact q1) q4 (by rw [q2, q3]; exact h1)
    split at h
    · rename_i z hr
      obtain ⟨s1, h2, q2, q3⟩ := Es.goV_spec h
      exact ⟨s1, acc, h2, fun q => ⟨q, stp hr q2⟩⟩
    · rename_i z e hr
      obtain ⟨s1, h2, q2, q3⟩ := Es.goK_spec h
      exact ⟨s1, acc, h2, fun q => ⟨q, stp hr q2⟩⟩
    · exact slowE_ok ht hev h0 hw h
  · exact slowE_ok ht hev h0 hw h
theorem stepE_ok (ht : TabOk cf.P cf.tab) (hev : EvOK cf.P ev) (h0 : ops[i]? = some o) {d : Option Dir} (h : stepE cf ev d ops o s acc k = some b) : KOK cf.P ops i s acc k b := by
  unfold stepE at h
  split at h
  · rename_i hg
    exact actE_ok ht hev h0 (by unfold wantZ; rw [hg]) h
  · unfold guardE at h
    split at h
    · rename_i hw; exact actE_ok ht hev h0 hw h
    · rename_i hw
      obtain ⟨s1, h2, q2, q3⟩ := Es.goK_spec h
      exact ⟨s1, acc, h2, fun q => ⟨q, StepOK.of_stp ht h0 (st := ⟨.no, Eff.no, [], none⟩) (n := 0) (ch := none) (by unfold stpZ; rw [show wantZ ops s.den.sl o = some false from hw]) trivial q2⟩⟩
    · cases h
end

theorem seqE_ok {cf : Cfg} {ev : EvT} (ht : TabOk cf.P cf.tab) (hev : EvOK cf.P ev) {ops : Array Oper} {dir : Nat → Option Dir} : ∀ {l : List Oper} {i : Nat} {s s' : Es} {acc acc' : List Prop}, seqE cf ev dir ops i l s acc = some (s', acc') → (∀ k, ops[i + k]? = l[k]?) → AllC acc' →
    AllC acc ∧ ∀ (E : Ent) (g : G) (a : Act) (W : World) (K : Act → World → Prop), DstOk ops E.nt → (∀ a W g, AI cf.P E g s'.den a W → K a W) → AI cf.P E g s.den a W → wpOps cf.P ops (Nrm K) (List.range' i l.length) a W
  | [], i, s, s', acc, acc', h, _, hC => by
    have h : some (s, acc) = some (s', acc') := h
    simp only [Option.some.injEq, Prod.mk.injEq] at h
    obtain ⟨rfl, rfl⟩ := h
    exact ⟨hC, fun E g a W K hd hK ha => hK a W g ha⟩
  | o :: r, i, s, s', acc, acc', h, hl, hC => by
    have h0 : ops[i]? = some o := by have := hl 0; simpa using this
    have hl' : ∀ k, ops[i + 1 + k]? = r[k]? := fun k => by have := hl (k + 1); rw [show i + 1 + k = i + (k + 1) from by omega]; simpa using this
    obtain ⟨s1, acc1, h1, q1⟩ := stepE_ok ht hev h0 h
    obtain ⟨c1, r1⟩ := seqE_ok ht hev h1 hl' hC
    obtain ⟨c2, r2⟩ := q1 c1
    refine ⟨c2, fun E g a W K hd hK ha => ?_⟩
    rw [List.length_cons, List.range'_succ, wpOps_cons]
    exact wpOp_mono (fun a' W' ⟨g', h'⟩ => r1 E g' a' W' K hd hK h') (r2 E g a W (Nrm K) hd ha)

theorem RunT_congr {ops : Array Oper} {orc orc' : Nat → Option Ch} : ∀ {l : List Step} {s s' : S}, (∀ x ∈ l, orc x.i = orc' x.i) → RunT P tab ops orc l s s' → RunT P tab ops orc' l s s'
  | [], _, _, _, h => h
  | x :: l, s, s', he, ⟨o, h1, h2, h3, h4, h5⟩ => ⟨o, h1, by rw [← he x (by simp)]; exact h2, h3, h4, RunT_congr (fun y hy => he y (List.mem_cons_of_mem _ hy)) h5⟩

theorem callE_spec {cf : Cfg} {ev : EvT} (hev : EvOK cf.P ev) {s : Es} {f : FuncId} {args : List Operand} {ps : List (Nat × Nat)} {inn : Inn} {out : Out} {τ : List Nat} {acc acc' : List Prop} {wr : List Nat} (h : callE cf ev s f args ps acc = some (inn, out, τ, wr, acc')) (hC : AllC acc') :
    AllC acc ∧ callIn τ [] s.den.live s.den.bx s.den.ev args ps = some inn ∧ FnOK cf.P f inn out := by
  unfold callE at h
  split at h
  · rename_i vs hvs
    simp only at h
    split at h
    · rename_i inn' hin
      obtain ⟨lv, h1, q1⟩ := addL_spec h
      obtain ⟨bx, h2, q2⟩ := putL_spec h1
      split at h2
      · rename_i z hp C' hr
        split at h2
        · rename_i hok
          simp only [Option.some.injEq, Prod.mk.injEq] at h2
          obtain ⟨rfl, rfl, rfl, rfl, rfl⟩ := h2
          simp only [Bool.and_eq_true] at hok
          obtain ⟨hacc, hw⟩ := hev.2 _ _ _ _ _ _ _ hr hC
          refine ⟨hacc, hin, FnW.toOK hok.1 hok.2 ?_⟩
          have e1 : (Hp.mk lv bx inn'.n []).L = look inn'.live := by
            funext k
            simp only [Hp.L, q1]
            cases look inn'.live k <;> rfl
          have e2 : (Hp.mk lv bx inn'.n []).B = look inn'.bx := by
            funext k
            simp only [Hp.B, q2]
            cases look inn'.bx k <;> rfl
          have e3 : look hp.lv.flat.list = hp.L := by
            funext k
            rw [Tr.look_list, Tr.get_flat]
            unfold Hp.L
            cases hp.lv.get k <;> rfl
          have e4 : look hp.bx.list = hp.B := by
            funext k
            rw [Tr.look_list]; rfl
          rw [e1, e2] at hw
          show FnW cf.P f inn'.args (look inn'.live) (look inn'.bx) inn'.n z (look hp.lv.flat.list) (look hp.bx.list) hp.nx
          rw [e3, e4]
          exact hw
        · cases h2
      · cases h2
    · cases h
  · cases h

theorem callCh_C {s : Es} {o : Oper} {f : FuncId} {args : List Operand} {ps : List (Nat × Nat)} (hc : calleeE s.den.ev o.op = some (f, args, ps)) {τ : List Nat} {inn : Inn} {out : Out} (hin : callIn τ [] s.den.live s.den.bx s.den.ev args ps = some inn) (hf : FnOK P f inn out) {d : Option Dir} {st : Stp} {n : Nat} {wr : List Nat} (hsame : SameW s.den.live s.den.bx τ s.h.nx out wr)
    (hz : opZ P tab s.h.nx (some (callCh d s.den s.h.nx τ out wr)) s.den o.op = some (st, n)) : holds st.C := by
  obtain ⟨fv, as, ats, ho, rfl, hfv⟩ := calleeE_spec hc
  have hcall : ∀ {ch : Ch} {r : Option (Stp × Nat)}, callZ P s.h.nx (some ch) s.den.live s.den.bx s.den.ev o.op = some r → opZ P tab s.h.nx (some ch) s.den o.op = r := by
    intro ch r h
    unfold opZ
    rw [h]
  have k1 : callZ P s.h.nx (some (.call τ [] out)) s.den.live s.den.bx s.den.ev o.op = some (some (⟨out.val.exp (sig τ s.h.nx), out.eff τ s.h.nx, τ, cq (FnOK P f inn out)⟩, out.n)) := by
    rw [ho]
    simp only [callZ, hfv, hin, Option.map_some]
  have k2 : ∀ wr, callZ P s.h.nx (some (.callW τ [] out wr)) s.den.live s.den.bx s.den.ev o.op = some (some (⟨out.val.exp (sig τ s.h.nx), out.effW τ s.h.nx wr, τ, cq (FnOK P f inn out ∧ SameW s.den.live s.den.bx τ s.h.nx out wr)⟩, out.n)) := fun wr => by
    rw [ho]
    simp only [callZ, hfv, hin, Option.map_some]
  unfold callCh at hz
  split at hz
  · rw [hcall (k2 _)] at hz
    simp only [Option.some.injEq, Prod.mk.injEq] at hz
    obtain ⟨rfl, rfl⟩ := hz
    exact ⟨hf, hsame⟩
  · rw [hcall (k2 _)] at hz
    simp only [Option.some.injEq, Prod.mk.injEq] at hz
    obtain ⟨rfl, rfl⟩ := hz
    exact ⟨hf, wrOfV_spec _ _ _ _⟩
  · rw [hcall k1] at hz
    simp only [Option.some.injEq, Prod.mk.injEq] at hz
    obtain ⟨rfl, rfl⟩ := hz
    exact hf

theorem runE_ok {cf : Cfg} {ev : EvT} (hev : EvOK cf.P ev) {ops : Array Oper} {dir : Nat → Option Dir} : ∀ {l : List Oper} {i : Nat} {s s' : Es} {tr : List Step} {orc : List (Nat × Ch)} {acc acc' : List Prop}, runE cf ev dir ops i l s acc = some (s', tr, orc, acc') → AllC acc' → (∀ k, ops[i + k]? = l[k]?) →
    AllC acc ∧ RunT cf.P cf.tab ops (look orc) tr s.den s'.den ∧ tr.map Step.i = List.range' i l.length ∧ NumUp s.h.nx tr ∧ ∀ p ∈ orc, i ≤ p.1
  | [], i, s, s', tr, orc, acc, acc', h, hC, _ => by
    simp only [runE, Option.some.injEq, Prod.mk.injEq] at h
    obtain ⟨rfl, rfl, rfl, rfl⟩ := h
    exact ⟨hC, rfl, rfl, trivial, by simp⟩
  | o :: r, i, s, s', tr, orc, acc, acc', h, hC, hl => by
    have h0 : ops[i]? = some o := by have := hl 0; simpa using this
    have hl' : ∀ k, ops[i + 1 + k]? = r[k]? := fun k => by have := hl (k + 1); rw [show i + 1 + k = i + (k + 1) from by omega]; simpa using this
    have stp : ∀ {st : Stp} {n : Nat} {ch : Option Ch} {acc1 : List Prop} {p : Es × List Step × List (Nat × Ch) × List Prop}, stpZ cf.P cf.tab ops s.h.nx ch s.den o = some (st, n) → ∀ {str : Bool}, s.goK str o.dst st.z st.e n (fun s1 => runE cf ev dir ops (i + 1) r s1 acc1) = some p → AllC p.2.2.2 →
        AllC acc1 ∧ (holds st.C → RunT cf.P cf.tab ops (look (match ch with
          | some ch => (i, ch) :: p.2.2.1
          | none => p.2.2.1)) (⟨i, st, s.h.nx, n⟩ :: p.2.1) s.den p.1.den ∧ ((⟨i, st, s.h.nx, n⟩ : Step) :: p.2.1).map Step.i = List.range' i (o :: r).length ∧ NumUp s.h.nx (⟨i, st, s.h.nx, n⟩ :: p.2.1) ∧ ∀ q : Nat × Ch, q ∈ (match ch with
          | some ch => (i, ch) :: p.2.2.1
          | none => p.2.2.1) → i ≤ q.1) := by
      rintro st n ch acc1 ⟨s2, tr2, orc2, C2⟩ hz str hg hC'
      obtain ⟨s1, q1, q2, q3⟩ := Es.goK_spec hg
      obtain ⟨r0, r1, r2, r3, r4⟩ := runE_ok hev q1 hC' hl'
      refine ⟨r0, fun hCz => ?_⟩
      have hb : ∀ j, j < n → ¬ s.den.us (s.h.nx + j) := fun j hj q => by have : s.h.nx + j < s.h.nx := q; omega
      have hti : ∀ x ∈ tr2, i + 1 ≤ x.i := fun x hx => by
        have : x.i ∈ tr2.map Step.i := List.mem_map.2 ⟨x, hx, rfl⟩
        rw [r2] at this
        simp at this; omega
      have hn1 : look orc2 i = none := look_none fun p hp => by have := r4 p hp; omega
      rw [q2] at r1
      rw [q3] at r3
      cases ch with
      | none =>
        refine ⟨⟨o, h0, ?_, hCz, hb, r1⟩, by simp [r2, List.range'_succ], ⟨Nat.le_refl _, r3⟩, fun p hp => by have := r4 p hp; omega⟩
        show stpZ cf.P cf.tab ops s.h.nx (look orc2 i) s.den o = _
        rw [hn1]; exact hz
      | some ch =>
        refine ⟨⟨o, h0, ?_, hCz, hb, RunT_congr (fun x hx => ?_) r1⟩, by simp [r2, List.range'_succ], ⟨Nat.le_refl _, r3⟩, fun p hp => ?_⟩
        · show stpZ cf.P cf.tab ops s.h.nx (look ((i, ch) :: orc2) i) s.den o = _
          have : look ((i, ch) :: orc2) i = some ch := by simp [look]
          rw [this]; exact hz
        · have := hti x hx
          show look orc2 x.i = look ((i, ch) :: orc2) x.i
          simp only [look]
          rw [if_neg (by omega)]
        · rcases List.mem_cons.1 hp with rfl | hp
          · exact Nat.le_refl _
          · have := r4 p hp; omega
    simp only [runE] at h
    split at h
    · rename_i hw
      obtain ⟨p, hp, e⟩ := omap h
      simp only [Prod.mk.injEq] at e
      obtain ⟨rfl, rfl, rfl, rfl⟩ := e
      obtain ⟨t1, t2⟩ := stp (st := ⟨.no, Eff.no, [], none⟩) (n := 0) (ch := none) (by unfold stpZ; rw [show wantZ ops s.den.sl o = some false from hw]) hp hC
      exact ⟨t1, t2 trivial⟩
    · rename_i hw
      split at h
      · rename_i f args ps hc
        split at h
        · rename_i inn out τ wr acc1 hcall
          split at h
          · rename_i st n hz
            obtain ⟨p, hp, e⟩ := omap h
            simp only [Prod.mk.injEq] at e
            obtain ⟨rfl, rfl, rfl, rfl⟩ := e
            obtain ⟨t1, t2⟩ := stp (ch := some _) (by unfold stpZ; rw [show wantZ ops s.den.sl o = some true from hw]; exact hz) hp hC
            obtain ⟨u0, u1, u2⟩ := callE_spec hev hcall t1
            exact ⟨u0, t2 (callCh_C hc u1 u2 (callE_same hev.1 hcall) hz)⟩
          · cases h
        · cases h
      · split at h
        · rename_i st n ch hz
          obtain ⟨acc1, h1, q1⟩ := decK_spec h
          obtain ⟨p, hp, e⟩ := omap h1
          simp only [Prod.mk.injEq] at e
          obtain ⟨rfl, rfl, rfl, rfl⟩ := e
          obtain ⟨t1, t2⟩ := stp (ch := ch) (by unfold stpZ; rw [show wantZ ops s.den.sl o = some true from hw]; exact firstOp_spec hz) hp hC
          obtain ⟨u1, u2⟩ := q1 t1
          exact ⟨u1, t2 u2⟩
        · cases h
    · cases h

theorem landE_ok {s : S} {b : Frame} {cs : List Frame} (h : AI P E g s a W) : ∀ {n : Nat} {k k2 : List Item}, landE n s k = some k2 → Steps P (lone (b.at a k) cs W) (lone (b.at a k2) cs W)
  | 0, _, _, hl => by cases hl
  | n + 1, k, k2, hl => by
    simp only [landE] at hl
    split at hl
    · rename_i c x y k' hk
      split at hl
      · rename_i u hu
        have hev : a.eval c = .bool u := by
          have : RD W g.F (a.eval c) (.bool u) := (h.ev hu).1
          generalize a.eval c = v at *
          cases this; rfl
        have h1 := adm_steps (P := P) (b := b) (a := a) (cs := cs) (W := W) 1000 k
        rw [hk] at h1
        cases u with
        | true => exact h1.trans (.head (step_cond hev) (landE_ok h hl))
        | false => exact h1.trans (.head (step_cond hev) (landE_ok h hl))
      · cases hl
    · cases hl
      exact adm_steps 1000 k

noncomputable def EndsW (P : Program) (E : Ent) (rs : Array ResultVar) (z : Z) (L : Nat → Option Ow) (B : Nat → Option (List Z1)) (n : Nat) (a : Act) (W : World) : Prop :=
  a.defers = E.df ∧ ∃ v, (do
    let vs ← rs.mapM fun
      | .tmp t => pure (a.tmps.getD t undef)
      | .cell x t => do loadVar t (← asAddr (a.tmps.getD x undef))
    pure (if h : vs.size = 1 then vs[0] else .tuple vs) : Sem Value).run P W = .ok v W ∧
    ∃ g, RZ W g v z ∧ HI P E g L (bc B) W ∧ HR P g L B W ∧ WB E g.F W ∧ (∀ j, j < E.pk → g.ρ j = E.ρ0 j ∧ g.ω j = E.ω0 j) ∧ E.pk ≤ n ∧ z.below (· < n) ∧ LowL L n ∧ LowB B n
noncomputable def RunsW (P : Program) (rs : Array ResultVar) (nt pk : Nat) (k : List Item) (s : S) (z : Z) (L : Nat → Option Ow) (B : Nat → Option (List Z1)) (n : Nat) : Prop :=
  ∀ (E : Ent) (g : G) (a : Act) (W : World), E.pk = pk → E.nt = nt → AI P E g s a W → ∀ (b : Frame) (cs : List Frame), ∃ a' W' todo, EndsW P E rs z L B n a' W' ∧
    Steps P (lone (b.at a k) cs W) (lone { b.at a' todo with mode := .returning } cs W')

theorem retV_low {s : S} (h : AI P E g s a W) : ∀ {rs : List ResultVar} {vs : List V1}, retV tab s rs = some vs → ∀ v ∈ vs, v.below s.us
  | [], vs, hr, v, hv => by simp [retV] at hr; subst hr; cases hv
  | .tmp t :: r, vs, hr, v, hv => by
    simp only [retV] at hr
    split at hr
    · rename_i u l h1 h2
      cases hr
      rcases List.mem_cons.1 hv with rfl | hv
      · exact (h.ev h1).2
      · exact retV_low h h2 v hv
    · cases hr
  | .cell x t :: r, vs, hr, v, hv => by
    simp only [retV] at hr
    split at hr
    · rename_i id o i l h1 h2 h3
      obtain ⟨u, hu, rfl⟩ := omap hr
      obtain ⟨cs, hb, hz⟩ := obind hu
      split at hz
      case isFalse => cases hz
      rcases List.mem_cons.1 hv with rfl | hv
      · exact readZ_below hz (fun c hc => (h.boxLow id cs hb).2 c (List.mem_of_mem_drop hc))
      · exact retV_low h h3 v hv
    · cases hr

theorem regionE_ok {cf : Cfg} {ev : EvT} (hmix : cf.P.follows .mixedOrders = true) (ht : TabOk cf.P cf.tab) (hev : EvOK cf.P ev) {dir : Nat → Option Dir} {ops : Array Oper} {s s1 : Es} {acc acc1 : List Prop} {draw : Bool} (h : regionE cf ev dir ops s acc draw = some (s1, acc1)) (hC : AllC acc1) :
    AllC acc ∧ ∀ (E : Ent) (g : G) (a : Act) (W : World) (id : Nat), dstB E.nt ops = true → AI cf.P E g s.den a W → (Code.region id ops draw).wp cf.P (Nrm fun a' W' => ∃ g', AI cf.P E g' s1.den a' W') a W := by
  cases draw with
  | true =>
    have h : drawnE ops (runE cf ev dir ops 0 ops.toList s acc) = some (s1, acc1) := h
    unfold drawnE at h
    split at h
    · rename_i s2 tr orc C2 hr
      split at h
      · rename_i hok
        cases h
        obtain ⟨r0, r1, r2, r3, _⟩ := runE_ok hev hr hC (fun k => by simp)
        exact ⟨r0, fun E g a W id hd ha => region_runS hmix ht r1 r2 r3 hok hd ha⟩
      · cases h
    · cases h
  | false =>
    obtain ⟨r0, r1⟩ := seqE_ok ht hev (show seqE cf ev dir ops 0 ops.toList s acc = some (s1, acc1) from h) (fun k => by simp) hC
    refine ⟨r0, fun E g a W id hd ha => wp_region ?_⟩
    have := r1 E g a W (fun a' W' => ∃ g', AI cf.P E g' s1.den a' W') (dst_of hd) (fun a W g h => ⟨g, h⟩) ha
    rw [List.range_eq_range']
    simpa using this

theorem evalR_ok {cf : Cfg} {ev : EvT} (hmix : cf.P.follows .mixedOrders = true) (ht : TabOk cf.P cf.tab) (hev : EvOK cf.P ev) {f : FuncId} {fn : Func} {pk : Nat} : ∀ {m : Nat} {k : List Item} {s : Es} {acc acc' : List Prop} {z : Z} {hp : Hp}, evalR cf ev f fn m k s acc = some (z, hp, acc') → AllC acc' → AllC acc ∧ RunsW cf.P fn.results fn.ntmps pk k s.den z hp.L hp.B hp.nx
  | 0, _, _, _, _, _, _, h, _ => absurd (show none = some _ from h) (by simp)
  | m + 1, k, s, acc, acc', z, hp, h, hC => by
    have h : regE cf ev f fn s acc (fun k s acc => evalR cf ev f fn m k s acc) k = some (z, hp, acc') := h
    unfold regE at h
    split at h
    case h_2 => cases h
    rename_i id ops draw k' _hk
    split at h
    case h_2 => cases h
    rename_i hdst
    unfold afterE at h
    split at h
    case h_2 => cases h
    rename_i s1 acc1 hreg
    unfold onE at h
    split at h
    case h_2 => cases h
    rename_i k2 hland
    have go : AllC acc1 → AllC acc ∧ ∀ (E : Ent) (g : G) (a : Act) (W : World), E.nt = fn.ntmps → AI cf.P E g s.den a W → ∀ (b : Frame) (cs : List Frame), ∃ a1 W1 g1, AI cf.P E g1 s1.den a1 W1 ∧ Steps cf.P (lone (b.at a (.code (.region id ops draw) :: k')) cs W) (lone (b.at a1 k2) cs W1) := by
      intro hC1
      obtain ⟨r0, r1⟩ := regionE_ok hmix ht hev hreg hC1
      refine ⟨r0, fun E g a W hnt ha b cs => ?_⟩
      obtain ⟨e, a1, W1, hq, harr⟩ := r1 E g a W id (by rw [hnt]; exact hdst) ha b k' cs
      cases e <;> simp only [Nrm] at hq
      obtain ⟨g1, h1⟩ := hq
      exact ⟨a1, W1, g1, h1, harr.trans (landE_ok (b := b) (cs := cs) h1 hland)⟩
    split at h
    · rename_i hret
      unfold finE at h
      split at h
      case h_2 => cases h
      rename_i vs hv
      cases h
      obtain ⟨r0, r1⟩ := go hC
      refine ⟨r0, fun E g a W hpk hnt ha b cs => ?_⟩
      obtain ⟨a1, W1, g1, h1, h2⟩ := r1 E g a W hnt ha b cs
      obtain ⟨us, q1, q2, q3⟩ := retV_run ht h1 hv
      have qlow := retV_low h1 hv
      have hret' : ∃ todo, Steps cf.P (lone (b.at a1 k2) cs W1) (lone { b.at a1 todo with mode := .returning } cs W1) := by
        unfold isRet at hret
        split at hret
        · exact ⟨_, .one step_end⟩
        · exact ⟨_, .one step_ret⟩
        · cases hret
      obtain ⟨todo, hst⟩ := hret'
      refine ⟨a1, W1, todo, ⟨h1.defers, (if h : us.toArray.size = 1 then us.toArray[0] else .tuple us.toArray), ?_, g1, ?_, ?_, ?_, h1.b, h1.pin, ?_, ?_, ?_, ?_⟩, h2.trans hst⟩
      · have q1' : (fn.results.toList.mapM fun
          | .tmp t => pure (a1.tmps.getD t undef)
          | .cell x t => do loadVar t (← asAddr (a1.tmps.getD x undef)) : Sem (List Value)).run cf.P W1 = .ok us W1 := q1
        rw [Array.mapM_eq_mapM_toList]
        simp only [Sem.run_bind, Sem.run_map, q1', Result.andThen_ok, Sem.run_pure]
      · cases vs with
        | nil =>
          have : us = [] := List.eq_nil_of_length_eq_zero q2
          subst this
          exact ⟨#[], rfl, rfl, by simp⟩
        | cons v vs =>
          cases vs with
          | nil =>
            obtain ⟨u, rfl⟩ : ∃ u, us = [u] := by
              match us, q2 with
              | [u], _ => exact ⟨u, rfl⟩
            exact q3 0 u v rfl rfl
          | cons w vs =>
            have hne : ¬ us.toArray.size = 1 := by simp at q2 ⊢; omega
            rw [dif_neg hne]
            exact ⟨us.toArray, rfl, by simp [q2], fun j u x hu hx => q3 j u x (by simpa using hu) hx⟩
      · exact h1.h
      · exact h1.r
      · rcases Nat.eq_zero_or_pos E.pk with q | q
        · omega
        · have : E.pk - 1 < s1.h.nx := h1.pkLow (E.pk - 1) (by omega)
          omega
      · cases vs with
        | nil => exact fun v hv => by cases hv
        | cons v vs => cases vs with
          | nil => exact qlow v (by simp)
          | cons w vs => exact qlow
      · exact fun l e hl => h1.liveLow l e hl
      · exact fun i c hi => h1.boxLow i c hi
    · obtain ⟨c1, hr⟩ := evalR_ok hmix ht hev (pk := pk) h hC
      obtain ⟨r0, r1⟩ := go c1
      refine ⟨r0, fun E g a W hpk hnt ha b cs => ?_⟩
      obtain ⟨a1, W1, g1, h1, h2⟩ := r1 E g a W hnt ha b cs
      obtain ⟨a2, W2, todo, r2, r3⟩ := hr E g1 a1 W1 hpk hnt h1 b cs
      exact ⟨a2, W2, todo, r2, h2.trans r3⟩

theorem argsK_spec {β : Type} {str : Bool} : ∀ {vs : List V1} {i : Nat} {t : Tr Z} {c : Tr Z → Option β} {b : β}, argsK str vs i t c = some b → ∃ t', c t' = some b ∧ ∀ j, t'.get j = if i ≤ j ∧ j < i + vs.length then (vs[j - i]?).map Z.one else t.get j
  | [], i, t, c, b, h => ⟨t, h, fun j => by rw [if_neg (by intro h; simp only [List.length_nil] at h; omega)]⟩
  | v :: r, i, t, c, b, h => by
    have h : setS str (some i) (.one v) t (fun t' => argsK str r (i + 1) t' c) = some b := h
    obtain ⟨t1, q1, q2⟩ := setS_spec h
    obtain ⟨t2, r1, r2⟩ := argsK_spec (vs := r) q1
    refine ⟨t2, r1, fun j => ?_⟩
    rw [r2, q2]
    by_cases h1 : j = i
    · subst h1
      rw [if_neg (by omega), if_pos (by simp)]
      simp [putD, setN]
    · by_cases h2 : i + 1 ≤ j ∧ j < i + 1 + r.length
      · rw [if_pos h2, if_pos (by simp; omega)]
        rw [show j - i = (j - (i + 1)) + 1 from by omega]
        simp
      · rw [if_neg h2, if_neg (by simp; omega)]
        simp [putD, setN, h1]

theorem evalF_ok {cf : Cfg} (hmix : cf.P.follows .mixedOrders = true) (ht : TabOk cf.P cf.tab) (hpr : EvOK cf.P cf.prim) (hfn : ∀ f fn, cf.fns f = some fn → cf.P.funcs[f]? = some fn ∧ (fn.name == "runtime.NumGoroutine") = false) : ∀ d, EvOK cf.P (evalF cf d)
  | 0 => ⟨evalF_fr hpr.1 0, fun f vs hp acc z hp' acc' h _ => by cases h⟩
  | d + 1 => by
    refine ⟨evalF_fr hpr.1 (d + 1), ?_⟩
    intro f vs hp acc z hp' acc' h hC
    simp only [evalF] at h
    unfold primE at h
    split at h
    · rename_i r hr; cases h; exact hpr.2 f vs hp acc z hp' acc' hr hC
    · unfold bodyE at h
      split at h
      · rename_i fn hf
        split at h
        · rename_i c hb
          obtain ⟨sl, h1, hsl⟩ := argsK_spec h
          obtain ⟨hacc, hrun⟩ := evalR_ok hmix ht (evalF_ok hmix ht hpr hfn d) (pk := hp.nx) h1 hC
          refine ⟨hacc, ?_⟩
          obtain ⟨hP, hname⟩ := hfn f fn hf
          intro v1 v2 v3 E g W args hsz harg hpk hpin hW0 hF0 hHI hHR hWB
          refine .inl ⟨?_, fun cs => ?_⟩
          · have hne : ¬ fn.name = "runtime.NumGoroutine" := fun e => by rw [e] at hname; revert hname; decide
            simp [callFunc, hP, hne, hb]
          · let E' : Ent := { E with nt := fn.ntmps, df := [] }
            have slot : ∀ t z, sl.get t = some z → ∃ v, vs[t]? = some v ∧ z = .one v := fun t z hz => by
              rw [hsl] at hz
              split at hz
              · obtain ⟨v, hv, rfl⟩ := omap hz
                exact ⟨v, by simpa using hv, rfl⟩
              · cases hz
            have hAI : AI cf.P E' g (Es.den ⟨sl, hp⟩) { tmps := args ++ Array.replicate (fn.ntmps - args.size) undef, defers := [] } W := {
              defers := rfl
              tsz := by show fn.ntmps ≤ _; simp; omega
              slots := fun t z hz => by
                obtain ⟨v, h1, rfl⟩ := slot t z hz
                have hlt : t < args.size := by rw [hsz]; exact (List.getElem?_eq_some_iff.1 h1).1
                refine ⟨args[t], by simp only [Array.getElem?_append_left hlt]; exact Array.getElem?_eq_getElem hlt, ?_⟩
                exact harg t _ v (Array.getElem?_eq_getElem hlt) h1
              low := fun t z hz => by
                obtain ⟨v, h1, rfl⟩ := slot t z hz
                exact v1 v (List.mem_of_getElem? h1)
              liveLow := v2
              boxLow := v3
              pkLow := fun j hj => by show j < hp.nx; rw [← hpk]; exact hj
              pin := fun j hj => hpin j (by rw [← hpk]; exact hj)
              b := ⟨hWB.fz, hWB.os, hWB.tape, hWB.output, hWB.size, hWB.block, hWB.keeps, hWB.fmay⟩
              h := ⟨hHI.own, hHI.ownNe, hHI.ownMay, hHI.box, hHI.boxNe, hHI.boxMay, hHI.boxOwn⟩
              r := hHR }
            let b : Frame := { (default : Frame) with fn := f, kind := .normal }
            have henter : Frame.enter cf.P f args .normal = b.at { tmps := args ++ Array.replicate (fn.ntmps - args.size) undef, defers := [] } [.code c] := by
              simp [Frame.enter, Frame.at, hP, hb, b]
            obtain ⟨a', W', todo, ⟨hdef, v, hrun, g', r1, r2, rr, r3, r4, r5, r6, r7, r8⟩, hst⟩ := hrun E' g _ W hpk rfl hAI b cs
            have hst := (adm_steps (P := cf.P) (b := b) (a := { tmps := args ++ Array.replicate (fn.ntmps - args.size) undef, defers := [] }) (cs := cs) (W := W) 1000 [.code c]).trans hst
            rw [← henter] at hst
            refine ⟨.returned v, W', _, ⟨v, rfl, g', r1, ⟨r2.own, r2.ownNe, r2.ownMay, r2.box, r2.boxNe, r2.boxMay, r2.boxOwn⟩, rr, ⟨r3.fz, r3.os, r3.tape, r3.output, r3.size, r3.block, r3.keeps, r3.fmay⟩, fun j hj => ?_, by rw [← hpk]; exact r5, r6, r7, r8⟩, hst, rfl, rfl, hdef, rfl, fn, hP, hrun⟩
            have h1 := r4 j (by rw [show E'.pk = hp.nx from hpk]; exact hj)
            have h2 := hpin j hj
            exact ⟨h1.1.trans h2.1.symm, h1.2.trans h2.2.symm⟩
        · cases h
      · cases h
end
end Zed
namespace Zed
open Go
set_option linter.unusedVariables false
set_option linter.unusedSimpArgs false
section
variable {α : Type}
noncomputable def evs : List α → List α
  | [] => []
  | [x] => [x]
  | x :: _ :: r => x :: evs r
noncomputable def ods : List α → List α
  | [] => []
  | [_] => []
  | _ :: y :: r => y :: ods r
noncomputable def ofL : Nat → List α → Tr α
  | 0, _ => .e
  | _ + 1, [] => .e
  | n + 1, x :: r => .n (some x) (ofL n (evs r)) (ofL n (ods r))
theorem evs_get : ∀ (l : List α) (k : Nat), (evs l)[k]? = l[2 * k]?
  | [], k => by simp [evs]
  | [x], k => by
    cases k with
    | zero => rfl
    | succ k => simp [evs]
  | x :: y :: r, k => by
    cases k with
    | zero => rfl
    | succ k =>
      show (evs r)[k]? = _
      rw [evs_get r k, show 2 * (k + 1) = 2 * k + 1 + 1 from by omega]
      simp
theorem ods_get : ∀ (l : List α) (k : Nat), (ods l)[k]? = l[2 * k + 1]?
  | [], k => by simp [ods]
  | [x], k => by simp [ods]
  | x :: y :: r, k => by
    cases k with
    | zero => rfl
    | succ k =>
      show (ods r)[k]? = _
      rw [ods_get r k, show 2 * (k + 1) + 1 = 2 * k + 1 + 1 + 1 from by omega]
      simp
theorem ofL_get : ∀ (n : Nat) (l : List α) (k : Nat) (x : α), (ofL n l).get k = some x → l[k]? = some x
  | 0, l, k, x, h => by cases h
  | n + 1, [], k, x, h => by cases h
  | n + 1, y :: r, k, x, h => by
    rw [ofL, Tr.get_n] at h
    split at h
    · rename_i h0; subst h0; simpa using h
    · split at h
      · have := ofL_get n (evs r) _ x h
        rw [evs_get] at this
        obtain ⟨k', rfl⟩ : ∃ k', k = k' + 1 := ⟨k - 1, by omega⟩
        rw [show 2 * ((k' + 1) / 2) = k' by omega] at this
        simpa using this
      · have := ofL_get n (ods r) _ x h
        rw [ods_get] at this
        obtain ⟨k', rfl⟩ : ∃ k', k = k' + 1 := ⟨k - 1, by omega⟩
        rw [show 2 * ((k' + 1) / 2 - 1) + 1 = k' by omega] at this
        simpa using this
end
noncomputable def fnsOf (P : Program) : FuncId → Option Func := (ofL 12 P.funcs.toList).get
theorem fnsOf_ok {P : Program} (h : P.funcs.toList.all (fun fn => !(fn.name == "runtime.NumGoroutine")) = true) : ∀ f fn, fnsOf P f = some fn → P.funcs[f]? = some fn ∧ (fn.name == "runtime.NumGoroutine") = false := by
  intro f fn hf
  have := ofL_get 12 _ f fn hf
  refine ⟨by rw [← Array.getElem?_toList]; exact this, ?_⟩
  have := List.all_eq_true.1 h fn (List.mem_of_getElem? this)
  simpa using this
end Zed
