/- Texts KDel2, KPrim, ZedEl, KCfg of our own machine for the walk of WholeChallenges, one behind the other. -/
import Derived.Test.YtiammpabkpoidaaGreatW19
import Derived.Test.YtiammpabkpoidaaGreatW21
import Derived.Test.YtiammpabkpoidaaGreatW22
namespace Zed
open Go Go.RowKit
set_option maxRecDepth 10000
set_option linter.unusedVariables false
set_option linter.unusedSimpArgs false
theorem Rel2.split {α : Type} {R : Value → α → Prop} {vs : List Value} {A C : List α} (h : Rel2 R vs (A ++ C)) : Rel2 R (vs.take A.length) A ∧ Rel2 R (vs.drop A.length) C := by
  obtain ⟨h1, h2⟩ := h
  rw [List.length_append] at h1
  refine ⟨⟨by rw [List.length_take]; omega, fun j v d hv hd => ?_⟩, ⟨by rw [List.length_drop]; omega, fun j v d hv hd => ?_⟩⟩
  · have hj := (List.getElem?_eq_some_iff.1 hd).1
    rw [List.getElem?_take, if_pos hj] at hv
    exact h2 j v d hv (by rw [List.getElem?_append_left hj]; exact hd)
  · rw [List.getElem?_drop] at hv
    exact h2 (A.length + j) v d hv (by rw [List.getElem?_append_right (by omega)]; rw [show A.length + j - A.length = j from by omega]; exact hd)
theorem cells79 : Go.Proofs.Tryz.prog.cellsOf 79 = 3 := by kernel_rfl
theorem del_fn {T : K} {l i j n : Nat} {xs : List T.den} {L : Nat → Option Ow} {B : Nat → Option (List Z1)} (hl : L l = some ⟨79, 2⟩) (hb : B l = some [.run T xs]) (hi : i < xs.length) (hj : j = i + 1) :
    FnW Go.Proofs.Tryz.prog 66 [.c (.row l T), .c (.d (.int .i64 i)), .c (.d (.int .i64 j))] L B n (.one (.c (.own n T (xs.take i ++ xs.drop j)))) ((⟨[l], [(n, ⟨79, 0⟩)], []⟩ : Eff).lv L) B (n + 1) := by
  refine FnW.via (ws := [.c (.row l T), .c (.d (.int .i64 i)), .c (.d (.int .i64 j))]) (by omega) ⟨rfl, fun W g j v z z' h1 h2 h3 => by rw [h1] at h2; cases h2; exact h3⟩ (fun m hm => hm) ?_
  intro E g a W args hpk hnt hsz harg hA
  have hnt : E.nt = 4 := hnt
  have hl' : (⟨slotsOf [.c (.row l T), .c (.d (.int .i64 i)), .c (.d (.int .i64 j))], L, B, (· < n)⟩ : S).live l = some ⟨79, 2⟩ := hl
  rcases hA.rowIs hl' hb with ⟨_, h0⟩ | ⟨hT, b, cap, cur, h1, h2, h3, h4, h5, h6, h7⟩
  · rw [h0] at hi; exact absurd hi (by simp)
  have hT3 : T.size = 3 := by rw [hT.2, cells79]
  rw [cells79] at h6
  obtain ⟨v0, q0, r0⟩ := hA.slots 0 (.one (.c (.row l T))) rfl
  obtain ⟨v1, q1, r1⟩ := hA.slots 1 (.one (.c (.d (.int .i64 i)))) rfl
  obtain ⟨v2, q2, r2⟩ := hA.slots 2 (.one (.c (.d (.int .i64 j)))) rfl
  have e0 : v0 = .slice (some ⟨b, 0, none⟩) xs.length cap := ((show g.ω l = v0 ∧ _ from r0).1).symm.trans h1
  have e1 : v1 = .int .i64 i := by
    have r1 : RD W g.F v1 (.int .i64 i) := r1
    cases r1; rfl
  have e2 : v2 = .int .i64 j := by
    have r2 : RD W g.F v2 (.int .i64 j) := r2
    cases r2; rfl
  have hargs : args = #[.slice (some ⟨b, 0, none⟩) xs.length cap, .int .i64 i, .int .i64 j] := by
    have hs3 : args.size = 3 := hsz
    have get : ∀ (q : Nat) (v : Value) (hq : q < 3), a.tmps[q]? = some v → args[q]'(by omega) = v := fun q v hq hv => by
      have := harg q _ (Array.getElem?_eq_getElem (by omega))
      rw [Array.getD_eq_getD_getElem?, hv] at this
      exact this.symm
    apply Array.ext
    · simpa using hs3
    · intro q hq1 hq2
      have hq : q < 3 := by omega
      match q, hq with
      | 0, _ => rw [get 0 _ (by omega) q0, e0]; rfl
      | 1, _ => rw [get 1 _ (by omega) q1, e1]; rfl
      | 2, _ => rw [get 2 _ (by omega) q2, e2]; rfl
  have hone : ∀ u ∈ cur.toList.take (xs.length * 3), u.oneCell' = true := fun u hu => by
    obtain ⟨q, hq⟩ := List.mem_iff_getElem?.1 hu
    rw [hT3] at h3
    have hlt : q < (xs.flatMap T.rrow).length := by rw [← h3.1]; exact (List.getElem?_eq_some_iff.1 hq).1
    exact RD.one (h3.2 q u _ hq (List.getElem?_eq_getElem hlt))
  have hrun := del_run W b xs.length cap i cur h2 (by rw [h6]) hi h4 h5 hone j hj
  refine .inl ⟨?_, ?_⟩
  · rw [hargs]
    have hP : Go.Proofs.Tryz.prog.funcs[66]? = some Go.Proofs.Tryz.f66 := by kernel_rfl
    have hb' : Go.Proofs.Tryz.f66.body.isSome = true := by kernel_rfl
    have hne : (Go.Proofs.Tryz.f66.name == "runtime.NumGoroutine") = false := by kernel_rfl
    have hne' : ¬ Go.Proofs.Tryz.f66.name = "runtime.NumGoroutine" := fun e => by rw [e] at hne; revert hne; decide
    obtain ⟨c, hc⟩ := Option.isSome_iff_exists.1 hb'
    simp [callFunc, hP, hne', hc]
  rw [hargs]
  refine hrun.mono ?_
  rintro e W' ⟨zs, hzs, rfl, rfl⟩
  refine ⟨_, rfl, ?_⟩
  have hN := hi
  let news := (cur.toList.drop (j * 3)).take ((xs.length - j) * 3)
  have hnl : news.length = (xs.length - j) * 3 := by simp only [news, List.length_take, List.length_drop, Array.length_toList, h6]; omega
  obtain ⟨a1, a2⟩ := setCells_at news (i * 3) W.drew cur h2 (by rw [hnl, h6]; omega)
  generalize hW1 : W.drew.setCells b (i * 3) news = W1 at a1 a2
  obtain ⟨b1, b2⟩ := setCells_at zs ((xs.length - 1) * 3) W1 _ a1 (by simp [hnl, h6, hzs]; omega)
  show ∃ g' sl', sl' 3 = some (.one (.c (.own n T (xs.take i ++ xs.drop j)))) ∧ AI Go.Proofs.Tryz.prog E g' ⟨sl', (⟨[l], [(n, ⟨79, 0⟩)], []⟩ : Eff).lv L, B, (· < n + 1)⟩ (a.put (some 3) (.slice (some ⟨b, 0, none⟩) (xs.length - 1) cap)) (W1.setCells b ((xs.length - 1) * 3) zs)
  generalize W1.setCells b ((xs.length - 1) * 3) zs = W2 at b1 b2 ⊢
  have hlt : b < W.heap.size := (Array.getElem?_eq_some_iff.1 h2).1
  have hg : Goes W W2 (· = b) := by
    have s1 : W.drew.heap.size ≤ W1.heap.size := a2.size
    refine ⟨b2.os.trans a2.os, b2.tape.trans a2.tape, b2.output.trans a2.output, Nat.le_trans a2.size b2.size, fun k hk hne => ?_⟩
    exact (b2.block k (Nat.lt_of_lt_of_le hk a2.size) hne).trans (a2.block k hk hne)
  obtain ⟨cur2, hc2⟩ : ∃ cur2, W2.heap[b]? = some (.cells cur2 79 (0, 0)) ∧ cur2.size = cap * 3 ∧ cur2.toList.take ((xs.length - 1) * 3) = cur.toList.take (i * 3) ++ news := by
    refine ⟨_, b1, ?_, ?_⟩
    · simp [hnl, hzs, h6]; omega
    · have hl1 : (cur.toList.take (i * 3) ++ news).length = (xs.length - 1) * 3 := by
        rw [List.length_append, hnl, List.length_take, Array.length_toList, h6]; omega
      simp only []
      rw [List.append_assoc, List.take_append_of_le_length (by simp [hnl, h6]; omega), List.take_take, Nat.min_self, ← hl1, List.take_append_of_le_length (Nat.le_refl _), List.take_length]
  obtain ⟨c1, c2, c3⟩ := hc2
  let F' : Nat → Nat → Prop := fun b' o => g.F b' o ∨ (b' = b ∧ o < (xs.length - 1) * 3)
  have hK : Keeps g.F F' W W2 := Keeps.of_goes hg (fun b' o hf => ⟨hA.b.fz b' o hf, fun e => h7 o (e ▸ hf)⟩) (fun b' o hf => .inl hf)
  let g' : G := ⟨F', g.ρ, setN g.ω n (.slice (some ⟨b, 0, none⟩) (xs.length - 1) cap)⟩
  have hzl : (xs.take i ++ xs.drop j).length = xs.length - 1 := by rw [List.length_append, List.length_take, List.length_drop]; omega
  have hrel : Rel2 (RD W2 F') (cur.toList.take (i * 3) ++ news) ((xs.take i ++ xs.drop j).flatMap T.rrow) := by
    have e : xs.flatMap T.rrow = (xs.take i).flatMap T.rrow ++ ((xs.drop i).take 1).flatMap T.rrow ++ (xs.drop j).flatMap T.rrow := by
      rw [← List.flatMap_append, ← List.flatMap_append, List.append_assoc]
      congr 1
      rw [show xs.drop j = (xs.drop i).drop 1 from by rw [List.drop_drop, hj], List.take_append_drop, List.take_append_drop]
    rw [e, List.append_assoc] at h3
    have lenA : ((xs.take i).flatMap T.rrow).length = i * 3 := by rw [flat_len, List.length_take, Nat.min_eq_left (by omega), hT3]
    have lenB : (((xs.drop i).take 1).flatMap T.rrow).length = 1 * 3 := by rw [flat_len, List.length_take, List.length_drop, Nat.min_eq_left (by omega), hT3]
    obtain ⟨p1, p2⟩ := Rel2.split h3
    rw [lenA] at p1 p2
    obtain ⟨_, p3⟩ := Rel2.split p2
    rw [lenB] at p3
    rw [hT3] at p1 p3
    rw [List.flatMap_append]
    refine Rel2.app (Rel2.keepD hK ?_) (Rel2.keepD hK ?_)
    · rw [List.take_take, Nat.min_eq_left (by omega)] at p1; exact p1
    · rw [List.drop_drop, List.drop_take] at p3
      have e1 : i * 3 + 1 * 3 = j * 3 := by omega
      have e2 : xs.length * 3 - j * 3 = (xs.length - j) * 3 := by omega
      rw [e1, e2] at p3
      exact p3
  have hval : RD W2 F' (.slice (some ⟨b, 0, none⟩) (xs.length - 1) cap) (X.sl T (xs.take i ++ xs.drop j)).raw := by
    refine RD.ofFlat hzl (by omega) (by omega) (vals := cur.toList.take (i * 3) ++ news) (fun q u hq hu => ?_) hrel
    rw [hT3] at hq
    rw [← c3, List.getElem?_take, if_pos hq] at hu
    exact ⟨by simp only [World.cell?, c1]; simpa using hu, .inr ⟨rfl, hq⟩⟩
  have hmay : E.may b := hA.h.ownMay l _ hl b (by rw [h1]; rfl)
  have hne : ∀ l' e', l' ≠ l → L l' = some e' → (g.ω l').ownBlock ≠ some b := fun l' e' hne' h' hb' => hA.h.ownNe l' e' l _ h' hl hne' b hb' (by rw [h1]; rfl)
  have hboxb : ∀ id cs, bc B id = some cs → g.ρ id ≠ b := fun id cs hid e => hA.h.boxOwn id cs l _ hid hl (by rw [h1, e]; rfl)
  have hLn : ∀ l' e', L l' = some e' → l' < n := fun l' e' h' => hA.liveLow l' e' h'
  have hlow : ∀ l', l' < n → g'.ω l' = g.ω l' := fun l' h' => setN_ne _ _ (by omega)
  have hωn : g'.ω n = .slice (some ⟨b, 0, none⟩) (xs.length - 1) cap := setN_same _ _ _
  have hlv : ∀ l' e', ((⟨[l], [(n, ⟨79, 0⟩)], []⟩ : Eff).lv L) l' = some e' → (l' = n ∧ e' = ⟨79, 0⟩) ∨ (l' ≠ l ∧ L l' = some e' ∧ l' < n) := by
    intro l' e' h'
    simp only [Eff.lv, look] at h'
    by_cases hn : n = l'
    · subst hn; rw [if_pos rfl] at h'; cases h'; exact .inl ⟨rfl, rfl⟩
    · rw [if_neg hn] at h'
      simp only at h'
      split at h'
      · cases h'
      · rename_i hc
        refine .inr ⟨fun e => hc (by simp [e]), h', hLn _ _ h'⟩
  have hF : ∀ b' o, F' b' o → g.F b' o ∨ (b' = b ∨ W.heap.size ≤ b') := fun b' o hf => hf.imp _root_.id fun q => .inl q.1
  have hHI0 : HI Go.Proofs.Tryz.prog E g' (fun l' => if l' = l then none else L l') (bc B) W2 :=
    hA.h.goes (n := (· < n)) (g' := g') hg hK hF (fun _ _ => rfl) (fun i hi => hlow i hi)
      (fun l' e' h' => by
        split at h'
        · cases h'
        · rename_i hne'
          exact ⟨hLn _ _ h', h', fun b' hb' e => hne l' e' hne' h' (by rw [hb', e])⟩)
      (fun id cs hid => by
        obtain ⟨hid', _⟩ := bc_some hid
        exact ⟨(hA.boxLow id cs hid').1, hid, (hA.boxLow id cs hid').2, hboxb id cs hid⟩)
  have hown : OwnV Go.Proofs.Tryz.prog W2 F' (.slice (some ⟨b, 0, none⟩) (xs.length - 1) cap) ⟨79, 0⟩ := by
    refine .inr ⟨b, xs.length - 1, cap, cur2, (0, 0), rfl, c1, by omega, h5, by rw [cells79]; exact c2, fun o q => ?_, fun q => absurd (show (0 : Nat) = 1 from q) (by decide), .inl rfl, fun q => absurd (show (0 : Nat) = 2 from q) (by decide)⟩
    rcases q with q | ⟨_, q⟩
    · exact absurd q (h7 o)
    · rw [cells79]; exact q
  have hHI : HI Go.Proofs.Tryz.prog E g' ((⟨[l], [(n, ⟨79, 0⟩)], []⟩ : Eff).lv L) (bc B) W2 := {
    own := fun l' e' h' => by
      rcases hlv l' e' h' with ⟨rfl, rfl⟩ | ⟨q1, q2, q3⟩
      · rw [hωn]; exact hown
      · exact hHI0.own l' e' (by rw [if_neg q1]; exact q2)
    ownNe := fun l1 e1 l2 e2 h1' h2' hne' b' hb1 hb2 => by
      rcases hlv l1 e1 h1' with ⟨rfl, rfl⟩ | ⟨p1, p2, p3⟩ <;> rcases hlv l2 e2 h2' with ⟨rfl, rfl⟩ | ⟨q1, q2, q3⟩
      · exact hne' rfl
      · rw [hωn] at hb1; cases hb1
        rw [hlow _ q3] at hb2
        exact hne l2 e2 q1 q2 hb2
      · rw [hωn] at hb2; cases hb2
        rw [hlow _ p3] at hb1
        exact hne l1 e1 p1 p2 hb1
      · exact hHI0.ownNe l1 e1 l2 e2 (by rw [if_neg p1]; exact p2) (by rw [if_neg q1]; exact q2) hne' b' hb1 hb2
    ownMay := fun l' e' h' b' hb' => by
      rcases hlv l' e' h' with ⟨rfl, rfl⟩ | ⟨q1, q2, q3⟩
      · rw [hωn] at hb'; cases hb'; exact hmay
      · exact hHI0.ownMay l' e' (by rw [if_neg q1]; exact q2) b' hb'
    box := hHI0.box
    boxNe := hHI0.boxNe
    boxMay := hHI0.boxMay
    boxOwn := fun id cs l' e' hid h' => by
      rcases hlv l' e' h' with ⟨rfl, rfl⟩ | ⟨q1, q2, q3⟩
      · rw [hωn]; intro e; cases e; exact hboxb id cs hid rfl
      · exact hHI0.boxOwn id cs l' e' hid (by rw [if_neg q1]; exact q2) }
  have hHR : HR Go.Proofs.Tryz.prog g' ((⟨[l], [(n, ⟨79, 0⟩)], []⟩ : Eff).lv L) B W2 :=
    hA.r.goes (n := (· < n)) (g' := g') hA.h hg hK (fun i hi => hlow i hi) (fun id T' xs' e' k1 k2 k3 => by
      rcases hlv id e' k2 with ⟨rfl, rfl⟩ | ⟨q1, q2, q3⟩
      · cases k3
      · exact ⟨q3, k1, q2, fun b' hb' e => hne id e' q1 q2 (by rw [hb', e])⟩)
  have hWB : WB E F' W2 := hA.b.goes hg (fun b' e => e ▸ hmay) hK (fun b' o hf => hf.imp _root_.id fun q => ⟨.inl q.1, by rw [q.1]; exact Nat.lt_of_lt_of_le hlt hg.size⟩)
  have hz : RZ W2 g' (.slice (some ⟨b, 0, none⟩) (xs.length - 1) cap) (.one (.c (.own n T (xs.take i ++ xs.drop j)))) := ⟨hval, hωn⟩
  exact ⟨g', _, by simp [putD, setN], hA.step (dst := some 3) (g' := g') (n' := (· < n + 1)) (fun d hd => by cases hd; omega) (fun k hk => Nat.lt_succ_of_lt hk) hK (fun _ _ => rfl) (fun i hi => hlow i hi) hWB hHI hHR (fun l' e' h' => by
      rcases hlv l' e' h' with ⟨rfl, rfl⟩ | ⟨q1, q2, q3⟩
      · exact Nat.lt_succ_self _
      · exact Nat.lt_succ_of_lt q3) (fun id cs hid => ⟨Nat.lt_succ_of_lt (hA.boxLow id cs hid).1, fun z hz => Z1.below_mono (fun k hk => Nat.lt_succ_of_lt hk) ((hA.boxLow id cs hid).2 z hz)⟩) hz (Nat.lt_succ_self n)⟩
end Zed
namespace Zed
open Go
set_option maxRecDepth 100000
set_option linter.unusedVariables false
noncomputable def sipP (hp : Hp) (acc : List Prop) : Option (List V1) → Option (Z × Hp × List Prop)
  | some [.agg [.d (.int .u64 k0), .d (.int .u64 k1)], .c (.d (.sl (.slice (.int .u8)) parts))] => match SipF.f170_sip_Sum 1000 k0 k1 parts with
    | some r => some (.one (.c (.d (.int .u64 r))), hp, acc)
    | none => none
  | _ => none
theorem sipP_ok {hp : Hp} {acc : List Prop} {vs : List V1} {z : Z} {hp' : Hp} {acc' : List Prop} (h : sipP hp acc (datV vs) = some (z, hp', acc')) : acc' = acc ∧ FnW Go.Proofs.Tryz.prog 170 vs hp.L hp.B hp.nx z hp'.L hp'.B hp'.nx := by
  unfold sipP at h
  split at h
  · rename_i k0 k1 parts hd
    split at h
    · rename_i r hr
      cases h
      exact ⟨rfl, FnOK.pure (SipF.f170_sip_Sum_ok 1000 k0 k1 parts r hr) hd trivial⟩
    · cases h
  · cases h
noncomputable def delC (col : Bool) (acc : List Prop) (C : Prop) (d : Decidable C) (k : List Prop → Option (Z × Hp × List Prop)) : Option (Z × Hp × List Prop) := match col with
  | true => k (C :: acc)
  | false => match d with
    | .isTrue _ => k acc
    | .isFalse _ => none
noncomputable def delG (str col : Bool) (hp : Hp) (acc : List Prop) (l : Nat) (T : K) (i j : Int) : Option (List Z1) → Option (Z × Hp × List Prop)
  | some [.run T' xs] => if T = T' then delC col acc (0 ≤ i ∧ j = i + 1 ∧ i < xs.length) inferInstance fun acc =>
      (⟨.e, hp⟩ : Es).goK str none .no ⟨[l], [(hp.nx, ⟨79, 0⟩)], []⟩ 1 fun s => some (.one (.c (.own hp.nx T' (xs.take i.toNat ++ xs.drop j.toNat))), s.h, acc)
    else none
  | _ => none
noncomputable def delL (str col : Bool) (hp : Hp) (acc : List Prop) (l : Nat) (T : K) (i j : Int) : Option Ow → Option (Z × Hp × List Prop)
  | some ⟨79, 2⟩ => delG str col hp acc l T i j (hp.B l)
  | _ => none
noncomputable def delP (str col : Bool) (hp : Hp) (acc : List Prop) : List V1 → Option (Z × Hp × List Prop)
  | [.c (.row l T), .c (.d (.int .i64 i)), .c (.d (.int .i64 j))] => delL str col hp acc l T i j (hp.L l)
  | _ => none
theorem delP_ok {str col : Bool} {hp : Hp} {acc : List Prop} {vs : List V1} {z : Z} {hp' : Hp} {acc' : List Prop} (h : delP str col hp acc vs = some (z, hp', acc')) (hC : AllC acc') : AllC acc ∧ FnW Go.Proofs.Tryz.prog 66 vs hp.L hp.B hp.nx z hp'.L hp'.B hp'.nx := by
  unfold delP at h
  split at h
  case h_2 => cases h
  rename_i l T i j
  unfold delL at h
  split at h
  case h_2 => cases h
  rename_i hl
  unfold delG at h
  split at h
  case h_2 => cases h
  rename_i T' xs hb
  split at h
  case isFalse => cases h
  rename_i hT
  subst hT
  have main : ∀ acc1, (0 ≤ i ∧ j = i + 1 ∧ i < xs.length) → (⟨.e, hp⟩ : Es).goK str none .no ⟨[l], [(hp.nx, ⟨79, 0⟩)], []⟩ 1 (fun s => some (Z.one (.c (.own hp.nx T (xs.take i.toNat ++ xs.drop j.toNat))), s.h, acc1)) = some (z, hp', acc') → acc' = acc1 ∧ FnW Go.Proofs.Tryz.prog 66 [.c (.row l T), .c (.d (.int .i64 i)), .c (.d (.int .i64 j))] hp.L hp.B hp.nx z hp'.L hp'.B hp'.nx := by
    intro acc1 hc h
    obtain ⟨h0, h1, h2⟩ := hc
    obtain ⟨s', q1, q2, q3⟩ := Es.goK_spec h
    simp only [Option.some.injEq, Prod.mk.injEq] at q1
    obtain ⟨rfl, rfl, rfl⟩ := q1
    have hf := del_fn (T := T) (l := l) (i := i.toNat) (j := j.toNat) (n := hp.nx) (xs := xs) (L := hp.L) (B := hp.B) hl hb (by omega) (by omega)
    have e1 : s'.h.L = (⟨[l], [(hp.nx, ⟨79, 0⟩)], []⟩ : Eff).lv hp.L := congrArg S.live q2
    have e2 : s'.h.B = (⟨[l], [(hp.nx, ⟨79, 0⟩)], []⟩ : Eff).bv hp.B := congrArg S.bx q2
    have e3 : (⟨[l], [(hp.nx, ⟨79, 0⟩)], []⟩ : Eff).bv hp.B = hp.B := rfl
    have i1 : ((i.toNat : Nat) : Int) = i := by omega
    have i2 : ((j.toNat : Nat) : Int) = j := by omega
    rw [i1, i2] at hf
    rw [e1, e2, e3, q3]
    exact ⟨rfl, hf⟩
  unfold delC at h
  split at h
  · obtain ⟨e, _⟩ : ∃ e : acc' = _ :: acc, True := by
      obtain ⟨s', q1, _⟩ := Es.goK_spec h
      simp only [Option.some.injEq, Prod.mk.injEq] at q1
      exact ⟨q1.2.2.symm, trivial⟩
    subst e
    exact ⟨hC.2, (main _ hC.1 h).2⟩
  · split at h
    · rename_i hc _
      obtain ⟨e, hw⟩ := main _ hc h
      subst e
      exact ⟨hC, hw⟩
    · cases h
noncomputable def prim0 (str col : Bool) : EvT := fun f vs hp acc => match Nat.beq f 170 with
  | true => sipP hp acc (datV vs)
  | false => match Nat.beq f 66 with
    | true => delP str col hp acc vs
    | false => none
theorem sipP_fr {hp : Hp} {acc : List Prop} {vs : Option (List V1)} {z : Z} {hp' : Hp} {acc' : List Prop} (h : sipP hp acc vs = some (z, hp', acc')) : Fr hp hp' := by
  unfold sipP at h
  split at h
  · split at h
    · cases h; exact Fr.refl _
    · cases h
  · cases h
theorem delP_fr {str col : Bool} {hp : Hp} {acc : List Prop} {vs : List V1} {z : Z} {hp' : Hp} {acc' : List Prop} (h : delP str col hp acc vs = some (z, hp', acc')) : Fr hp hp' := by
  unfold delP at h
  split at h
  case h_2 => cases h
  unfold delL at h
  split at h
  case h_2 => cases h
  unfold delG at h
  split at h
  case h_2 => cases h
  split at h
  case isFalse => cases h
  unfold delC at h
  have go : ∀ {T : K} {xs : List T.den} {i j : Int} {l : Nat} {acc1 : List Prop}, (⟨.e, hp⟩ : Es).goK str none .no ⟨[l], [(hp.nx, ⟨79, 0⟩)], []⟩ 1 (fun s => some (Z.one (.c (.own hp.nx T (xs.take i.toNat ++ xs.drop j.toNat))), s.h, acc1)) = some (z, hp', acc') → Fr hp hp' := fun h => by
    obtain ⟨s', q1, q2⟩ := Es.goK_fr h
    simp only [Option.some.injEq, Prod.mk.injEq] at q1
    obtain ⟨_, rfl, _⟩ := q1
    exact q2
  split at h
  · exact go h
  · split at h
    · exact go h
    · cases h
theorem prim0_fr {str col : Bool} : EvFr (prim0 str col) := by
  intro f vs hp acc z hp' acc' h
  unfold prim0 at h
  split at h
  · exact sipP_fr h
  · split at h
    · exact delP_fr h
    · cases h
theorem prim0_ok {str col : Bool} : EvOK Go.Proofs.Tryz.prog (prim0 str col) := by
  refine ⟨prim0_fr, ?_⟩
  intro f vs hp acc z hp' acc' h hC
  unfold prim0 at h
  split at h
  · rename_i hf
    have hf := Nat.eq_of_beq_eq_true hf
    subst hf
    obtain ⟨rfl, hw⟩ := sipP_ok h
    exact ⟨hC, hw⟩
  · split at h
    · rename_i hf
      have hf := Nat.eq_of_beq_eq_true hf
      subst hf
      exact delP_ok h hC
    · cases h
end Zed
namespace Zed
open Go
set_option linter.unusedVariables false
set_option linter.unusedSimpArgs false
noncomputable def dfrCall (cf : Cfg) (ev : EvT) (gf : FuncId) (vs : List V1) (z : Z) (hp : Hp) (acc : List Prop) : Option Func → Option (Z × Hp × List Prop)
  | some fg => match fg.body with
    | some c => match fg.name == "runtime.NumGoroutine" with
      | false => argsK false vs 0 .e fun sl => match evalR cf ev gf fg 100000 (adm 1000 [.code c]) ⟨sl, hp⟩ acc with
        | some (_, hp, acc) => some (z, hp, acc)
        | none => none
      | true => none
    | none => none
  | none => none
noncomputable def dfrRest (cf : Cfg) (ev : EvT) (f : FuncId) (fn : Func) (k' : List Item) (s : Es) (acc : List Prop) : Option V1 → Option (List (Nat × Nat)) → Option (Z × Hp × List Prop)
  | some (.c (.fn gf [])), some ps => match evalR cf ev f fn 100000 (adm 1000 k') s acc with
    | some (z, hp, acc) => match allTmp fn.results.toList with
      | true => dfrCall cf ev gf (ps.map ptrV) z hp acc (cf.fns gf)
      | false => none
    | none => none
  | _, _ => none
noncomputable def dfrOp (cf : Cfg) (ev : EvT) (f : FuncId) (fn : Func) (id : Nat) (ops : Array Oper) (k' : List Item) (s : Es) (acc : List Prop) : Option Oper → Option (Z × Hp × List Prop)
  | some ⟨none, .defer ⟨.value fv, args, _⟩, _, _, _, none⟩ => match dstB fn.ntmps ops with
    | true => match seqE cf ev (cf.dir f id) ops 0 (ops.toList.take (ops.size - 1)) s acc with
      | some (s, acc) => dfrRest cf ev f fn k' s acc (s.den.ev fv) (ptrsZ s.den.ev args.toList)
      | none => none
    | false => none
  | _ => none
noncomputable def dfrAt (cf : Cfg) (ev : EvT) (f : FuncId) (fn : Func) : Option (List Item × Es × List Prop) → Option (Z × Hp × List Prop)
  | some (.code (.region id ops false) :: k', s, acc) => dfrOp cf ev f fn id ops k' s acc (ops[ops.size - 1]?)
  | _ => none
noncomputable def dfrF (cf : Cfg) (ev : EvT) (f : FuncId) (r : Nat) (vs : List V1) (hp : Hp) (acc : List Prop) : Option Func → Option (Z × Hp × List Prop)
  | some fn => match fn.body with
    | some c => argsK false vs 0 .e fun sl => dfrAt cf ev f fn (evalTo cf ev f fn r 100000 (adm 1000 [.code c]) ⟨sl, hp⟩ acc)
    | none => none
  | none => none
/-- A function whose region r ends in 'defer'. -/
noncomputable def dfrE (cf : Cfg) (ev : EvT) (f : FuncId) (r : Nat) (vs : List V1) (hp : Hp) (acc : List Prop) : Option (Z × Hp × List Prop) := dfrF cf ev f r vs hp acc (cf.fns f)
section
variable {cf : Cfg} {ev : EvT}
theorem argsK_slots {β : Type} {str : Bool} {vs : List V1} {c : Tr Z → Option β} {b : β} (h : argsK str vs 0 .e c = some b) : ∃ sl, c sl = some b ∧ ∀ t z, sl.get t = some z → ∃ v, vs[t]? = some v ∧ z = .one v := by
  obtain ⟨sl, h1, hsl⟩ := argsK_spec h
  refine ⟨sl, h1, fun t z hz => ?_⟩
  rw [hsl] at hz
  split at hz
  · obtain ⟨v, hv, rfl⟩ := omap hz
    exact ⟨v, by simpa using hv, rfl⟩
  · cases hz
theorem RunsW.adm {P : Program} {rs : Array ResultVar} {nt pk n : Nat} {k : List Item} {s : S} {z : Z} {L : Nat → Option Ow} {B : Nat → Option (List Z1)} {m : Nat} (h : RunsW P rs nt pk (Zed.adm n k) s z L B m) : RunsW P rs nt pk k s z L B m := by
  intro E g a W h1 h2 ha b cs
  obtain ⟨a', W', todo, q1, q2⟩ := h E g a W h1 h2 ha b cs
  exact ⟨a', W', todo, q1, (adm_steps n k).trans q2⟩
theorem stepR_fr (hev : EvFr ev) {f : FuncId} {fn : Func} {k k2 : List Item} {s s2 : Es} {acc acc2 : List Prop} (h : stepR cf ev f fn s acc k = some (k2, s2, acc2)) : Fr s.h s2.h := by
  unfold stepR at h
  split at h
  case h_2 => cases h
  split at h
  case h_2 => cases h
  unfold onR at h
  split at h
  case h_2 => cases h
  rename_i s1 acc1 hreg
  split at h
  case h_2 => cases h
  cases h
  exact regionE_fr hev hreg
theorem evalTo_fr (hev : EvFr ev) {f : FuncId} {fn : Func} {r : Nat} : ∀ {m : Nat} {k k2 : List Item} {s s2 : Es} {acc acc2 : List Prop}, evalTo cf ev f fn r m k s acc = some (k2, s2, acc2) → Fr s.h s2.h
  | 0, _, _, _, _, _, _, h => absurd (show none = some _ from h) (by simp)
  | m + 1, k, k2, s, s2, acc, acc2, h => by
    have h : toE r (fun k s acc => evalTo cf ev f fn r m k s acc) (stepR cf ev f fn s acc k) = some (k2, s2, acc2) := h
    unfold toE at h
    split at h
    case h_2 => cases h
    rename_i k1 s1 acc1 h1
    split at h
    · cases h
      exact stepR_fr hev h1
    · exact (stepR_fr hev h1).trans (evalTo_fr hev h)
theorem dfrE_fr (hev : EvFr ev) {f : FuncId} {r : Nat} {vs : List V1} {hp hp' : Hp} {acc acc' : List Prop} {z : Z} (h : dfrE cf ev f r vs hp acc = some (z, hp', acc')) : Fr hp hp' := by
  unfold dfrE dfrF at h
  split at h
  case h_2 => cases h
  split at h
  case h_2 => cases h
  obtain ⟨sl, h1⟩ := argsK_fr h
  unfold dfrAt at h1
  split at h1
  case h_2 => cases h1
  rename_i id ops k' s acc1 hto
  unfold dfrOp at h1
  split at h1
  case h_2 => cases h1
  split at h1
  case h_2 => cases h1
  split at h1
  case h_2 => cases h1
  rename_i s2 acc2 hseq
  unfold dfrRest at h1
  split at h1
  case h_2 => cases h1
  split at h1
  case h_2 => cases h1
  rename_i z3 hp3 acc3 hrest
  split at h1
  case h_2 => cases h1
  unfold dfrCall at h1
  split at h1
  case h_2 => cases h1
  split at h1
  case h_2 => cases h1
  split at h1
  case h_2 => cases h1
  obtain ⟨slg, h2⟩ := argsK_fr h1
  split at h2
  case h_2 => cases h2
  rename_i z4 hp4 acc4 hcall
  cases h2
  exact (evalTo_fr hev hto).trans ((seqE_fr hev hseq).trans ((evalR_fr hev hrest).trans (evalR_fr hev hcall)))
theorem dfrE_ok (hmix : cf.P.follows .mixedOrders = true) (ht : TabOk cf.P cf.tab) (hev : EvOK cf.P ev) (hfn : ∀ f fn, cf.fns f = some fn → cf.P.funcs[f]? = some fn ∧ (fn.name == "runtime.NumGoroutine") = false) {f : FuncId} {r : Nat} {vs : List V1} {hp hp' : Hp} {acc acc' : List Prop} {z : Z}
    (h : dfrE cf ev f r vs hp acc = some (z, hp', acc')) (hC : AllC acc') : AllC acc ∧ FnW cf.P f vs hp.L hp.B hp.nx z hp'.L hp'.B hp'.nx := by
  unfold dfrE dfrF at h
  split at h
  case h_2 => cases h
  rename_i fn hf
  split at h
  case h_2 => cases h
  rename_i c hb
  obtain ⟨hP, hname⟩ := hfn f fn hf
  obtain ⟨sl, h1, hsl⟩ := argsK_slots h
  unfold dfrAt at h1
  split at h1
  case h_2 => cases h1
  rename_i id ops k' s acc1 hto
  unfold dfrOp at h1
  split at h1
  case h_2 => cases h1
  rename_i fv args ats ty pos aft hd
  split at h1
  case h_2 => cases h1
  rename_i hnt
  split at h1
  case h_2 => cases h1
  rename_i s2 acc2 hseq
  unfold dfrRest at h1
  split at h1
  case h_2 => cases h1
  rename_i gf ps hfv hps
  split at h1
  case h_2 => cases h1
  rename_i z3 hp3 acc3 hrest
  split at h1
  case h_2 => cases h1
  rename_i hall
  unfold dfrCall at h1
  split at h1
  case h_2 => cases h1
  rename_i fg hg
  split at h1
  case h_2 => cases h1
  rename_i cg hbg
  split at h1
  case h_2 => cases h1
  obtain ⟨hPg, hnameg⟩ := hfn gf fg hg
  obtain ⟨slg, h2, hslg⟩ := argsK_slots h1
  split at h2
  case h_2 => cases h2
  rename_i z4 hp4 acc4 hcall
  cases h2
  obtain ⟨c3, qcall⟩ := evalR_ok (pk := hp3.nx) hmix ht hev hcall hC
  obtain ⟨c2, qrest⟩ := evalR_ok (pk := s2.h.nx) hmix ht hev hrest c3
  have hsize : ops.size = (ops.size - 1) + 1 := by
    have := (Array.getElem?_eq_some_iff.1 hd).1; omega
  have hlen : (ops.toList.take (ops.size - 1)).length = ops.size - 1 := by rw [List.length_take, Array.length_toList]; omega
  obtain ⟨c1, qseq⟩ := seqE_ok2 ht hev hseq (fun k hk => by
    rw [hlen] at hk
    rw [Nat.zero_add, List.getElem?_take, if_pos hk, Array.getElem?_toList]) c2
  obtain ⟨c0, qto⟩ := evalTo_ok (pk := hp.nx) hmix ht hev hto c1
  refine ⟨c0, ?_⟩
  rw [hlen] at qseq
  have hd2 := RunsW.dfr (P := cf.P) (rs := fn.results) (nt := fn.ntmps) (pk := hp.nx) (id := id) (ops := ops) (k' := k') (s := s.den) (s2 := s2.den) (z := z) (n2 := s2.h.nx) hsize hd rfl rfl rfl hnt qseq rfl hfv hps (RunsW.adm qrest) hall hPg hnameg hbg hslg qcall
  exact FnW.of_runs hP hname hb (fun t z hz => hsl t z hz) (qto.runs hd2)
end
end Zed
namespace Zed
open Go
set_option maxRecDepth 100000
noncomputable def dirW (f r o : Nat) : Option Dir := match f, r, o with
  | 238, _, _ => some .hd
  | 218, 3, 7 => some .row
  | 284, 7, 3 => some .row
  | 67, 3, 0 => some .row
  | 216, 2, _ => some .fin
  | 265, 27, _ => some .fin
  | 265, 28, _ => some .fin
  | 288, 6, _ => some .fin
  | 298, 1, _ => some .fin
  | 92, 9, _ => some .fin
  | 263, 3, _ => some .finV
  | _, _, _ => none
noncomputable def cfW : Cfg := ⟨Go.Proofs.Tryz.prog, tabG, fnsOf Go.Proofs.Tryz.prog, dirW, prim0 true false, true⟩
noncomputable def prim1 : EvT := fun f vs hp acc => match Nat.beq f 22 || Nat.beq f 24 with
  | true => dfrE cfW (evalF cfW 40) f 4 vs hp acc
  | false => prim0 true false f vs hp acc
noncomputable def cfV : Cfg := { cfW with prim := prim1 }
end Zed
