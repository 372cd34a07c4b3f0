/- MacCovers: of two that cover the same the header, the kind, the body and the data are the same: of the functions that text F10 prints. Conditions: none. -/
import Derived.Test.YtddglebabaaghaaPureMac10
namespace Go.Proofs.YtddglebabaaghaaF10
open Go Zed
set_option linter.unusedVariables false
set_option linter.unusedSimpArgs false

def aliveBody : List Int := dataB false false 7 0 0 (tag 1 2 ⟨5, 0, 0, 0, 0, [120]⟩ 3 (dataB false false 7 0 0 0))
theorem seal_data (a c : Int) (s : Seg) (h : s.ok) (s5 : List O) (x0 x1 : Bool) (x2 x3 x4 x5 : Int) (h2 : U64 x2) (h3 : U64 x3) (h4 : U32 x4) (h5 : U64 x5) :
    Ev (fun n => f63_mac_Data n a c s.s0 s.s1 s.s2 s.s3 s.s4 s5 s.s6 x0 x1 x2 x3 x4 x5) (fun r => r = (3, dataB x0 x1 x2 x3 x4 (tag a c s 3 (dataB x0 x1 x2 x3 x4 x5)))) := by
  have hlen : (dataB x0 x1 x2 x3 x4 x5).length = 29 := by simp [dataB, be_len]
  simp only [f63_mac_Data]
  refine Ev.bind (data_is _ _ _ _ _ _ h2 h3 h4 h5) ?_
  rintro _ rfl
  refine Ev.bind (tag_is a c s h s5 3 (dataB x0 x1 x2 x3 x4 x5) (by decide) (by omega)) ?_
  rintro _ rfl
  simp only [f72_opt_Tagged_Seal, Option.bind_some]
  refine Ev.bind (data_is _ _ _ _ _ _ h2 h3 h4 (tag_in a c s 3 _)) ?_
  rintro _ rfl
  exact Ev.some rfl
def open_ (a c : Int) (s : Seg) (s5 : List O) : Bool × Bool × Bool × Int × Int × Int × Int :=
  match one 3 s5 with
  | (true, k, b) => match pdata k b with
    | (true, x0, x1, x2, x3, x4, x5) => if tag a c s k b = x5 then (true, x0, x1, x2, x3, x4, x5) else (false, false, false, 0, 0, 0, 0)
    | _ => (false, false, false, 0, 0, 0, 0)
  | _ => (false, false, false, 0, 0, 0, 0)
def Opts (l : List O) : Prop := l.length ≤ 1000 ∧ ∀ o ∈ l, U8 o.1 ∧ Bytes o.2 ∧ o.2.length ≤ 400
theorem one_mem {k : Int} {l : List O} {o : O} (h : one k l = (true, o.1, o.2)) : o ∈ l ∧ o.1 = k := by
  unfold one at h
  split at h
  · rename_i p hp
    simp only [Prod.mk.injEq, true_and] at h
    have : p = o := by obtain ⟨p1, p2⟩ := p; obtain ⟨o1, o2⟩ := o; simp at h; simp [h]
    subst this
    have hm : p ∈ flt k l := by rw [hp]; exact List.mem_singleton.2 rfl
    have := List.mem_filter.1 hm
    exact ⟨this.1, by simpa using this.2⟩
  · simp at h
theorem open_is (a c : Int) (s : Seg) (h : s.ok) (s5 : List O) (h5 : Opts s5) : Ev (fun n => f58_mac_Open n a c s.s0 s.s1 s.s2 s.s3 s.s4 s5 s.s6) (fun r => r = open_ a c s s5) := by
  simp only [f58_mac_Open]
  refine Ev.bind (one_is _ _ _ _ _ _ _ _ h5.1) ?_
  rintro _ rfl
  unfold open_
  rcases ho : one 3 s5 with ⟨_ | _, k, b⟩
  · exact Ev.pos rfl (Ev.some rfl)
  · obtain ⟨hm, hk⟩ := one_mem (o := (k, b)) ho
    obtain ⟨h1, h2, h3⟩ := h5.2 _ hm
    refine Ev.neg (by simp) (Ev.bind (pdata_is k b h2 h3) ?_)
    rintro _ rfl
    dsimp only
    rcases hp : pdata k b with ⟨_ | _, x0, x1, x2, x3, x4, x5⟩
    · exact Ev.pos rfl (Ev.some rfl)
    · refine Ev.neg (by simp) (Ev.bind (right_is a c s h s5 k b x5 h1 h3) ?_)
      rintro _ rfl
      dsimp only
      by_cases ht : tag a c s k b = x5
      · rw [if_pos ht]; exact Ev.neg (by simp [ht]) (Ev.some rfl)
      · rw [if_neg ht]; exact Ev.pos (by simp [ht]) (Ev.some rfl)

theorem segOf_is (s : Seg) (s5 l : List O) (hl : l.length ≤ 1000) : f55_seg_Of s.s0 s.s1 s.s2 s.s3 s.s4 s5 s.s6 l = some (s.s0, s.s1, s.s2, s.s3, s.s4, l, s.s6) := by
  unfold f55_seg_Of; rw [if_pos (by simp [maxLen]; omega)]

def aSeg : Seg := ⟨5, 0, 0, 0, 0, [120]⟩
theorem aSeg_ok : aSeg.ok := ⟨by decide, by decide, by decide, by decide, by decide, Bytes.cons (by decide) Bytes.nil, by decide⟩
theorem dataB_bytes (x0 x1 : Bool) (x2 x3 x4 x5 : Int) : Bytes (dataB x0 x1 x2 x3 x4 x5) := by
  unfold dataB
  exact ((((Bytes.cons (dbit_in x0 x1) Bytes.nil).append (be_bytes 8 _)).append (be_bytes 8 _)).append (be_bytes 4 _)).append (be_bytes 8 _)
theorem alive_is : Ev (fun n => f57_broughamlaw10_alive n) (fun r => r = true) := by
  simp only [f57_broughamlaw10_alive]
  have hd : Ev (fun n => f63_mac_Data n 1 2 5 0 0 0 0 [] [120] false false 7 0 0 0) (fun r => r = (3, dataB false false 7 0 0 (tag 1 2 aSeg 3 (dataB false false 7 0 0 0)))) := seal_data 1 2 aSeg aSeg_ok [] false false 7 0 0 0 (by decide) (by decide) (by decide) (by decide)
  have hopt : Opts [(3, dataB false false 7 0 0 (tag 1 2 aSeg 3 (dataB false false 7 0 0 0)))] := ⟨by simp, fun o ho => by
    simp at ho; subst ho
    exact ⟨by decide, dataB_bytes _ _ _ _ _ _, by simp [dataB, be_len]⟩⟩
  have hO : ∀ k, Ev (fun n => f58_mac_Open n 1 k 5 0 0 0 0 [(3, dataB false false 7 0 0 (tag 1 2 aSeg 3 (dataB false false 7 0 0 0)))] [120]) (fun r => r = open_ 1 k aSeg [(3, dataB false false 7 0 0 (tag 1 2 aSeg 3 (dataB false false 7 0 0 0)))]) := fun k => open_is 1 k aSeg aSeg_ok _ hopt
  have hS : ∀ o : O, f55_seg_Of 5 0 0 0 0 [] [120] [o] = some (5, 0, 0, 0, 0, [o], [120]) := fun o => segOf_is aSeg [] [o] (by simp)
  refine Ev.bind hd ?_
  rintro _ rfl
  refine Ev.bind (P := fun r => r = _) (Ev.of (hS _) rfl) ?_
  rintro _ rfl
  refine Ev.bind (hO 2) ?_
  intro w hw
  refine Ev.bind hd ?_
  rintro _ rfl
  refine Ev.bind (P := fun r => r = _) (Ev.of (hS _) rfl) ?_
  rintro _ rfl
  refine Ev.bind (hO 3) ?_
  intro v hv
  have e1 : w.1 = true ∧ w.2.2.2.1 = 7 := by rw [hw]; decide +kernel
  have e2 : v.1 = false := by rw [hv]; decide +kernel
  exact Ev.pos e1.1 (Ev.pos (by simp [e1.2]) (Ev.some (by simp [e2])))

theorem MacCovers (s : Int × Int × Int × Int × Int × List (Int × List Int) × List Int) (h0 : K.ok (.pair (.int .u16) (.pair (.int .u16) (.pair (.int .u32) (.pair (.int .u32) (.pair (.int .u8) (.pair (.slice (.pair (.int .u8) (.slice (.int .u8)))) (.slice (.int .u8)))))))) s)
    (t : Int × Int × Int × Int × Int × List (Int × List Int) × List Int) (h1 : K.ok (.pair (.int .u16) (.pair (.int .u16) (.pair (.int .u32) (.pair (.int .u32) (.pair (.int .u8) (.pair (.slice (.pair (.int .u8) (.slice (.int .u8)))) (.slice (.int .u8)))))))) t)
    (o : (Int × List Int) × (Int × List Int)) (h2 : K.ok (.pair (.pair (.int .u8) (.slice (.int .u8))) (.pair (.int .u8) (.slice (.int .u8)))) o) :
    ∃ n, f11_broughamlaw10_MacCovers n s.1 s.2.1 s.2.2.1 s.2.2.2.1 s.2.2.2.2.1 s.2.2.2.2.2.1 s.2.2.2.2.2.2 t.1 t.2.1 t.2.2.1 t.2.2.2.1 t.2.2.2.2.1 t.2.2.2.2.2.1 t.2.2.2.2.2.2 o.1.1 o.1.2 o.2.1 o.2.2 = some true := by
  obtain ⟨s0, s1, s2, s3, s4, s5, s6⟩ := s
  obtain ⟨t0, t1, t2, t3, t4, t5, t6⟩ := t
  obtain ⟨⟨k, b⟩, ⟨m, c⟩⟩ := o
  obtain ⟨a0, a1, a2, a3, a4, _, a6⟩ := h0
  obtain ⟨b0, b1, b2, b3, b4, _, b6⟩ := h1
  obtain ⟨⟨hk, hb⟩, ⟨hm, hc⟩⟩ := h2
  have hb := ok_bytes hb; have hc := ok_bytes hc
  apply Ev.true
  simp only [f11_broughamlaw10_MacCovers]
  refine Ev.ite (fun _ => Ev.some rfl) fun q1 => Ev.ite (fun _ => Ev.some rfl) fun q2 => Ev.ite (fun _ => Ev.some rfl) fun q3 => Ev.ite (fun _ => Ev.some rfl) fun q4 => Ev.ite (fun _ => Ev.some rfl) fun q5 => Ev.ite (fun _ => Ev.some rfl) fun q6 => ?_
  simp only [gt_iff_lt, decide_eq_true_eq] at q1 q2 q3 q4 q5 q6
  have hs : (Seg.mk s0 s1 s2 s3 s4 s6).ok := ⟨ok_u16 a0, ok_u16 a1, ok_u32 a2, ok_u32 a3, ok_u8 a4, ok_bytes a6, by show s6.length ≤ 2000; omega⟩
  have ht : (Seg.mk t0 t1 t2 t3 t4 t6).ok := ⟨ok_u16 b0, ok_u16 b1, ok_u32 b2, ok_u32 b3, ok_u8 b4, ok_bytes b6, by show t6.length ≤ 2000; omega⟩
  have hinj := cover_inj _ _ hs ht k m b c (by omega) (by omega)
  have leaf : ∀ X : Bool, X = decide (cover (Seg.mk s0 s1 s2 s3 s4 s6) k b = cover (Seg.mk t0 t1 t2 t3 t4 t6) m c) → Ev (fun n => (f56_mac_Cover n s0 s1 s2 s3 s4 s5 s6 k b).bind fun r => (f56_mac_Cover n t0 t1 t2 t3 t4 t5 t6 m c).bind fun r' => if (((strOfNums r).toList == (strOfNums r').toList) == X) = true then (f57_broughamlaw10_alive n).bind fun r2 => some r2 else some false) (fun r => r = true) := by
    intro X hX
    refine Ev.bind (cover_is _ hs s5 k b (ok_u8 hk) (by omega)) ?_
    rintro _ rfl
    refine Ev.bind (cover_is _ ht t5 m c (ok_u8 hm) (by omega)) ?_
    rintro _ rfl
    refine Ev.pos ?_ (Ev.bind alive_is (fun r hr => Ev.some hr))
    rw [str_eq (cover_bytes _ hs k b (ok_u8 hk) hb) (cover_bytes _ ht m c (ok_u8 hm) hc), hX, beq_self_eq_true]
  have g1 : cutOk b.length none (some (IntKind.wrap .i64 ((b.length : Int) - 8))) none := by rw [i64_id (by omega) (by omega)]; simp [cutOk]; omega
  have g2 : cutOk c.length none (some (IntKind.wrap .i64 ((c.length : Int) - 8))) none := by rw [i64_id (by omega) (by omega)]; simp [cutOk]; omega
  have e1 : (IntKind.wrap .i64 ((b.length : Int) - 8)).toNat = b.length - 8 := by rw [i64_id (by omega) (by omega)]; omega
  have e2 : (IntKind.wrap .i64 ((c.length : Int) - 8)).toNat = c.length - 8 := by rw [i64_id (by omega) (by omega)]; omega
  have no : ¬ (s0 = t0 ∧ s1 = t1 ∧ s2 = t2 ∧ s3 = t3 ∧ s4 = t4 ∧ k = m ∧ b.take (b.length - 8) = c.take (c.length - 8)) → false = decide (cover (Seg.mk s0 s1 s2 s3 s4 s6) k b = cover (Seg.mk t0 t1 t2 t3 t4 t6) m c) := by
    intro h
    rw [eq_comm, decide_eq_false_iff_not, hinj]
    rintro ⟨x0, x1, x2, x3, x4, x5, x6, _⟩
    exact h ⟨x0, x1, x2, x3, x4, x5, x6⟩
  rw [e1, e2]
  simp only [if_pos g1, if_pos g2]
  refine Ev.ite (fun c0 => Ev.ite (fun c1 => Ev.ite (fun c2 => Ev.ite (fun c3 => Ev.ite (fun c5 => Ev.ite (fun c4 => Ev.ite (fun c6 => leaf _ ?_) (fun c6 => leaf _ (no ?_))) (fun c4 => leaf _ (no ?_))) (fun c5 => Ev.ite (fun c4 => leaf _ (no ?_)) (fun c4 => leaf _ (no ?_)))) (fun c3 => Ev.ite (fun c5 => leaf _ (no ?_)) (fun c5 => leaf _ (no ?_)))) (fun c2 => Ev.ite (fun c5 => leaf _ (no ?_)) (fun c5 => leaf _ (no ?_)))) (fun c1 => Ev.ite (fun c5 => leaf _ (no ?_)) (fun c5 => leaf _ (no ?_)))) (fun c0 => Ev.ite (fun c5 => leaf _ (no ?_)) (fun c5 => leaf _ (no ?_)))
  · rw [str_eq (ok_bytes a6) (ok_bytes b6)]
    rw [str_eq (hb.take _) (hc.take _)] at c6
    simp only [beq_iff_eq] at c0 c1 c2 c3 c4 c5
    have c6 := of_decide_eq_true c6
    by_cases h6 : s6 = t6
    · rw [decide_eq_true h6, eq_comm, decide_eq_true_eq, hinj]
      exact ⟨c0, c1, c2, c3, c4, c5, c6, h6⟩
    · rw [decide_eq_false h6, eq_comm, decide_eq_false_iff_not, hinj]
      rintro ⟨_, _, _, _, _, _, _, x⟩
      exact h6 x
  · rw [str_eq (hb.take _) (hc.take _)] at c6
    have c6 : ¬ b.take (b.length - 8) = c.take (c.length - 8) := by simpa using c6
    exact fun h => c6 h.2.2.2.2.2.2
  · exact fun h => c4 (by simpa using h.2.2.2.2.1)
  · exact fun h => c5 (by simpa using h.2.2.2.2.2.1)
  · exact fun h => c5 (by simpa using h.2.2.2.2.2.1)
  · exact fun h => c3 (by simpa using h.2.2.2.1)
  · exact fun h => c3 (by simpa using h.2.2.2.1)
  · exact fun h => c2 (by simpa using h.2.2.1)
  · exact fun h => c2 (by simpa using h.2.2.1)
  · exact fun h => c1 (by simpa using h.2.1)
  · exact fun h => c1 (by simpa using h.2.1)
  · exact fun h => c0 (by simpa using h.1)
  · exact fun h => c0 (by simpa using h.1)
end Go.Proofs.YtddglebabaaghaaF10
