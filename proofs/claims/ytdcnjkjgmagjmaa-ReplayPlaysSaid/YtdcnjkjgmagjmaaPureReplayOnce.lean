/- ReplayOnce: no number is let through twice; each that is above all ahead of it is let through: of the functions that text F41 prints. Conditions: none. -/
import Derived.Test.YtdcnjkjgmagjmaaPureReplay
namespace Go.Proofs.YtdcnjkjgmagjmaaF41
open Go Zed
set_option linter.unusedVariables false
set_option linter.unusedSimpArgs false

theorem alive_at (m : Nat) : f27_broughamlaw41_alive (m + 300) = some true := by kernel_rfl
theorem alive_ev : Ev (fun n => f27_broughamlaw41_alive n) (fun r => r = true) := Ev.at 300 alive_at rfl
theorem nx {i : Nat} (h : i < 140737488355328) : IntKind.wrap .i64 ((i : Int) + 1) = ((i + 1 : Nat) : Int) := by rw [i64_id] <;> omega

theorem aboveLoop (l thr : List Int) (i : Nat) (hi : i < l.length) (hl : l.length ≤ 300) (w0 : Bool) (w1 w2 w3 w4 w5 : Int) : ∀ (d k : Nat), k + d = i → ∀ (ab : Bool),
    Ev (fun n => f7_broughamlaw41_ReplayOnce_L10 n l thr (i : Int) ab (k : Int) w0 w1 w2 w3 w4 w5) (fun r => ∃ b, r = (l, thr, (i : Int), b, w0, w1, w2, w3, w4, w5) ∧ (b = true → ab = true ∧ ∀ j, k ≤ j → j < i → l.getD j 0 < l.getD i 0))
  | 0, k, hk, ab => by
    apply Ev.succ
    simp only [f7_broughamlaw41_ReplayOnce_L10]
    exact Ev.neg (by simp; omega) (Ev.some ⟨ab, rfl, fun h => ⟨h, fun j h1 h2 => by omega⟩⟩)
  | d + 1, k, hk, ab => by
    apply Ev.succ
    simp only [f7_broughamlaw41_ReplayOnce_L10]
    rw [nx (by omega)]
    refine Ev.pos (by simp; omega) (Ev.ite (fun h => ?_) fun h => ?_)
    · refine Ev.guard (by omega) (Ev.guard (by omega) ?_)
      rw [Int.toNat_natCast, Int.toNat_natCast]
      refine (aboveLoop l thr i hi hl w0 w1 w2 w3 w4 w5 d (k + 1) (by omega) _).mono ?_
      rintro _ ⟨b, rfl, hb⟩
      refine ⟨b, rfl, fun hbt => ⟨h, fun j h1 h2 => ?_⟩⟩
      obtain ⟨q1, q2⟩ := hb hbt
      by_cases hj : j = k
      · subst hj; exact of_decide_eq_true q1
      · exact q2 j (by omega) h2
    · refine (aboveLoop l thr i hi hl w0 w1 w2 w3 w4 w5 d (k + 1) (by omega) _).mono ?_
      rintro _ ⟨b, rfl, hb⟩
      refine ⟨b, rfl, fun hbt => ?_⟩
      have := (hb hbt).1
      cases this

theorem thrLoop (l S : List Int) (i : Nat) (hi : i < l.length) (hl : l.length ≤ 300) (hS : S.length ≤ 300) (hn : l.getD i 0 ∉ S) (w0 : Bool) (w1 w2 w3 w4 w5 : Int) : ∀ (d k : Nat), k + d = S.length →
    Ev (fun n => f7_broughamlaw41_ReplayOnce_L18 n l S (i : Int) (k : Int) w0 w1 w2 w3 w4 w5) (fun r => r = .inr (l, S, (i : Int), w0, w1, w2, w3, w4, w5))
  | 0, k, hk => by
    apply Ev.succ
    simp only [f7_broughamlaw41_ReplayOnce_L18]
    exact Ev.neg (by simp; omega) (Ev.some rfl)
  | d + 1, k, hk => by
    apply Ev.succ
    simp only [f7_broughamlaw41_ReplayOnce_L18]
    rw [nx (by omega), Int.toNat_natCast, Int.toNat_natCast]
    have hne : S.getD k 0 ≠ l.getD i 0 := fun e => hn (e ▸ getD_mem (show k < S.length by omega) 0)
    exact Ev.pos (by simp; omega) (Ev.guard (by omega) (Ev.guard (by omega) (Ev.neg (by simpa using hne) (thrLoop l S i hi hl hS hn w0 w1 w2 w3 w4 w5 d (k + 1) (by omega)))))

theorem onceLoop (l : List Int) (hl : l.length ≤ 300) (hr : ∀ x ∈ l, 0 ≤ x ∧ x < 18446744073709551616) : ∀ (d i : Nat), i + d = l.length → ∀ (S : List Int) (any : Bool) (top : Nat) (w : Ws), J S any top w → S.length ≤ i → (∀ s ∈ S, s ∈ l.take i) →
    Ev (fun n => f7_broughamlaw41_ReplayOnce_L6 n l S (i : Int) any (top : Int) w.1 w.2.1 w.2.2.1 w.2.2.2) (fun r => r = .inr ())
  | 0, i, hi, S, any, top, w, hJ, hSl, hS => by
    apply Ev.succ
    simp only [f7_broughamlaw41_ReplayOnce_L6]
    exact Ev.neg (by simp; omega) (Ev.some rfl)
  | d + 1, i, hi, S, any, top, w, hJ, hSl, hS => by
    have hlt : i < l.length := by omega
    have hx := hr _ (getD_mem hlt 0)
    apply Ev.succ
    simp only [f7_broughamlaw41_ReplayOnce_L6]
    refine Ev.pos (by simp; omega) ?_
    refine Ev.bind (aboveLoop l S i hlt hl any (top : Int) w.1 w.2.1 w.2.2.1 w.2.2.2 i 0 (by omega) true) ?_
    rintro _ ⟨ab, rfl, hab⟩
    dsimp only
    rw [Int.toNat_natCast, nx (by omega)]
    refine Ev.guard (by omega) ?_
    obtain ⟨any', top', w', hJ', hev⟩ := take_is hJ hx
    refine Ev.bind hev ?_
    rintro _ rfl
    dsimp only
    have hsub : ∀ s ∈ l.take i, s ∈ l.take (i + 1) := fun s hs => by
      rw [List.take_succ_eq_append_getElem hlt]; exact List.mem_append_left _ hs
    -- behind a number that is not let through
    have no : fresh S any top (l.getD i 0) ≠ true → Ev (fun n => f7_broughamlaw41_ReplayOnce_L6 n l S ((i + 1 : Nat) : Int) any' (top' : Int) w'.1 w'.2.1 w'.2.2.1 w'.2.2.2) (fun r => r = .inr ()) := by
      intro hf
      rw [if_neg hf] at hJ'
      exact onceLoop l hl hr d (i + 1) (by omega) S any' top' w' hJ' (by omega) (fun s hs => hsub s (hS s hs))
    -- and behind one that is
    have yes : fresh S any top (l.getD i 0) = true → Ev (fun n =>
          (f7_broughamlaw41_ReplayOnce_L18 n l S (i : Int) 0 any' (top' : Int) w'.1 w'.2.1 w'.2.2.1 w'.2.2.2).bind fun w90 =>
            match w90 with
            | .inl e91 =>
              some (.inl e91)
            | .inr e92 =>
              if (0 : Int) ≤ e92.2.2.1 ∧ e92.2.2.1 < (((e92.1).length : Nat) : Int) then
              if e92.2.1.length + [(e92.1.getD e92.2.2.1.toNat 0)].length ≤ maxLen ∧ (e92.2.1.length + [(e92.1.getD e92.2.2.1.toNat 0)].length) * 8 ≤ 140737488355328 then
              f7_broughamlaw41_ReplayOnce_L6 n e92.1 (e92.2.1 ++ [(e92.1.getD e92.2.2.1.toNat 0)]) (IntKind.wrap .i64 (e92.2.2.1 + 1)) e92.2.2.2.1 e92.2.2.2.2.1 e92.2.2.2.2.2.1 e92.2.2.2.2.2.2.1 e92.2.2.2.2.2.2.2.1 e92.2.2.2.2.2.2.2.2
              else none
              else none) (fun r => r = (.inr () : Bool ⊕ Unit)) := by
      intro hf
      rw [if_pos hf] at hJ'
      have hn : l.getD i 0 ∉ S := by
        intro hin
        unfold fresh at hf
        cases any with
        | false => rw [(hJ.none rfl).1] at hin; cases hin
        | true =>
          have := (hJ.le _ hin).2
          simp only [Bool.not_true, Bool.false_or, hin, decide_true, Bool.and_false, Bool.or_false, decide_eq_true_eq] at hf
          omega
      refine Ev.bind (thrLoop l S i hlt hl (by omega) hn any' (top' : Int) w'.1 w'.2.1 w'.2.2.1 w'.2.2.2 S.length 0 (by omega)) ?_
      rintro _ rfl
      dsimp only
      rw [Int.toNat_natCast, nx (by omega)]
      refine Ev.guard (by omega) (Ev.guard (by simp only [List.length_singleton, maxLen]; omega) ?_)
      refine onceLoop l hl hr d (i + 1) (by omega) _ any' top' w' hJ' (by simp; omega) (fun s hs => ?_)
      rcases List.mem_append.1 hs with hs | hs
      · exact hsub s (hS s hs)
      · rw [List.take_succ_eq_append_getElem hlt]
        refine List.mem_append_right _ ?_
        simp only [List.mem_singleton] at hs ⊢
        rw [hs]; simp [List.getD, List.getElem?_eq_getElem hlt]
    refine Ev.ite (fun h1 => ?_) fun h1 => ?_
    · -- above all ahead of it: it is let through
      have hab2 := (hab h1).2
      have hf : fresh S any top (l.getD i 0) = true := by
        unfold fresh
        cases any with
        | false => rfl
        | true =>
          have hin := hS _ (hJ.mem rfl)
          obtain ⟨j, hj, hje⟩ := List.mem_iff_getElem.1 hin
          have hj2 : j < i := by simp at hj; omega
          have := hab2 j (by omega) hj2
          rw [List.getElem_take] at hje
          have e : l.getD j 0 = (top : Int) := by simp [List.getD, List.getElem?_eq_getElem (show j < l.length by omega), hje]
          rw [e] at this
          rw [decide_eq_true (show l.getD i 0 > (top : Int) by omega)]; rfl
      rw [hf]
      exact Ev.neg (by simp) (Ev.neg (by simp) (yes hf))
    · by_cases hf : fresh S any top (l.getD i 0) = true
      · rw [hf]
        exact Ev.neg (by simp) (yes hf)
      · have hf2 : fresh S any top (l.getD i 0) = false := by simpa using hf
        rw [hf2]
        exact Ev.pos rfl (no hf)

theorem j_zero : J [] false 0 (0, 0, 0, 0) := ⟨fun _ => ⟨rfl, rfl⟩, fun h => (by cases h), fun s hs => (by cases hs), by decide, _, rep_zero, fun h => (by cases h)⟩
theorem ReplayOnce (l : List Int) (h0 : K.ok (.slice (.int .u64)) l) : ∃ n, f7_broughamlaw41_ReplayOnce n l = some true := by
  apply Ev.true
  unfold f7_broughamlaw41_ReplayOnce
  refine Ev.ite (fun _ => Ev.some rfl) fun a => ?_
  simp only [decide_eq_true_eq] at a
  refine Ev.bind (onceLoop l (by omega) (fun x hx => ok_u64 (h0.2 x hx)) l.length 0 (by omega) [] false 0 (0, 0, 0, 0) j_zero (by simp) (fun s hs => by cases hs)) ?_
  rintro _ rfl
  exact Ev.bind alive_ev (fun r hr => Ev.some hr)
end Go.Proofs.YtdcnjkjgmagjmaaF41
