/- SackBack: pieces that may be said are read as they were; an option that is read is written as it was: of the functions that text F31 prints. Conditions: none. -/
import Derived.Test.YtjoibacjpapncaaPureSackSays
namespace Go.Proofs.YtjoibacjpapncaaF31
open Go Zed
set_option linter.unusedVariables false
set_option linter.unusedSimpArgs false

theorem body_bytes : ∀ (l : Bl) (last : Int), Bytes (bodyOf last l)
  | [], _ => Bytes.nil
  | p :: l, last => (be_bytes _ _).append ((be_bytes _ _).append (body_bytes l p.2))
theorem take4 (u : Int) (r : List Int) : (be 4 u ++ r).take 4 = be 4 u := by
  have hl := be_len 4 u
  rw [List.take_append_of_le_length (by omega), List.take_of_length_le (by omega)]
theorem drop4 (u : Int) (r : List Int) : (be 4 u ++ r).drop 4 = r := by
  have := List.drop_left (l₁ := be 4 u) (l₂ := r)
  rwa [be_len] at this
theorem rd_body : ∀ (l : Bl) (last : Int), Nums l → U32 last → rd l.length last (bodyOf last l) = l
  | [], _, _, _ => rfl
  | p :: l, last, hn, hlast => by
    have hp := hn p List.mem_cons_self
    rw [List.length_cons, rd, bodyOf]
    have e8 : ∀ (a b c : List Int), a.length = 4 → b.length = 4 → (a ++ (b ++ c)).drop 8 = c := fun a b c h1 h2 => by
      rw [← List.append_assoc]
      have := List.drop_left (l₁ := a ++ b) (l₂ := c)
      rwa [List.length_append, h1, h2] at this
    rw [take4, drop4, take4, e8 _ _ _ (be_len _ _) (be_len _ _), num_be 4 _ (by omega) (by rw [p4]; omega), num_be 4 _ (by omega) (by rw [p4]; omega)]
    have e1 : (last + (p.1 - last) % 4294967296) % 4294967296 = p.1 := by omega
    have e2 : (p.1 + (p.2 - p.1) % 4294967296) % 4294967296 = p.2 := by omega
    rw [e1, e2, rd_body l p.2 (fun q hq => hn q (List.mem_cons_of_mem _ hq)) hp.2]
theorem body_rd : ∀ (k : Nat) (last : Int) (b : List Int), Bytes b → b.length = 8 * k → U32 last → bodyOf last (rd k last b) = b
  | 0, last, b, _, hl, _ => (List.length_eq_zero_iff.1 (by omega)).symm
  | k + 1, last, b, hb, hl, hlast => by
    have h1 := num_take hb (s := 4) (by omega) (by omega)
    have h2 := num_take (hb.drop 4) (s := 4) (by omega) (by simp only [List.length_drop]; omega)
    rw [p4] at h1 h2
    rw [rd, bodyOf]
    dsimp only
    rw [body_rd k _ (b.drop 8) (hb.drop 8) (by simp only [List.length_drop]; omega) (by constructor <;> omega)]
    have e1 : ((last + num (b.take 4)) % 4294967296 - last) % 4294967296 = num (b.take 4) := by omega
    have e2 : (((last + num (b.take 4)) % 4294967296 + num ((b.drop 4).take 4)) % 4294967296 - (last + num (b.take 4)) % 4294967296) % 4294967296 = num ((b.drop 4).take 4) := by omega
    rw [e1, e2, be_take hb (by omega) (by omega), be_take (hb.drop 4) (by omega) (by simp only [List.length_drop]; omega)]
    have e3 : b.drop 8 = (b.drop 4).drop 4 := by rw [List.drop_drop]
    rw [e3, List.take_append_drop, List.take_append_drop]

theorem SackBack (wait : Int) (h0 : K.ok (.int .u32) wait) (l : Bl) (h1 : K.ok (.slice (.pair (.int .u32) (.int .u32))) l) (o : Int × List Int) (h2 : K.ok (.pair (.int .u8) (.slice (.int .u8))) o) : ∃ n, f10_broughamlaw31_SackBack n wait l o.1 o.2 = some true := by
  obtain ⟨k, b⟩ := o
  have hw : U32 wait := ok_u32 h0
  have hn := ok_nums h1
  have hb : Bytes b := ok_bytes h2.2
  apply Ev.true
  unfold f10_broughamlaw31_SackBack
  refine Ev.ite (fun _ => Ev.some rfl) fun a1 => ?_
  refine Ev.ite (fun _ => Ev.some rfl) fun a2 => ?_
  simp only [decide_eq_true_eq] at a1 a2
  refine Ev.bind (option_is wait l (by omega)) ?_
  rintro _ rfl
  have hP := parse_nums wait k b
  have back : ∀ (R : Prop) [Decidable R], Ev (fun n => (f45_sack_Parse n wait k b).bind fun r724_0 =>
            (f44_sack_Option n wait r724_0.1).bind fun r725_0 =>
            if (!r724_0.2) = true then
              (f41_broughamlaw31_alive n).bind fun r726_0 =>
              some r726_0
            else
              if r725_0.1 = true then
                (f49_broughamref07_SameOption r725_0.2.1 r725_0.2.2 k b).bind fun r726_0 =>
                if r726_0 = true then
                  (f41_broughamlaw31_alive n).bind fun r726_1 =>
                  some r726_1
                else
                  some false
              else
                some false) (fun r => r = true) := by
    intro R _
    refine Ev.bind (parse_is wait hw k b hb) ?_
    rintro _ rfl
    refine Ev.bind (option_is wait _ (by omega)) ?_
    rintro _ rfl
    refine Ev.ite (fun c => ?_) (fun c => ?_)
    · refine Ev.bind alive_ev ?_
      rintro _ rfl
      exact Ev.some rfl
    · by_cases hc : k = 9 ∧ b.length ≠ 0 ∧ b.length % 8 = 0 ∧ b.length ≤ 32 ∧ rightB wait (rd (b.length / 8) wait b) = true
      · have e1 : parseOf wait k b = (rd (b.length / 8) wait b, true) := by unfold parseOf; rw [if_pos hc]
        obtain ⟨rfl, q2, q3, q4, q5⟩ := hc
        rw [e1]
        have hne : rd (b.length / 8) wait b ≠ [] := fun q => by
          have := rd_len (b.length / 8) wait b
          rw [q] at this; simp at this; omega
        dsimp only
        rw [if_pos ⟨q5, hne⟩, body_rd _ wait b hb (by omega) hw]
        refine Ev.pos rfl ?_
        refine Ev.bind (Ev.of (opt_refl 9 b) rfl) ?_
        rintro _ rfl
        refine Ev.pos rfl ?_
        refine Ev.bind alive_ev ?_
        rintro _ rfl
        exact Ev.some rfl
      · have e1 : parseOf wait k b = ([], false) := by unfold parseOf; rw [if_neg hc]
        rw [e1] at c
        exact absurd rfl c
  by_cases hc : rightB wait l = true ∧ l ≠ []
  · have hx : Bytes (bodyOf wait l) := body_bytes l wait
    have hl4 : l.length ≤ 4 := by
      have := hc.1; unfold rightB at this
      simp only [Bool.and_eq_true, decide_eq_true_eq] at this
      exact this.1
    have hl0 : l.length ≠ 0 := fun q => hc.2 (List.length_eq_zero_iff.1 q)
    have e1 : parseOf wait 9 (bodyOf wait l) = (l, true) := by
      unfold parseOf
      have e8 : 8 * l.length / 8 = l.length := by omega
      rw [body_len, e8, rd_body l wait hn hw, if_pos ⟨rfl, by omega, by omega, by omega, hc.1⟩]
    rw [if_pos hc]
    refine Ev.bind (parse_is wait hw 9 (bodyOf wait l) hx) ?_
    intro r hr
    rw [e1] at hr
    subst r
    refine Ev.pos rfl (Ev.neg (by simp) ?_)
    refine Ev.bind (plain_is l (by omega)) ?_
    intro r hr; subst r
    refine Ev.bind (plain_is l (by omega)) ?_
    intro r hr; subst r
    refine Ev.bind (same_is l (by omega)) ?_
    rintro _ rfl
    exact Ev.neg (by simp) (back True)
  · rw [if_neg hc]
    refine Ev.bind (parse_is wait hw 0 [] Bytes.nil) ?_
    rintro _ rfl
    exact Ev.neg (by simp) (back True)
end Go.Proofs.YtjoibacjpapncaaF31
