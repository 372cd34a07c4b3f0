/- PackBack: what is put is got, with what stands behind it: of the functions that text F02b prints. Conditions: none. -/
import Derived.Test.YtjmebloeodcoaaaPurePack02b
namespace Go.Proofs.YtjmebloeodcoaaaF02b
open Go Zed
set_option linter.unusedVariables false
set_option linter.unusedSimpArgs false

theorem alive_is : Ev (fun n => f48_broughamlaw02_alive n) (fun r => r = true) := by
  refine Ev.at 12 (fun m => ?_) rfl
  have h1 : f47_pack_Get (m + 12) [1, 2, 3] [2] = some ([258], true, [3]) := by kernel_rfl
  have h2 : f46_pack_Put (m + 12) [] [(2, 258), (1, 3)] = some [1, 2, 3] := by kernel_rfl
  have h3 : f54_pack_H 258 = some (2, 258) := by kernel_rfl
  have h4 : f53_pack_B 3 = some (1, 3) := by kernel_rfl
  simp only [f48_broughamlaw02_alive, h1, h2, h3, h4, Option.bind_some, ByteArray.toList_eq, strOfNums_data]
  decide +kernel

abbrev F := Int × Int
def Sized (l : List F) : Prop := ∀ f ∈ l, (1 ≤ f.1 ∧ f.1 ≤ 8) ∧ 0 ≤ f.2 ∧ f.2 < 18446744073709551616
theorem sizes_loop (l : List F) (hl : l.length ≤ 100) (behind : List Int) : ∀ (d : Nat) (i : Int) (hi : 0 ≤ i ∧ i + d = l.length) (hs : ∀ f ∈ l.take i.toNat, 1 ≤ f.1 ∧ f.1 ≤ 8),
    Ev (fun n => f12_broughamlaw02_PackBack_L5 n l behind ((l.take i.toNat).map Prod.fst) i) (fun w => w = .inl true ∨ (w = .inr (l, behind, l.map Prod.fst) ∧ ∀ f ∈ l, 1 ≤ f.1 ∧ f.1 ≤ 8))
  | 0, i, hi, hs => by
    apply Ev.succ
    unfold f12_broughamlaw02_PackBack_L5
    have e : l.take i.toNat = l := List.take_of_length_le (by omega)
    rw [e] at hs ⊢
    exact Ev.neg (by simp only [decide_eq_true_eq]; omega) (Ev.some (.inr ⟨rfl, hs⟩))
  | d + 1, i, hi, hs => by
    have hlt : i.toNat < l.length := by omega
    have e : l.take (i + 1).toNat = l.take i.toNat ++ [l.getD i.toNat (0, 0)] := by
      rw [show (i + 1).toNat = i.toNat + 1 by omega, List.take_add_one]
      simp [List.getElem?_eq_getElem hlt, List.getD_eq_getElem?_getD]
    have ht : (l.take i.toNat).length ≤ 100 := by rw [List.length_take]; omega
    apply Ev.succ
    unfold f12_broughamlaw02_PackBack_L5
    refine Ev.pos (by simp only [decide_eq_true_eq]; omega) (Ev.guard (by omega) (Ev.ite (fun _ => Ev.some (.inl rfl)) (fun c1 => Ev.guard (by omega) (Ev.ite (fun _ => Ev.some (.inl rfl)) (fun c2 => Ev.guard (by omega) (Ev.guard ?_ ?_))))))
    · simp only [List.length_map, List.length_singleton, maxLen]; omega
    simp only [decide_eq_true_eq] at c1 c2
    have := sizes_loop l hl behind d (i + 1) (by omega) (by
      rw [e]; intro f hf
      rcases List.mem_append.1 hf with hf | hf
      · exact hs f hf
      · simp only [List.mem_singleton] at hf; subst hf; omega)
    rw [e, List.map_append] at this
    rw [i64_id (by omega) (by omega)]
    exact this
theorem be_mod : ∀ (s : Nat) (v : Int), be s (v % 256 ^ s) = be s v
  | 0, _ => rfl
  | s + 1, v => by
    have hm : 0 < (256 : Int) ^ s := Int.pow_pos (by decide)
    have e1 : (v % 256 ^ (s + 1)) / 256 = (v / 256) % 256 ^ s := by
      rw [Int.pow_succ, Int.mul_comm, Int.emod_def v (256 * 256 ^ s), ← Int.ediv_ediv_of_nonneg (show (0 : Int) ≤ 256 by decide), Int.emod_def (v / 256) (256 ^ s), Int.mul_assoc]
      generalize (256 : Int) ^ s * (v / 256 / 256 ^ s) = X
      omega
    have e2 : (v % 256 ^ (s + 1)) % 256 = v % 256 := Int.emod_emod_of_dvd v (by rw [Int.pow_succ]; exact Int.dvd_mul_left _ _)
    rw [be, be, e1, e2, be_mod s]
def vals (l : List F) : List Int := l.map fun f => f.2 % 256 ^ f.1.toNat
theorem go_enc (behind : List Int) : ∀ (l : List F), Sized l → go (enc l ++ behind) (l.map Prod.fst) = some (vals l, behind)
  | [], _ => rfl
  | (s, v) :: l, h => by
    have hf := h (s, v) List.mem_cons_self
    have ih := go_enc behind l (fun f hf => h f (List.mem_cons_of_mem _ hf))
    have e4 : fieldB (s, v) = be s.toNat v := by rw [fieldB, if_pos hf.1]
    have hm : 0 < (256 : Int) ^ s.toNat := Int.pow_pos (by decide)
    have h1 : 1 ≤ s ∧ s ≤ 8 := hf.1
    rw [enc_cons, e4, List.append_assoc, ← be_mod]
    have := go_be s.toNat (v % 256 ^ s.toNat) (enc l ++ behind) (l.map Prod.fst) (by omega) ⟨Int.emod_nonneg _ (by omega), Int.emod_lt_of_pos _ hm⟩
    rw [show ((s.toNat : Nat) : Int) = s by omega] at this
    rw [List.map_cons, this, ih]
    rfl
theorem enc_bytes (l : List F) : Bytes (enc l) := by
  intro x hx
  obtain ⟨f, _, hf⟩ := List.mem_flatMap.1 hx
  unfold fieldB at hf
  split at hf
  · exact be_bytes _ _ x hf
  · cases hf
theorem turn_loop (l : List F) (behind b got : List Int) (L : Nat) (hL : L ≤ 10000) : ∀ (d : Nat) (i : Int) (r : List Int) (hr : r.length = L) (hi : 0 ≤ i ∧ i + d = L),
    Ev (fun n => f12_broughamlaw02_PackBack_L15 n l behind b got i r) (fun w => w = (l, behind, b, got))
  | 0, i, r, hr, hi => by
    apply Ev.succ
    unfold f12_broughamlaw02_PackBack_L15
    exact Ev.neg (by simp only [decide_eq_true_eq]; omega) (Ev.some rfl)
  | d + 1, i, r, hr, hi => by
    apply Ev.succ
    unfold f12_broughamlaw02_PackBack_L15
    refine Ev.pos (by simp only [decide_eq_true_eq]; omega) (Ev.guard (by omega) (Ev.guard (by omega) ?_))
    rw [i64_id (by omega) (by omega)]
    exact turn_loop l behind b got L hL d (i + 1) _ (by rw [List.length_set, hr]) (by omega)
theorem mod_is {s : Int} (h : 1 ≤ s ∧ s ≤ 7) : (0 : Int) ≤ (IntKind.wrap .u64 (IntKind.wrap .i64 (8 * s))) ∧ IntKind.wrap .u64 (1 * 2 ^ (min (IntKind.wrap .u64 (IntKind.wrap .i64 (8 * s))).toNat (IntKind.bits .u64))) = 256 ^ s.toNat ∧ (256 : Int) ^ s.toNat ≠ 0 := by
  have : s = 1 ∨ s = 2 ∨ s = 3 ∨ s = 4 ∨ s = 5 ∨ s = 6 ∨ s = 7 := by omega
  rcases this with rfl | rfl | rfl | rfl | rfl | rfl | rfl <;> decide +kernel
theorem check_loop (l : List F) (hs : Sized l) (hl : l.length ≤ 100) (behind b : List Int) : ∀ (d : Nat) (i : Int) (hi : 0 ≤ i ∧ i + d = l.length),
    Ev (fun n => f12_broughamlaw02_PackBack_L19 n l behind b (vals l) i) (fun w => w = .inr (behind, b))
  | 0, i, hi => by
    apply Ev.succ
    unfold f12_broughamlaw02_PackBack_L19
    exact Ev.neg (by simp only [decide_eq_true_eq]; omega) (Ev.some rfl)
  | d + 1, i, hi => by
    have hlt : i.toNat < l.length := by omega
    have hf := hs _ (getD_mem hlt (0, 0))
    have hv : (vals l).length = l.length := List.length_map _
    have hg : (vals l).getD i.toNat 0 = (l.getD i.toNat (0, 0)).2 % 256 ^ (l.getD i.toNat (0, 0)).1.toNat := by
      simp [vals, List.getD_eq_getElem?_getD, List.getElem?_eq_getElem hlt]
    apply Ev.succ
    unfold f12_broughamlaw02_PackBack_L19
    refine Ev.pos (by simp only [decide_eq_true_eq]; omega) (Ev.guard (by omega) (Ev.guard (by omega) ?_))
    rw [i64_id (e := i + 1) (by omega) (by omega), hg]
    refine Ev.ite (fun c => ?_) (fun c => ?_)
    · simp only [decide_eq_true_eq] at c
      obtain ⟨m1, m2, m3⟩ := mod_is (s := (l.getD i.toNat (0, 0)).1) ⟨hf.1.1, by omega⟩
      rw [m2, tmod_e hf.2.1]
      refine Ev.guard (by omega) (Ev.guard m1 (Ev.guard m3 (Ev.guard (by omega) (Ev.neg (by simp) ?_))))
      exact check_loop l hs hl behind b d (i + 1) (by omega)
    · simp only [decide_eq_true_eq] at c
      have e8 : (l.getD i.toNat (0, 0)).1 = 8 := by omega
      refine Ev.guard (by omega) (Ev.neg ?_ (check_loop l hs hl behind b d (i + 1) (by omega)))
      rw [e8]
      simp only [bne_iff_ne, ne_eq, Decidable.not_not]
      have h1 := hf.2.1
      have h2 := hf.2.2
      rw [show (256 : Int) ^ (8 : Int).toNat = 18446744073709551616 by decide]
      omega

theorem PackBack (l : List F) (h0 : K.ok (.slice (.pair (.int .i64) (.int .u64))) l) (behind : List Int) (h1 : K.ok (.slice (.int .u8)) behind) : ∃ n, f12_broughamlaw02_PackBack n l behind = some true := by
  have hb : Bytes behind := ok_bytes h1
  have hu : ∀ f ∈ l, 0 ≤ f.2 ∧ f.2 < 18446744073709551616 := fun f hf => ok_u64 (h0.2 f hf).2
  apply Ev.true
  unfold f12_broughamlaw02_PackBack
  refine Ev.ite (fun _ => Ev.some rfl) fun a1 => ?_
  refine Ev.ite (fun _ => Ev.some rfl) fun a2 => ?_
  simp only [decide_eq_true_eq] at a1 a2
  refine Ev.bind (sizes_loop l (by omega) behind l.length 0 (by omega) (by simp)) ?_
  rintro _ (rfl | ⟨rfl, hs0⟩)
  · exact Ev.some rfl
  have hs : Sized l := fun f hf => ⟨hs0 f hf, hu f hf⟩
  have hlen := enc_len l
  refine Ev.bind (put_is [] l (by simp) (by omega) (fun f hf => (hu f hf).1)) ?_
  rintro _ rfl
  rw [List.nil_append]
  refine Ev.guard (by simp only [maxLen]; omega) ?_
  refine Ev.bind (get_is (enc l ++ behind) (l.map Prod.fst) (by simp only [List.length_append]; omega) ((enc_bytes l).append hb) (by simp only [List.length_map]; omega)) ?_
  rintro _ rfl
  rw [go_enc behind l hs]
  have hv : (vals l).length = l.length := List.length_map _
  refine Ev.neg (by simp [ans]) (Ev.neg (by simp [ans, hv]) (Ev.neg (by simp [ans]) ?_))
  refine Ev.bind (turn_loop l behind (enc l ++ behind) (vals l) behind.length (by omega) behind.length 0 behind rfl (by omega)) ?_
  rintro _ rfl
  refine Ev.bind (check_loop l hs (by omega) behind (enc l ++ behind) l.length 0 (by omega)) ?_
  rintro _ rfl
  dsimp only
  have e1 : IntKind.wrap .i64 ((((enc l ++ behind).length : Nat) : Int) - ((behind.length : Nat) : Int)) = (enc l).length := by
    rw [List.length_append, i64_id (by omega) (by omega)]; omega
  rw [e1]
  refine Ev.guard (by simp [cutOk]; omega) ?_
  rw [List.take_length, Int.toNat_natCast, List.drop_left]
  refine Ev.pos (by rw [str_refl]) ?_
  exact Ev.bind alive_is (fun r hr => Ev.some hr)
end Go.Proofs.YtjmebloeodcoaaaF02b
