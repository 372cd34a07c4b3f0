/- Names laid in by and by: of the functions that text F40b prints. -/
import Derived.Test.YtjoibacjpapncaaPureNames40b
namespace Go.Proofs.YtjoibacjpapncaaF40b
open Go Zed
set_option linter.unusedVariables false
set_option linter.unusedSimpArgs false

def Up (l : List Int) : Prop := l.Pairwise (· ≤ ·)
def ins (x : Int) : List Int → List Int
  | [] => [x]
  | p :: r => if p ≤ x then p :: ins x r else x :: p :: r
theorem ins_perm (x : Int) : ∀ l : List Int, (ins x l).Perm (x :: l)
  | [] => List.Perm.refl _
  | p :: r => by
    rw [ins]; split
    · exact ((ins_perm x r).cons p).trans (List.Perm.swap x p r)
    · exact List.Perm.refl _
theorem ins_up (x : Int) : ∀ l : List Int, Up l → Up (ins x l)
  | [], _ => List.pairwise_singleton _ _
  | p :: r, h => by
    have h' := List.pairwise_cons.1 h
    rw [ins]; split
    · rename_i hp
      refine List.pairwise_cons.2 ⟨fun q hq => ?_, ins_up x r h'.2⟩
      rcases List.mem_cons.1 ((ins_perm x r).mem_iff.1 hq) with rfl | hq
      · exact hp
      · exact h'.1 q hq
    · rename_i hp
      refine List.pairwise_cons.2 ⟨fun q hq => ?_, h⟩
      rcases List.mem_cons.1 hq with rfl | hq
      · omega
      · have := h'.1 q hq; omega
theorem ins_split (x : Int) : ∀ l : List Int, Up l → ∃ L A, l = L ++ A ∧ ins x l = L ++ x :: A ∧ (∀ p ∈ L, p ≤ x) ∧ (∀ p ∈ A, x < p)
  | [], _ => ⟨[], [], rfl, rfl, fun p hp => (by cases hp), fun p hp => (by cases hp)⟩
  | p :: r, h => by
    have h' := List.pairwise_cons.1 h
    rw [ins]; split
    · rename_i hp
      obtain ⟨L, A, q1, q2, q3, q4⟩ := ins_split x r h'.2
      refine ⟨p :: L, A, by rw [q1]; rfl, by rw [q2]; rfl, fun q hq => ?_, q4⟩
      rcases List.mem_cons.1 hq with rfl | hq
      · exact hp
      · exact q3 q hq
    · rename_i hp
      refine ⟨[], p :: r, rfl, rfl, fun q hq => (by cases hq), fun q hq => ?_⟩
      rcases List.mem_cons.1 hq with rfl | hq
      · omega
      · have := h'.1 q hq; omega
theorem up_eq : ∀ {a b : List Int}, Up a → Up b → a.Perm b → a = b
  | [], b, _, _, h => h.nil_eq
  | x :: a, [], _, _, h => h.eq_nil
  | x :: a, y :: b, ha, hb, h => by
    have ha' := List.pairwise_cons.1 ha
    have hb' := List.pairwise_cons.1 hb
    have hxy : x = y := by
      have h1 : x ∈ y :: b := h.mem_iff.1 List.mem_cons_self
      have h2 : y ∈ x :: a := h.mem_iff.2 List.mem_cons_self
      have l1 : y ≤ x := by rcases List.mem_cons.1 h1 with e | e; omega; exact hb'.1 x e
      have l2 : x ≤ y := by rcases List.mem_cons.1 h2 with e | e; omega; exact ha'.1 y e
      omega
    subst hxy
    rw [up_eq ha'.2 hb'.2 (List.Perm.cons_inv h)]
theorem getD_at' (A : List Int) (p : Int) (r : List Int) (d : Int) : (A ++ p :: r).getD A.length d = p := by simp [List.getD_eq_getElem?_getD]
theorem set_at' (A : List Int) (p v : Int) (r : List Int) : (A ++ p :: r).set A.length v = A ++ v :: r := by
  induction A with
  | nil => rfl
  | cons x A ih => simp [ih]
theorem sink (b0 : List Int) (L : List Int) (x : Int) (hL : ∀ p ∈ L, p ≤ x) : ∀ (k : Nat) (A R : List Int) (hn : A.length = k) (hA : ∀ p ∈ A, x < p) (hl : L.length + A.length + R.length ≤ 5000),
    Ev (fun n => f100_table_insert_v2_L3 n ((L.length + k : Nat) : Int) b0 (L ++ A ++ x :: R)) (fun w => w = (b0, L ++ x :: (A ++ R))) := by
  intro k
  induction k with
  | zero =>
    intro A R hn hA hl
    have e : A = [] := List.length_eq_zero_iff.1 hn
    subst e
    apply Ev.succ
    unfold f100_table_insert_v2_L3
    rw [List.append_nil]
    refine Ev.ite (fun c => ?_) (fun c => Ev.some (by simp))
    simp only [decide_eq_true_eq] at c
    have hlen : (L ++ x :: R).length = L.length + R.length + 1 := by simp; omega
    simp only [List.length_nil] at hl
    have e1 : IntKind.wrap .i64 (((L.length + 0 : Nat) : Int) - 1) = ((L.length - 1 : Nat) : Int) := by rw [i64_id (by omega) (by omega)]; omega
    rw [e1, Int.toNat_natCast, Int.toNat_natCast]
    refine Ev.guard (by omega) (Ev.guard (by omega) (Ev.neg ?_ (Ev.some (by simp))))
    have e2 : (L ++ x :: R).getD (L.length + 0) 0 = x := getD_at' L x R _
    have e3 : (L ++ x :: R).getD (L.length - 1) 0 ∈ L := by
      rw [List.getD_eq_getElem?_getD, List.getElem?_append_left (by omega), ← List.getD_eq_getElem?_getD]
      exact getD_mem (by omega) _
    have := hL _ e3
    rw [e2]
    simp only [decide_eq_true_eq]; omega
  | succ k ih =>
    intro A R hn hA hl
    obtain ⟨A', q, rfl⟩ : ∃ A' q, A = A' ++ [q] := by
      have : A ≠ [] := fun e => by subst e; cases hn
      exact ⟨A.dropLast, A.getLast this, (List.dropLast_concat_getLast this).symm⟩
    have hk : A'.length = k := by simp only [List.length_append, List.length_singleton] at hn; omega
    have hq : x < q := hA q (by simp)
    simp only [List.length_append, List.length_singleton] at hl
    have hlen : (L ++ (A' ++ [q]) ++ x :: R).length = L.length + A'.length + R.length + 2 := by simp; omega
    apply Ev.succ
    unfold f100_table_insert_v2_L3
    have e1 : IntKind.wrap .i64 (((L.length + (k + 1) : Nat) : Int) - 1) = ((L.length + k : Nat) : Int) := by rw [i64_id (by omega) (by omega)]; omega
    rw [e1, Int.toNat_natCast, Int.toNat_natCast]
    have s1 : L ++ (A' ++ [q]) ++ x :: R = (L ++ A' ++ [q]) ++ x :: R := by simp
    have s2 : L ++ (A' ++ [q]) ++ x :: R = (L ++ A') ++ q :: (x :: R) := by simp
    have l1 : (L ++ A' ++ [q]).length = L.length + (k + 1) := by simp; omega
    have l2 : (L ++ A').length = L.length + k := by simp; omega
    have g1 : (L ++ (A' ++ [q]) ++ x :: R).getD (L.length + (k + 1)) 0 = x := by rw [s1, ← l1]; exact getD_at' _ _ _ _
    have g2 : (L ++ (A' ++ [q]) ++ x :: R).getD (L.length + k) 0 = q := by rw [s2, ← l2]; exact getD_at' _ _ _ _
    rw [g1, g2]
    have t1 : (L ++ (A' ++ [q]) ++ x :: R).set (L.length + (k + 1)) q = (L ++ A') ++ q :: (q :: R) := by
      rw [s1, ← l1, set_at']; simp
    have t2 : ((L ++ A') ++ q :: (q :: R)).set (L.length + k) x = L ++ A' ++ x :: (q :: R) := by rw [← l2, set_at']
    rw [t1, t2]
    refine Ev.pos (by simp only [decide_eq_true_eq]; omega) (Ev.guard (by omega) (Ev.guard (by omega) (Ev.pos (by simp only [decide_eq_true_eq]; omega) (Ev.guard (by omega) (Ev.guard (by omega) (Ev.guard (by omega) (Ev.guard ?_ ?_)))))))
    · have : (L ++ A' ++ q :: (q :: R)).length = L.length + A'.length + R.length + 2 := by simp; omega
      omega
    refine (ih A' (q :: R) hk (fun p hp => hA p (List.mem_append_left _ hp)) (by simp only [List.length_cons]; omega)).mono ?_
    rintro _ rfl
    simp
theorem insert_is (x : Int) (b : List Int) (hb : b.length ≤ 4000) (hu : Up b) : Ev (fun n => f100_table_insert_v2 n x b) (fun r => r.2 = ins x b) := by
  obtain ⟨L, A, q1, q2, q3, q4⟩ := ins_split x b hu
  have hl : b.length = L.length + A.length := by rw [q1]; simp
  unfold f100_table_insert_v2
  refine Ev.guard (by simp only [List.length_singleton, maxLen]; omega) ?_
  have e1 : IntKind.wrap .i64 ((((b ++ [x]).length : Nat) : Int) - 1) = ((L.length + A.length : Nat) : Int) := by
    simp only [List.length_append, List.length_singleton]
    rw [i64_id (by omega) (by omega)]; omega
  rw [e1]
  have := sink b L x q3 A.length A [] rfl q4 (by simp; omega)
  rw [← q1] at this
  refine Ev.bind this ?_
  rintro _ rfl
  refine Ev.some ?_
  rw [q2]; simp
end Go.Proofs.YtjoibacjpapncaaF40b
