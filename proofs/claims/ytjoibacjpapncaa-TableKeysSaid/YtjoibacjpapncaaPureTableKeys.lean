/- TableKeys: the key doesn't matter to any answer: of the functions that text F40 prints. Conditions: none. -/
import Derived.Test.YtjoibacjpapncaaPureTable3
namespace Go.Proofs.YtjoibacjpapncaaF40
open Go Zed
set_option linter.unusedVariables false
set_option linter.unusedSimpArgs false

def Up (l : List Int) : Prop := l.Pairwise (· ≤ ·)
def ins (x : Int) : List Int → List Int
  | [] => [x]
  | p :: r => if p ≤ x then p :: ins x r else x :: p :: r
theorem ins_perm (x : Int) : ∀ l : List Int, (ins x l).Perm (x :: l)
  | [] => List.Perm.refl _
  | p :: r => by
    rw [ins]; split
    · exact ((ins_perm x r).cons p).trans (List.Perm.swap x p r)
    · exact List.Perm.refl _
theorem ins_up (x : Int) : ∀ l : List Int, Up l → Up (ins x l)
  | [], _ => List.pairwise_singleton _ _
  | p :: r, h => by
    have h' := List.pairwise_cons.1 h
    rw [ins]; split
    · rename_i hp
      refine List.pairwise_cons.2 ⟨fun q hq => ?_, ins_up x r h'.2⟩
      rcases List.mem_cons.1 ((ins_perm x r).mem_iff.1 hq) with rfl | hq
      · exact hp
      · exact h'.1 q hq
    · rename_i hp
      refine List.pairwise_cons.2 ⟨fun q hq => ?_, h⟩
      rcases List.mem_cons.1 hq with rfl | hq
      · omega
      · have := h'.1 q hq; omega
theorem ins_split (x : Int) : ∀ l : List Int, Up l → ∃ L A, l = L ++ A ∧ ins x l = L ++ x :: A ∧ (∀ p ∈ L, p ≤ x) ∧ (∀ p ∈ A, x < p)
  | [], _ => ⟨[], [], rfl, rfl, fun p hp => (by cases hp), fun p hp => (by cases hp)⟩
  | p :: r, h => by
    have h' := List.pairwise_cons.1 h
    rw [ins]; split
    · rename_i hp
      obtain ⟨L, A, q1, q2, q3, q4⟩ := ins_split x r h'.2
      refine ⟨p :: L, A, by rw [q1]; rfl, by rw [q2]; rfl, fun q hq => ?_, q4⟩
      rcases List.mem_cons.1 hq with rfl | hq
      · exact hp
      · exact q3 q hq
    · rename_i hp
      refine ⟨[], p :: r, rfl, rfl, fun q hq => (by cases hq), fun q hq => ?_⟩
      rcases List.mem_cons.1 hq with rfl | hq
      · omega
      · have := h'.1 q hq; omega
theorem up_eq : ∀ {a b : List Int}, Up a → Up b → a.Perm b → a = b
  | [], b, _, _, h => h.nil_eq
  | x :: a, [], _, _, h => h.eq_nil
  | x :: a, y :: b, ha, hb, h => by
    have ha' := List.pairwise_cons.1 ha
    have hb' := List.pairwise_cons.1 hb
    have hxy : x = y := by
      have h1 : x ∈ y :: b := h.mem_iff.1 List.mem_cons_self
      have h2 : y ∈ x :: a := h.mem_iff.2 List.mem_cons_self
      have l1 : y ≤ x := by rcases List.mem_cons.1 h1 with e | e; omega; exact hb'.1 x e
      have l2 : x ≤ y := by rcases List.mem_cons.1 h2 with e | e; omega; exact ha'.1 y e
      omega
    subst hxy
    rw [up_eq ha'.2 hb'.2 (List.Perm.cons_inv h)]
theorem getD_at' (A : List Int) (p : Int) (r : List Int) (d : Int) : (A ++ p :: r).getD A.length d = p := by simp [List.getD_eq_getElem?_getD]
theorem set_at' (A : List Int) (p v : Int) (r : List Int) : (A ++ p :: r).set A.length v = A ++ v :: r := by
  induction A with
  | nil => rfl
  | cons x A ih => simp [ih]
theorem sink (b0 : List Int) (L : List Int) (x : Int) (hL : ∀ p ∈ L, p ≤ x) : ∀ (k : Nat) (A R : List Int) (hn : A.length = k) (hA : ∀ p ∈ A, x < p) (hl : L.length + A.length + R.length ≤ 5000),
    Ev (fun n => f100_table_insert_v2_L3 n ((L.length + k : Nat) : Int) b0 (L ++ A ++ x :: R)) (fun w => w = (b0, L ++ x :: (A ++ R))) := by
  intro k
  induction k with
  | zero =>
    intro A R hn hA hl
    have e : A = [] := List.length_eq_zero_iff.1 hn
    subst e
    apply Ev.succ
    unfold f100_table_insert_v2_L3
    rw [List.append_nil]
    refine Ev.ite (fun c => ?_) (fun c => Ev.some (by simp))
    simp only [decide_eq_true_eq] at c
    have hlen : (L ++ x :: R).length = L.length + R.length + 1 := by simp; omega
    simp only [List.length_nil] at hl
    have e1 : IntKind.wrap .i64 (((L.length + 0 : Nat) : Int) - 1) = ((L.length - 1 : Nat) : Int) := by rw [i64_id (by omega) (by omega)]; omega
    rw [e1, Int.toNat_natCast, Int.toNat_natCast]
    refine Ev.guard (by omega) (Ev.guard (by omega) (Ev.neg ?_ (Ev.some (by simp))))
    have e2 : (L ++ x :: R).getD (L.length + 0) 0 = x := getD_at' L x R _
    have e3 : (L ++ x :: R).getD (L.length - 1) 0 ∈ L := by
      rw [List.getD_eq_getElem?_getD, List.getElem?_append_left (by omega), ← List.getD_eq_getElem?_getD]
      exact getD_mem (by omega) _
    have := hL _ e3
    rw [e2]
    simp only [decide_eq_true_eq]; omega
  | succ k ih =>
    intro A R hn hA hl
    obtain ⟨A', q, rfl⟩ : ∃ A' q, A = A' ++ [q] := by
      have : A ≠ [] := fun e => by subst e; cases hn
      exact ⟨A.dropLast, A.getLast this, (List.dropLast_concat_getLast this).symm⟩
    have hk : A'.length = k := by simp only [List.length_append, List.length_singleton] at hn; omega
    have hq : x < q := hA q (by simp)
    simp only [List.length_append, List.length_singleton] at hl
    have hlen : (L ++ (A' ++ [q]) ++ x :: R).length = L.length + A'.length + R.length + 2 := by simp; omega
    apply Ev.succ
    unfold f100_table_insert_v2_L3
    have e1 : IntKind.wrap .i64 (((L.length + (k + 1) : Nat) : Int) - 1) = ((L.length + k : Nat) : Int) := by rw [i64_id (by omega) (by omega)]; omega
    rw [e1, Int.toNat_natCast, Int.toNat_natCast]
    have s1 : L ++ (A' ++ [q]) ++ x :: R = (L ++ A' ++ [q]) ++ x :: R := by simp
    have s2 : L ++ (A' ++ [q]) ++ x :: R = (L ++ A') ++ q :: (x :: R) := by simp
    have l1 : (L ++ A' ++ [q]).length = L.length + (k + 1) := by simp; omega
    have l2 : (L ++ A').length = L.length + k := by simp; omega
    have g1 : (L ++ (A' ++ [q]) ++ x :: R).getD (L.length + (k + 1)) 0 = x := by rw [s1, ← l1]; exact getD_at' _ _ _ _
    have g2 : (L ++ (A' ++ [q]) ++ x :: R).getD (L.length + k) 0 = q := by rw [s2, ← l2]; exact getD_at' _ _ _ _
    rw [g1, g2]
    have t1 : (L ++ (A' ++ [q]) ++ x :: R).set (L.length + (k + 1)) q = (L ++ A') ++ q :: (q :: R) := by
      rw [s1, ← l1, set_at']; simp
    have t2 : ((L ++ A') ++ q :: (q :: R)).set (L.length + k) x = L ++ A' ++ x :: (q :: R) := by rw [← l2, set_at']
    rw [t1, t2]
    refine Ev.pos (by simp only [decide_eq_true_eq]; omega) (Ev.guard (by omega) (Ev.guard (by omega) (Ev.pos (by simp only [decide_eq_true_eq]; omega) (Ev.guard (by omega) (Ev.guard (by omega) (Ev.guard (by omega) (Ev.guard ?_ ?_)))))))
    · have : (L ++ A' ++ q :: (q :: R)).length = L.length + A'.length + R.length + 2 := by simp; omega
      omega
    refine (ih A' (q :: R) hk (fun p hp => hA p (List.mem_append_left _ hp)) (by simp only [List.length_cons]; omega)).mono ?_
    rintro _ rfl
    simp
theorem insert_is (x : Int) (b : List Int) (hb : b.length ≤ 4000) (hu : Up b) : Ev (fun n => f100_table_insert_v2 n x b) (fun r => r.2 = ins x b) := by
  obtain ⟨L, A, q1, q2, q3, q4⟩ := ins_split x b hu
  have hl : b.length = L.length + A.length := by rw [q1]; simp
  unfold f100_table_insert_v2
  refine Ev.guard (by simp only [List.length_singleton, maxLen]; omega) ?_
  have e1 : IntKind.wrap .i64 ((((b ++ [x]).length : Nat) : Int) - 1) = ((L.length + A.length : Nat) : Int) := by
    simp only [List.length_append, List.length_singleton]
    rw [i64_id (by omega) (by omega)]; omega
  rw [e1]
  have := sink b L x q3 A.length A [] rfl q4 (by simp; omega)
  rw [← q1] at this
  refine Ev.bind this ?_
  rintro _ rfl
  refine Ev.some ?_
  rw [q2]; simp
theorem names_loop (k0 k1 t3 t4 t5 : Int) (l : List Cell) (hll : l.length ≤ 1024) : ∀ (d i : Nat) (hi : i + d = l.length) (b : List Int) (hb : b.length ≤ i) (hu : Up b) (hp : b.Perm ((ct (l.take i)).map Prod.fst)),
    Ev (fun n => f56_table_Table_Names_L3 n [] ((l.length : Nat) : Int) (i : Int) k0 k1 t3 t4 t5 l b) (fun w => ∃ b', w = (k0, k1, t3, t4, t5, l, b') ∧ Up b' ∧ b'.length ≤ 1024 ∧ b'.Perm ((ct l).map Prod.fst))
  | 0, i, hi, b, hb, hu, hp => by
    apply Ev.succ
    unfold f56_table_Table_Names_L3
    rw [List.take_of_length_le (by omega)] at hp
    exact Ev.neg (by simp only [decide_eq_true_eq]; omega) (Ev.some ⟨b, rfl, hu, by omega, hp⟩)
  | d + 1, i, hi, b, hb, hu, hp => by
    have hil : i < l.length := by omega
    have et : l.take (i + 1) = l.take i ++ [l.getD i d0] := by
      rw [List.take_add_one]
      simp [List.getElem?_eq_getElem hil, List.getD_eq_getElem?_getD]
    apply Ev.succ
    unfold f56_table_Table_Names_L3
    refine Ev.pos (by simp only [decide_eq_true_eq]; omega) (Ev.guard (by omega) ?_)
    rw [Int.toNat_natCast, i64_id (e := (i : Int) + 1) (by omega) (by omega)]
    refine Ev.ite (fun c => ?_) (fun c => ?_)
    · simp only [beq_iff_eq] at c
      have ec : ct (l.take (i + 1)) = ct (l.take i) ++ [(l.getD i d0).2] := by rw [et, ct_app, ct_used c]; rfl
      refine Ev.pos (by simp) ?_
      refine Ev.bind (insert_is _ b (by omega) hu) ?_
      intro r hr
      rw [hr]
      have hpi := ins_perm (l.getD i d0).2.1 b
      refine names_loop k0 k1 t3 t4 t5 l hll d (i + 1) (by omega) _ ?_ (ins_up _ b hu) ?_
      · have := hpi.length_eq; rw [List.length_cons] at this; show (ins (l.getD i d0).2.1 b).length ≤ i + 1; omega
      · rw [ec, List.map_append]
        exact hpi.trans ((hp.cons _).trans (List.perm_append_singleton _ _).symm)
    · simp only [beq_iff_eq] at c
      have ec : ct (l.take (i + 1)) = ct (l.take i) := by rw [et, ct_app, ct_not c]; show _ ++ [] = _; simp
      exact names_loop k0 k1 t3 t4 t5 l hll d (i + 1) (by omega) b (by omega) hu (by rw [ec]; exact hp)
theorem names_spec {k0 k1 most many dirty : Int} {l : List Cell} {T : M} (h : Hd k0 k1 most l many dirty T) :
    Ev (fun n => f56_table_Table_Names n [] k0 k1 many dirty most l) (fun r => ∃ b, r = (k0, k1, many, dirty, most, l, b) ∧ Up b ∧ b.length ≤ 1024 ∧ b.Perm (T.map Prod.fst)) := by
  unfold f56_table_Table_Names
  refine Ev.bind (names_loop k0 k1 many dirty most l h.hl.2 l.length 0 (by omega) [] (by simp) List.Pairwise.nil (List.Perm.refl _)) ?_
  rintro _ ⟨b, rfl, q1, q2, q3⟩
  exact Ev.some ⟨b, rfl, q1, q2, q3.trans (h.perm.map _)⟩
theorem row_loop (b : List Int) (hb : b.length ≤ 1024) : ∀ (d i : Nat) (hi : i + d = b.length), Ev (fun n => f55_broughamlaw40_row_L4 n (i : Int) b b) (fun w => w = .inr (b, b))
  | 0, i, hi => by
    apply Ev.succ
    unfold f55_broughamlaw40_row_L4
    exact Ev.neg (by simp only [decide_eq_true_eq]; omega) (Ev.some rfl)
  | d + 1, i, hi => by
    apply Ev.succ
    unfold f55_broughamlaw40_row_L4
    refine Ev.pos (by simp only [decide_eq_true_eq]; omega) (Ev.guard (by omega) (Ev.guard (by omega) (Ev.neg (by simp) ?_)))
    rw [i64_id (e := (i : Int) + 1) (by omega) (by omega)]
    exact row_loop b hb d (i + 1) (by omega)
theorem row_is (b : List Int) (hb : b.length ≤ 1024) : Ev (fun n => f55_broughamlaw40_row n b b) (fun r => r = (true, b, b)) := by
  unfold f55_broughamlaw40_row
  refine Ev.neg (by simp) ?_
  refine Ev.bind (row_loop b hb b.length 0 (by omega)) ?_
  rintro _ rfl
  exact Ev.some rfl
theorem keys_loop (a0 a1 b0 b1 : Int) (l : List (Int × Int × Int)) (hl : l.length ≤ 200) : ∀ (d : Nat) (i : Int) (hi : 0 ≤ i ∧ i + d = l.length) {x y : List Cell} {mx dx my dy : Int} {T : M} (hx : Hd a0 a1 50 x mx dx T) (hy : Hd b0 b1 50 y my dy T),
    Ev (fun n => f11_broughamlaw40_TableKeys_L7 n l i a0 a1 mx dx 50 b0 b1 my dy 50 x y) (fun w => ∃ x mx dx y my dy T, w = .inr (a0, a1, mx, dx, 50, b0, b1, my, dy, 50, x, y) ∧ Hd a0 a1 50 x mx dx T ∧ Hd b0 b1 50 y my dy T)
  | 0, i, hi, x, y, mx, dx, my, dy, T, hx, hy => by
    apply Ev.succ
    unfold f11_broughamlaw40_TableKeys_L7
    exact Ev.neg (by simp only [decide_eq_true_eq]; omega) (Ev.some ⟨x, mx, dx, y, my, dy, T, rfl, hx, hy⟩)
  | d + 1, i, hi, x, y, mx, dx, my, dy, T, hx, hy => by
    apply Ev.succ
    unfold f11_broughamlaw40_TableKeys_L7
    refine Ev.pos (by simp only [decide_eq_true_eq]; omega) (Ev.guard (by omega) ?_)
    generalize (l.getD i.toNat (0, (0, 0))).2.1 = name
    generalize (l.getD i.toNat (0, (0, 0))).2.2 = v
    refine Ev.ite (fun _ => ?_) (fun _ => ?_)
    · refine Ev.bind (del_spec hx name) ?_
      rintro _ ⟨mx', dx', x', rfl, hx'⟩
      refine Ev.bind (del_spec hy name) ?_
      rintro _ ⟨my', dy', y', rfl, hy'⟩
      refine Ev.bind (get_spec hx' name) ?_
      rintro _ rfl
      refine Ev.bind (get_spec hy' name) ?_
      rintro _ rfl
      refine Ev.neg (by simp) (Ev.neg (by simp) (Ev.neg (by simp) ?_))
      unfold f54_table_Table_Len
      refine Ev.bind (Ev.of rfl rfl) ?_
      rintro _ rfl
      refine Ev.bind (Ev.of rfl rfl) ?_
      rintro _ rfl
      refine Ev.neg (by simp [hx'.many, hy'.many]) ?_
      rw [i64_id (by omega) (by omega)]
      exact keys_loop a0 a1 b0 b1 l hl d (i + 1) (by omega) hx' hy'
    · refine Ev.bind (put_spec hx name v) ?_
      rintro _ ⟨mx', dx', ox, x', rfl, hx'⟩
      refine Ev.bind (put_spec hy name v) ?_
      rintro _ ⟨my', dy', oy, y', rfl, hy'⟩
      refine Ev.bind (get_spec hx' name) ?_
      rintro _ rfl
      refine Ev.bind (get_spec hy' name) ?_
      rintro _ rfl
      refine Ev.neg (by simp) (Ev.neg (by simp) (Ev.neg (by simp) ?_))
      unfold f54_table_Table_Len
      refine Ev.bind (Ev.of rfl rfl) ?_
      rintro _ rfl
      refine Ev.bind (Ev.of rfl rfl) ?_
      rintro _ rfl
      refine Ev.neg (by simp [hx'.many, hy'.many]) ?_
      rw [i64_id (by omega) (by omega)]
      exact keys_loop a0 a1 b0 b1 l hl d (i + 1) (by omega) hx' hy'
theorem new_hd (k0 k1 : Int) : Hd k0 k1 50 (List.replicate 8 (0, (0, 0))) 0 0 [] where
  hl := by decide
  hr := fresh_reach 8 _
  perm := by rw [fresh_ct]
  once := List.nodup_nil
  many := rfl
  dirty := by rw [fresh_dn]; rfl
  load := by rw [fresh_dn]; decide
  room := by decide
  most := by decide
theorem alive_ev : Ev (fun n => f57_broughamlaw40_alive n) (fun r => r = true) := Ev.at 200 (fun m => by kernel_rfl) rfl
theorem TableKeys (a : Int × Int) (h0 : K.ok (.pair (.int .u64) (.int .u64)) a) (b : Int × Int) (h1 : K.ok (.pair (.int .u64) (.int .u64)) b) (l : List (Int × Int × Int)) (h2 : K.ok (.slice (.pair (.int .i64) (.pair (.int .u32) (.int .i64)))) l) : ∃ n, f11_broughamlaw40_TableKeys n a.1 a.2 b.1 b.2 l = some true := by
  apply Ev.true
  unfold f11_broughamlaw40_TableKeys
  refine Ev.ite (fun _ => Ev.some rfl) fun c => ?_
  simp only [decide_eq_true_eq] at c
  refine Ev.bind (Ev.of (r := (a.1, a.2, 0, 0, 50, List.replicate 8 (0, (0, 0)))) rfl rfl) ?_
  rintro _ rfl
  refine Ev.bind (Ev.of (r := (b.1, b.2, 0, 0, 50, List.replicate 8 (0, (0, 0)))) rfl rfl) ?_
  rintro _ rfl
  refine Ev.bind (keys_loop a.1 a.2 b.1 b.2 l (by omega) l.length 0 (by omega) (new_hd _ _) (new_hd _ _)) ?_
  rintro _ ⟨x, mx, dx, y, my, dy, T, rfl, hx, hy⟩
  refine Ev.bind (names_spec hx) ?_
  rintro _ ⟨r1, rfl, q1, q2, q3⟩
  refine Ev.bind (names_spec hy) ?_
  rintro _ ⟨r2, rfl, p1, p2, p3⟩
  have e : r1 = r2 := up_eq q1 p1 (q3.trans p3.symm)
  subst e
  refine Ev.bind (row_is r1 q2) ?_
  rintro _ rfl
  refine Ev.pos rfl ?_
  unfold f54_table_Table_Len
  refine Ev.bind (Ev.of rfl rfl) ?_
  rintro _ rfl
  have hm := hx.many; have hr := hx.room
  refine Ev.pos (by simp only [decide_eq_true_eq]; omega) ?_
  exact Ev.bind alive_ev (fun r hr => Ev.some hr)
end Go.Proofs.YtjoibacjpapncaaF40
