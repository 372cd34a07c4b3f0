/- The program's reader of filters, as a grammar: of the functions that text F35 prints. Conditions: none. -/
import Derived.Test.YtakamchmiakicaaDoorPureLib35
namespace Go.Proofs.YtakamchmiakicaaDoorF35
open Go Zed Go.Proofs.YtakamchmiakicaaDoorLeaf
set_option linter.unusedVariables false
set_option linter.unusedSimpArgs false
set_option maxRecDepth 100000

abbrev BA := ByteArray
abbrev tNot : BA := ⟨#[110, 111, 116]⟩
abbrev tAnd : BA := ⟨#[97, 110, 100]⟩
abbrev tOr : BA := ⟨#[111, 114]⟩
abbrev tOpen : BA := ⟨#[40]⟩
abbrev tClose : BA := ⟨#[41]⟩
abbrev tAll : BA := ⟨#[97, 108, 108]⟩
abbrev tEmpty : BA := ⟨#[101, 109, 112, 116, 121]⟩
abbrev tSyn : BA := ⟨#[115, 121, 110]⟩
abbrev tAck : BA := ⟨#[97, 99, 107]⟩
abbrev tRst : BA := ⟨#[114, 115, 116]⟩
abbrev tPort : BA := ⟨#[112, 111, 114, 116]⟩
abbrev tSrc : BA := ⟨#[115, 114, 99]⟩
abbrev tDst : BA := ⟨#[100, 115, 116]⟩
abbrev tHas : BA := ⟨#[104, 97, 115]⟩
abbrev tLong : BA := ⟨#[108, 111, 110, 103]⟩
theorem str_eqD (a b : BA) : (a.toList == b.toList) = decide (a = b) := by
  rw [str_dec]
  by_cases h : a = b
  · rw [decide_eq_true h, decide_eq_true (by rw [h])]
  · rw [decide_eq_false h, decide_eq_false (show ¬ a.data.toList = b.data.toList from fun q => h (ext_D q))]
/-- Two fuels. -/
def Ev2 {α : Type} (F : Nat → Nat → Option α) (Q : α → Prop) : Prop := ∃ r, Q r ∧ ∃ N, ∀ m n, N ≤ m → N ≤ n → F m n = some r
theorem Ev2.some {α : Type} {r : α} {Q : α → Prop} (h : Q r) : Ev2 (fun _ _ => Option.some r) Q := ⟨r, h, 0, fun _ _ _ _ => rfl⟩
theorem Ev2.bind {α β : Type} {F : Nat → Nat → Option β} {k : Nat → Nat → β → Option α} {P : β → Prop} {Q : α → Prop} (h : Ev2 F P) (hk : ∀ r, P r → Ev2 (fun m n => k m n r) Q) : Ev2 (fun m n => (F m n).bind (k m n)) Q := by
  obtain ⟨r, hr, N, hN⟩ := h
  obtain ⟨s, hs, M, hM⟩ := hk r hr
  refine ⟨s, hs, max N M, fun m n h1 h2 => ?_⟩
  show (F m n).bind (k m n) = _
  rw [hN m n (by omega) (by omega)]
  exact hM m n (by omega) (by omega)
theorem Ev2.succ {α : Type} {F : Nat → Nat → Option α} {Q : α → Prop} (h : Ev2 (fun m n => F m (n + 1)) Q) : Ev2 F Q := by
  obtain ⟨r, hr, N, hN⟩ := h
  refine ⟨r, hr, N + 1, fun m n h1 h2 => ?_⟩
  obtain ⟨k, rfl⟩ : ∃ k, n = k + 1 := ⟨n - 1, by omega⟩
  exact hN m k (by omega) (by omega)
theorem Ev2.mono {α : Type} {F : Nat → Nat → Option α} {Q R : α → Prop} (h : Ev2 F Q) (k : ∀ r, Q r → R r) : Ev2 F R := by
  obtain ⟨r, hr, h⟩ := h
  exact ⟨r, k r hr, h⟩
theorem Ev2.diag {α : Type} {F : Nat → Nat → Option α} {Q : α → Prop} (h : Ev2 F Q) : Ev (fun n => F n n) Q := by
  obtain ⟨r, hr, N, hN⟩ := h
  exact ⟨r, hr, N, fun n hn => hN n n hn hn⟩
theorem Ev2.left {α : Type} {f : Nat → Option α} {Q : α → Prop} (h : Ev f Q) : Ev2 (fun m _ => f m) Q := by
  obtain ⟨r, hr, N, hN⟩ := h
  exact ⟨r, hr, N, fun m _ hm _ => hN m hm⟩
theorem Ev2.of {α : Type} {o : Option α} {r : α} {Q : α → Prop} (h : o = Option.some r) (hq : Q r) : Ev2 (fun _ _ => o) Q := ⟨r, hq, 0, fun _ _ _ _ => h⟩
theorem Ev2.pos {α : Type} {c : Prop} [Decidable c] {F G : Nat → Nat → Option α} {Q : α → Prop} (hc : c) (h : Ev2 F Q) : Ev2 (fun m n => if c then F m n else G m n) Q := by
  simpa only [if_pos hc] using h
theorem Ev2.neg {α : Type} {c : Prop} [Decidable c] {F G : Nat → Nat → Option α} {Q : α → Prop} (hc : ¬ c) (h : Ev2 G Q) : Ev2 (fun m n => if c then F m n else G m n) Q := by
  simpa only [if_neg hc] using h
/-! A piece that is looked for. -/
abbrev Rd := PT × List BA × Int × Bool
theorem took_nil (s : BA) (L : Int) (f : Bool) : f84_filter_reader_took s [] L f = some (false, [], L, f) := rfl
theorem took_cons (s x : BA) (r : List BA) (L : Int) (f : Bool) : f84_filter_reader_took s (x :: r) L f = some (if x = s then (true, r, L, f) else (false, x :: r, L, f)) := by
  unfold f84_filter_reader_took
  have e : ((x :: r).getD 0 ByteArray.empty) = x := rfl
  rw [if_neg (by simp only [List.length_cons, beq_iff_eq]; omega), if_pos (by simp only [List.length_cons]; omega), e, str_eqD]
  by_cases h : x = s
  · rw [decide_eq_true h, if_neg (by decide), if_pos (by simp [cutOk]; omega), if_pos h]
    simp
  · rw [decide_eq_false h, if_pos (by decide), if_neg h]
def Small (w : List BA) : Prop := ∀ x ∈ w, x.size ≤ 90000
def numS (op : Int) : List BA → PT × List BA × Bool
  | [] => (.nil, [], true)
  | y :: r => (.node op (parseR y.data.toList).1 .nil .nil, r, (parseR y.data.toList).2 != 0)
theorem number_is (op : Int) (w : List BA) (hw : Small w) (L : Int) : f115_filter_reader_number op w L false = some ((numS op w).1, (numS op w).2.1, L, (numS op w).2.2) := by
  unfold f115_filter_reader_number
  cases w with
  | nil => rfl
  | cons y r =>
    have hy := hw y List.mem_cons_self
    have e : ((y :: r).getD 0 ByteArray.empty) = y := rfl
    rw [if_neg (by simp only [List.length_cons, beq_iff_eq]; omega), if_pos (by simp only [List.length_cons]; omega), e]
    have hp : f51_num_Parse y = some (parseR y.data.toList) := by
      unfold f51_num_Parse
      rw [if_pos (by omega)]
    rw [hp, Option.bind_some, if_pos (by simp [cutOk]; omega), if_neg (by decide)]
    simp [numS]
def plainS : List BA → PT × List BA × Bool
  | [] => (.nil, [], true)
  | x :: r => if x = tAll then (.node 1 0 .nil .nil, r, false) else if x = tEmpty then (.node 11 0 .nil .nil, r, false) else if x = tSyn then (.node 2 1 .nil .nil, r, false) else if x = tAck then (.node 2 2 .nil .nil, r, false)
    else if x = tRst then (.node 2 4 .nil .nil, r, false) else if x = tPort then numS 3 r else if x = tSrc then numS 4 r else if x = tDst then numS 5 r else if x = tHas then numS 6 r else if x = tLong then numS 7 r else (.nil, x :: r, true)
theorem plainS_cons (x : BA) (r : List BA) : plainS (x :: r) = if x = tAll then (.node 1 0 .nil .nil, r, false) else if x = tEmpty then (.node 11 0 .nil .nil, r, false) else if x = tSyn then (.node 2 1 .nil .nil, r, false) else if x = tAck then (.node 2 2 .nil .nil, r, false)
    else if x = tRst then (.node 2 4 .nil .nil, r, false) else if x = tPort then numS 3 r else if x = tSrc then numS 4 r else if x = tDst then numS 5 r else if x = tHas then numS 6 r else if x = tLong then numS 7 r else (.nil, x :: r, true) := rfl
theorem plain_is (w : List BA) (hw : Small w) (L : Int) : f112_filter_reader_plain w L false = some ((plainS w).1, (plainS w).2.1, L, (plainS w).2.2) := by
  cases w with
  | nil => rfl
  | cons x r =>
    have hr : Small r := fun y hy => hw y (List.mem_cons_of_mem _ hy)
    unfold f112_filter_reader_plain
    by_cases h1 : x = tAll
    · have e : plainS (x :: r) = (.node 1 0 .nil .nil, r, false) := by rw [plainS_cons, if_pos h1]
      rw [e, took_cons, if_pos h1]; rfl
    rw [took_cons, if_neg h1, Option.bind_some]
    dsimp only
    try rw [if_neg Bool.false_ne_true]
    by_cases h2 : x = tEmpty
    · have e : plainS (x :: r) = (.node 11 0 .nil .nil, r, false) := by rw [plainS_cons, if_neg h1, if_pos h2]
      rw [e, took_cons, if_pos h2]; rfl
    rw [took_cons, if_neg h2, Option.bind_some]
    dsimp only
    try rw [if_neg Bool.false_ne_true]
    by_cases h3 : x = tSyn
    · have e : plainS (x :: r) = (.node 2 1 .nil .nil, r, false) := by rw [plainS_cons, if_neg h1, if_neg h2, if_pos h3]
      rw [e, took_cons, if_pos h3]; rfl
    rw [took_cons, if_neg h3, Option.bind_some]
    dsimp only
    try rw [if_neg Bool.false_ne_true]
    by_cases h4 : x = tAck
    · have e : plainS (x :: r) = (.node 2 2 .nil .nil, r, false) := by rw [plainS_cons, if_neg h1, if_neg h2, if_neg h3, if_pos h4]
      rw [e, took_cons, if_pos h4]; rfl
    rw [took_cons, if_neg h4, Option.bind_some]
    dsimp only
    try rw [if_neg Bool.false_ne_true]
    by_cases h5 : x = tRst
    · have e : plainS (x :: r) = (.node 2 4 .nil .nil, r, false) := by rw [plainS_cons, if_neg h1, if_neg h2, if_neg h3, if_neg h4, if_pos h5]
      rw [e, took_cons, if_pos h5]; rfl
    rw [took_cons, if_neg h5, Option.bind_some]
    dsimp only
    try rw [if_neg Bool.false_ne_true]
    by_cases h6 : x = tPort
    · have e : plainS (x :: r) = numS 3 r := by rw [plainS_cons, if_neg h1, if_neg h2, if_neg h3, if_neg h4, if_neg h5, if_pos h6]
      rw [e, took_cons, if_pos h6, Option.bind_some]; dsimp only; rw [if_pos rfl, number_is 3 r hr]; rfl
    rw [took_cons, if_neg h6, Option.bind_some]
    dsimp only
    try rw [if_neg Bool.false_ne_true]
    by_cases h7 : x = tSrc
    · have e : plainS (x :: r) = numS 4 r := by rw [plainS_cons, if_neg h1, if_neg h2, if_neg h3, if_neg h4, if_neg h5, if_neg h6, if_pos h7]
      rw [e, took_cons, if_pos h7, Option.bind_some]; dsimp only; rw [if_pos rfl, number_is 4 r hr]; rfl
    rw [took_cons, if_neg h7, Option.bind_some]
    dsimp only
    try rw [if_neg Bool.false_ne_true]
    by_cases h8 : x = tDst
    · have e : plainS (x :: r) = numS 5 r := by rw [plainS_cons, if_neg h1, if_neg h2, if_neg h3, if_neg h4, if_neg h5, if_neg h6, if_neg h7, if_pos h8]
      rw [e, took_cons, if_pos h8, Option.bind_some]; dsimp only; rw [if_pos rfl, number_is 5 r hr]; rfl
    rw [took_cons, if_neg h8, Option.bind_some]
    dsimp only
    try rw [if_neg Bool.false_ne_true]
    by_cases h9 : x = tHas
    · have e : plainS (x :: r) = numS 6 r := by rw [plainS_cons, if_neg h1, if_neg h2, if_neg h3, if_neg h4, if_neg h5, if_neg h6, if_neg h7, if_neg h8, if_pos h9]
      rw [e, took_cons, if_pos h9, Option.bind_some]; dsimp only; rw [if_pos rfl, number_is 6 r hr]; rfl
    rw [took_cons, if_neg h9, Option.bind_some]
    dsimp only
    try rw [if_neg Bool.false_ne_true]
    by_cases h10 : x = tLong
    · have e : plainS (x :: r) = numS 7 r := by rw [plainS_cons, if_neg h1, if_neg h2, if_neg h3, if_neg h4, if_neg h5, if_neg h6, if_neg h7, if_neg h8, if_neg h9, if_pos h10]
      rw [e, took_cons, if_pos h10, Option.bind_some]; dsimp only; rw [if_pos rfl, number_is 7 r hr]; rfl
    rw [took_cons, if_neg h10, Option.bind_some]
    dsimp only
    try rw [if_neg Bool.false_ne_true]
    have e : plainS (x :: r) = (.nil, x :: r, true) := by rw [plainS_cons, if_neg h1, if_neg h2, if_neg h3, if_neg h4, if_neg h5, if_neg h6, if_neg h7, if_neg h8, if_neg h9, if_neg h10]
    rw [e]
theorem numS_split (op : Int) (w ρ : List BA) (t : PT) (h : numS op w = (t, ρ, false)) : ∃ u, w = u ++ ρ ∧ numS op u = (t, [], false) := by
  cases w with
  | nil => cases h
  | cons y r =>
    obtain ⟨h1, h2⟩ := Prod.mk.inj h
    obtain ⟨h2, h3⟩ := Prod.mk.inj h2
    subst h2
    exact ⟨[y], rfl, by rw [← h1, ← h3]; rfl⟩
theorem numS_app (op : Int) (u ρ : List BA) (t : PT) (h : numS op u = (t, [], false)) : numS op (u ++ ρ) = (t, ρ, false) := by
  cases u with
  | nil => cases h
  | cons y r =>
    obtain ⟨h1, h2⟩ := Prod.mk.inj h
    obtain ⟨h2, h3⟩ := Prod.mk.inj h2
    have h2 : r = [] := h2
    subst h2
    show ((PT.node op _ _ _), ρ, _) = _
    rw [h1, h3]
theorem plainS_split (w ρ : List BA) (t : PT) (h : plainS w = (t, ρ, false)) : ∃ u, w = u ++ ρ ∧ plainS u = (t, [], false) := by
  cases w with
  | nil => cases h
  | cons x r =>
    have one : ∀ t', (t', r, false) = (t, ρ, false) → plainS [x] = (t', [], false) → ∃ u, x :: r = u ++ ρ ∧ plainS u = (t, [], false) := by
      intro t' q q2
      obtain ⟨e1, e2⟩ := Prod.mk.inj q
      obtain ⟨e2, _⟩ := Prod.mk.inj e2
      subst e1; subst e2
      exact ⟨[x], rfl, q2⟩
    have num : ∀ op, numS op r = (t, ρ, false) → (∀ u, plainS (x :: u) = numS op u) → ∃ u, x :: r = u ++ ρ ∧ plainS u = (t, [], false) := by
      intro op q q2
      obtain ⟨u, e1, e2⟩ := numS_split op r ρ t q
      exact ⟨x :: u, by rw [e1]; rfl, by rw [q2]; exact e2⟩
    rw [plainS_cons] at h
    by_cases h1 : x = tAll
    · rw [if_pos h1] at h; exact one _ h (by rw [plainS_cons, if_pos h1])
    rw [if_neg h1] at h
    by_cases h2 : x = tEmpty
    · rw [if_pos h2] at h; exact one _ h (by rw [plainS_cons, if_neg h1, if_pos h2])
    rw [if_neg h2] at h
    by_cases h3 : x = tSyn
    · rw [if_pos h3] at h; exact one _ h (by rw [plainS_cons, if_neg h1, if_neg h2, if_pos h3])
    rw [if_neg h3] at h
    by_cases h4 : x = tAck
    · rw [if_pos h4] at h; exact one _ h (by rw [plainS_cons, if_neg h1, if_neg h2, if_neg h3, if_pos h4])
    rw [if_neg h4] at h
    by_cases h5 : x = tRst
    · rw [if_pos h5] at h; exact one _ h (by rw [plainS_cons, if_neg h1, if_neg h2, if_neg h3, if_neg h4, if_pos h5])
    rw [if_neg h5] at h
    by_cases h6 : x = tPort
    · rw [if_pos h6] at h; exact num 3 h (fun u => by rw [plainS_cons, if_neg h1, if_neg h2, if_neg h3, if_neg h4, if_neg h5, if_pos h6])
    rw [if_neg h6] at h
    by_cases h7 : x = tSrc
    · rw [if_pos h7] at h; exact num 4 h (fun u => by rw [plainS_cons, if_neg h1, if_neg h2, if_neg h3, if_neg h4, if_neg h5, if_neg h6, if_pos h7])
    rw [if_neg h7] at h
    by_cases h8 : x = tDst
    · rw [if_pos h8] at h; exact num 5 h (fun u => by rw [plainS_cons, if_neg h1, if_neg h2, if_neg h3, if_neg h4, if_neg h5, if_neg h6, if_neg h7, if_pos h8])
    rw [if_neg h8] at h
    by_cases h9 : x = tHas
    · rw [if_pos h9] at h; exact num 6 h (fun u => by rw [plainS_cons, if_neg h1, if_neg h2, if_neg h3, if_neg h4, if_neg h5, if_neg h6, if_neg h7, if_neg h8, if_pos h9])
    rw [if_neg h9] at h
    by_cases h10 : x = tLong
    · rw [if_pos h10] at h; exact num 7 h (fun u => by rw [plainS_cons, if_neg h1, if_neg h2, if_neg h3, if_neg h4, if_neg h5, if_neg h6, if_neg h7, if_neg h8, if_neg h9, if_pos h10])
    rw [if_neg h10] at h
    cases h
theorem plainS_app (u ρ : List BA) (t : PT) (h : plainS u = (t, [], false)) : plainS (u ++ ρ) = (t, ρ, false) := by
  cases u with
  | nil => cases h
  | cons x r =>
    have one : ∀ t', (t', r, false) = (t, [], false) → (t', r ++ ρ, false) = (t, ρ, false) := by
      intro t' q
      obtain ⟨e1, e2⟩ := Prod.mk.inj q
      obtain ⟨e2, _⟩ := Prod.mk.inj e2
      have e2 : r = [] := e2
      rw [e1, e2]; rfl
    rw [plainS_cons] at h
    show plainS (x :: (r ++ ρ)) = _
    rw [plainS_cons]
    split
    · rename_i c; rw [if_pos c] at h; exact one _ h
    rename_i c1; rw [if_neg c1] at h
    split
    · rename_i c; rw [if_pos c] at h; exact one _ h
    rename_i c1; rw [if_neg c1] at h
    split
    · rename_i c; rw [if_pos c] at h; exact one _ h
    rename_i c1; rw [if_neg c1] at h
    split
    · rename_i c; rw [if_pos c] at h; exact one _ h
    rename_i c1; rw [if_neg c1] at h
    split
    · rename_i c; rw [if_pos c] at h; exact one _ h
    rename_i c1; rw [if_neg c1] at h
    split
    · rename_i c; rw [if_pos c] at h; exact numS_app _ _ _ _ h
    rename_i c1; rw [if_neg c1] at h
    split
    · rename_i c; rw [if_pos c] at h; exact numS_app _ _ _ _ h
    rename_i c1; rw [if_neg c1] at h
    split
    · rename_i c; rw [if_pos c] at h; exact numS_app _ _ _ _ h
    rename_i c1; rw [if_neg c1] at h
    split
    · rename_i c; rw [if_pos c] at h; exact numS_app _ _ _ _ h
    rename_i c1; rw [if_neg c1] at h
    split
    · rename_i c; rw [if_pos c] at h; exact numS_app _ _ _ _ h
    rename_i c1; rw [if_neg c1] at h
    cases h
/-! THE GRAMMAR. -/
mutual
inductive GOne : Nat → List BA → PT → Prop
  | plain {L : Nat} {u : List BA} {t : PT} (h : plainS u = (t, [], false)) : GOne (L + 1) u t
  | neg {L : Nat} {u : List BA} {t : PT} (h : GOne L u t) : GOne (L + 1) (tNot :: u) (.node 8 0 t .nil)
  | par {L : Nat} {u : List BA} {t : PT} (h : GOr L u t) : GOne (L + 1) (tOpen :: (u ++ [tClose])) t
inductive GAnd : Nat → List BA → PT → Prop
  | one {L : Nat} {u : List BA} {t : PT} (h : GOne L u t) : GAnd L u t
  | and {L : Nat} {u v : List BA} {a b : PT} (h : GAnd L u a) (k : GOne L v b) : GAnd L (u ++ tAnd :: v) (.node 9 0 a b)
inductive GOr : Nat → List BA → PT → Prop
  | and {L : Nat} {u : List BA} {t : PT} (h : GAnd L u t) : GOr L u t
  | or {L : Nat} {u v : List BA} {a b : PT} (h : GOr L u a) (k : GAnd L v b) : GOr L (u ++ tOr :: v) (.node 10 0 a b)
end

theorem Small.app {u v : List BA} (h : Small (u ++ v)) : Small u ∧ Small v := ⟨fun x hx => h x (List.mem_append_left _ hx), fun x hx => h x (List.mem_append_right _ hx)⟩
theorem Small.tail {x : BA} {v : List BA} (h : Small (x :: v)) : Small v := fun y hy => h y (List.mem_cons_of_mem _ hy)
theorem Ev2.ret {α β : Type} {r : β} {k : Nat → Nat → β → Option α} {Q : α → Prop} (h : Ev2 (fun m n => k m n r) Q) : Ev2 (fun m n => (Option.some r).bind (k m n)) Q := h
def Says (G : List BA → PT → Prop) (L : Nat) (w : List BA) (r : Rd) : Prop := r.2.2.2 = false → r.2.2.1 = (L : Int) ∧ ∃ u, u ≠ [] ∧ w = u ++ r.2.1 ∧ G u r.1
theorem plain_ne {u : List BA} {t : PT} (h : plainS u = (t, [], false)) : u ≠ [] := fun e => by rw [e] at h; cases h
/-- one, by what one and or say of a level less. -/
theorem one_says (L : Nat) (hL : L ≤ 1000) (h1 : ∀ w, Small w → Ev2 (fun m n => f99_filter_reader_one (f54_filter_reader_or m) n w (L : Int) false) (Says (GOne L) L w))
    (h2 : ∀ w, Small w → Ev2 (fun m _ => f54_filter_reader_or m w (L : Int) false) (Says (GOr L) L w)) (w : List BA) (hw : Small w) :
    Ev2 (fun m n => f99_filter_reader_one (f54_filter_reader_or m) n w ((L + 1 : Nat) : Int) false) (Says (GOne (L + 1)) (L + 1) w) := by
  apply Ev2.succ
  simp only [f99_filter_reader_one]
  have eL : IntKind.wrap .i64 (((L + 1 : Nat) : Int) - 1) = (L : Int) := by rw [i64_id (by omega) (by omega)]; omega
  rw [eL]
  refine Ev2.neg (by simp only [decide_eq_true_eq]; omega) ?_
  have fin : ∀ r : Rd, Says (fun u t => GOne (L + 1) u t) L w r → Says (GOne (L + 1)) (L + 1) w (r.1, r.2.1, IntKind.wrap .i64 (r.2.2.1 + 1), r.2.2.2) := by
    intro r hr hf
    obtain ⟨e, u, q1, q2, q3⟩ := hr hf
    refine ⟨?_, u, q1, q2, q3⟩
    show IntKind.wrap .i64 (r.2.2.1 + 1) = _
    rw [e, i64_id (by omega) (by omega)]; omega
  refine Ev2.bind (P := Says (fun u t => GOne (L + 1) u t) L w) ?_ (fun r hr => Ev2.some (fin r hr))
  unfold f99_filter_reader_one_D5
  have plain : ∀ x r, w = x :: r → Ev2 (fun m n => (f112_filter_reader_plain (x :: r) (L : Int) false).bind fun p => some (p.1, p.2.1, p.2.2.1, p.2.2.2)) (Says (fun u t => GOne (L + 1) u t) L w) := by
    intro x r e
    subst e
    rw [plain_is (x :: r) hw]
    refine Ev2.some (fun hf => ⟨rfl, ?_⟩)
    obtain ⟨u, q1, q2⟩ := plainS_split (x :: r) (plainS (x :: r)).2.1 (plainS (x :: r)).1 (by
      have hf : (plainS (x :: r)).2.2 = false := hf
      rw [← hf])
    exact ⟨u, plain_ne q2, q1, .plain q2⟩
  cases w with
  | nil =>
    rw [took_nil]
    refine Ev2.ret (Ev2.neg Bool.false_ne_true ?_)
    dsimp only
    rw [took_nil]
    refine Ev2.ret (Ev2.neg Bool.false_ne_true ?_)
    exact Ev2.some (fun hf => by cases hf)
  | cons x r =>
    have hr := hw.tail
    by_cases hn : x = tNot
    · rw [took_cons, if_pos hn]
      refine Ev2.ret (Ev2.pos rfl ?_)
      refine Ev2.bind (h1 r hr) (fun a ha => Ev2.some (fun hf => ?_))
      obtain ⟨e, u, q1, q2, q3⟩ := ha hf
      refine ⟨e, x :: u, by simp, by rw [q2]; rfl, ?_⟩
      rw [hn]
      exact .neg q3
    · rw [took_cons, if_neg hn]
      refine Ev2.ret (Ev2.neg Bool.false_ne_true ?_)
      dsimp only
      by_cases ho : x = tOpen
      · rw [took_cons, if_pos ho]
        refine Ev2.ret (Ev2.pos rfl ?_)
        refine Ev2.bind (h2 r hr) (fun a ha => ?_)
        obtain ⟨t, ρ, l, f⟩ := a
        dsimp only
        cases ρ with
        | nil =>
          rw [took_nil]
          exact Ev2.some (fun hf => by cases hf)
        | cons y ρ =>
          by_cases hc : y = tClose
          · rw [took_cons, if_pos hc]
            refine Ev2.ret (Ev2.neg (show ¬ (!true) = true by decide) ?_)
            refine Ev2.some (fun hf => ?_)
            obtain ⟨e, u, q1, q2, q3⟩ := ha hf
            refine ⟨e, x :: (u ++ [y]), by simp, ?_, ?_⟩
            · have q2 : r = u ++ y :: ρ := q2
              rw [q2]; simp
            · rw [ho, hc]; exact .par q3
          · rw [took_cons, if_neg hc]
            refine Ev2.ret (Ev2.pos (show (!false) = true from rfl) ?_)
            exact Ev2.some (fun hf => by cases hf)
      · rw [took_cons, if_neg ho]
        refine Ev2.ret (Ev2.neg Bool.false_ne_true ?_)
        exact plain x r rfl
theorem one_zero (w : List BA) : Ev2 (fun m n => f99_filter_reader_one (f54_filter_reader_or m) n w ((0 : Nat) : Int) false) (Says (GOne 0) 0 w) := by
  apply Ev2.succ
  simp only [f99_filter_reader_one]
  exact Ev2.pos (by decide) (Ev2.some (fun hf => by cases hf))
/-- The loops of and, or. -/
def Goes2 (G : List BA → PT → Prop) (L : Nat) (t : PT) (w : List BA) (r : Rd) : Prop := r.2.2.2 = false → r.2.2.1 = (L : Int) ∧ ∃ u, w = u ++ r.2.1 ∧ ∀ v, G v t → G (v ++ u) r.1
theorem andL_fail (t : PT) (w : List BA) (l : Int) : Ev2 (fun m n => f83_filter_reader_and_L2 (f54_filter_reader_or m) n t w l true) (fun r => r.2.2.2 = true) := by
  apply Ev2.succ
  simp only [f83_filter_reader_and_L2]
  exact Ev2.neg (by decide) (Ev2.some rfl)
theorem andL_says (L : Nat) (h1 : ∀ w, Small w → Ev2 (fun m n => f99_filter_reader_one (f54_filter_reader_or m) n w (L : Int) false) (Says (GOne L) L w)) : ∀ (k : Nat) (w : List BA) (hk : w.length ≤ k) (hw : Small w) (t : PT),
    Ev2 (fun m n => f83_filter_reader_and_L2 (f54_filter_reader_or m) n t w (L : Int) false) (Goes2 (GAnd L) L t w) := by
  intro k
  induction k with
  | zero =>
    intro w hk hw t
    obtain rfl : w = [] := List.eq_nil_of_length_eq_zero (by omega)
    apply Ev2.succ
    simp only [f83_filter_reader_and_L2]
    refine Ev2.pos (by decide) ?_
    rw [took_nil]
    exact Ev2.ret (Ev2.neg Bool.false_ne_true (Ev2.some (fun _ => ⟨rfl, [], rfl, fun v hv => by rw [List.append_nil]; exact hv⟩)))
  | succ k ih =>
    intro w hk hw t
    apply Ev2.succ
    simp only [f83_filter_reader_and_L2]
    refine Ev2.pos (by decide) ?_
    cases w with
    | nil =>
      rw [took_nil]
      exact Ev2.ret (Ev2.neg Bool.false_ne_true (Ev2.some (fun _ => ⟨rfl, [], rfl, fun v hv => by rw [List.append_nil]; exact hv⟩)))
    | cons x r =>
      by_cases hx : x = tAnd
      · rw [took_cons, if_pos hx]
        refine Ev2.ret (Ev2.pos rfl (Ev2.bind (h1 r hw.tail) (fun a ha => ?_)))
        obtain ⟨b, ρ, l, f⟩ := a
        dsimp only
        cases f with
        | true => exact (andL_fail _ _ _).mono (fun q hq hf => by rw [hq] at hf; cases hf)
        | false =>
          obtain ⟨e, u, q1, q2, q3⟩ := ha rfl
          have e : l = (L : Int) := e
          have p0 : r = u ++ ρ := q2
          subst e
          have hlen : ρ.length ≤ k := by
            have := congrArg List.length p0
            rw [List.length_append] at this
            rw [List.length_cons] at hk
            have : u.length ≠ 0 := fun z => q1 (List.eq_nil_of_length_eq_zero z)
            omega
          have hs : Small ρ := by rw [p0] at hw; exact (Small.app hw.tail).2
          refine (ih ρ hlen hs (.node 9 0 t b)).mono (fun c hc hf => ?_)
          obtain ⟨e1, u', p1, p2⟩ := hc hf
          refine ⟨e1, x :: (u ++ u'), by rw [p0, p1]; simp, fun v hv => ?_⟩
          have := p2 (v ++ tAnd :: u) (.and hv q3)
          rw [hx]
          simpa using this
      · rw [took_cons, if_neg hx]
        exact Ev2.ret (Ev2.neg Bool.false_ne_true (Ev2.some (fun _ => ⟨rfl, [], rfl, fun v hv => by rw [List.append_nil]; exact hv⟩)))
theorem and_says (L : Nat) (h1 : ∀ w, Small w → Ev2 (fun m n => f99_filter_reader_one (f54_filter_reader_or m) n w (L : Int) false) (Says (GOne L) L w)) (w : List BA) (hw : Small w) :
    Ev2 (fun m n => f83_filter_reader_and (f54_filter_reader_or m) n w (L : Int) false) (Says (GAnd L) L w) := by
  unfold f83_filter_reader_and
  refine Ev2.bind (h1 w hw) (fun a ha => ?_)
  obtain ⟨b, ρ, l, f⟩ := a
  dsimp only
  cases f with
  | true => exact Ev2.bind (andL_fail b ρ l) (fun q hq => Ev2.some (fun hf => by have hf : q.2.2.2 = false := hf; rw [hq] at hf; cases hf))
  | false =>
    obtain ⟨e, u, q1, q2, q3⟩ := ha rfl
    have e : l = (L : Int) := e
    have p0 : w = u ++ ρ := q2
    subst e
    have hs : Small ρ := by rw [p0] at hw; exact (Small.app hw).2
    refine Ev2.bind (andL_says L h1 ρ.length ρ (Nat.le_refl _) hs b) (fun c hc => Ev2.some (fun hf => ?_))
    obtain ⟨e1, u', p1, p2⟩ := hc hf
    refine ⟨e1, u ++ u', by simp [q1], ?_, p2 u (.one q3)⟩
    show w = (u ++ u') ++ c.2.1
    rw [p0, p1]; simp
theorem orL_fail (t : PT) (w : List BA) (l : Int) : Ev2 (fun m n => f54_filter_reader_or_L2 (f54_filter_reader_or m) n t w l true) (fun r => r.2.2.2 = true) := by
  apply Ev2.succ
  simp only [f54_filter_reader_or_L2]
  exact Ev2.neg (by decide) (Ev2.some rfl)
theorem orL_says (L : Nat) (h1 : ∀ w, Small w → Ev2 (fun m n => f83_filter_reader_and (f54_filter_reader_or m) n w (L : Int) false) (Says (GAnd L) L w)) : ∀ (k : Nat) (w : List BA) (hk : w.length ≤ k) (hw : Small w) (t : PT),
    Ev2 (fun m n => f54_filter_reader_or_L2 (f54_filter_reader_or m) n t w (L : Int) false) (Goes2 (GOr L) L t w) := by
  intro k
  induction k with
  | zero =>
    intro w hk hw t
    obtain rfl : w = [] := List.eq_nil_of_length_eq_zero (by omega)
    apply Ev2.succ
    simp only [f54_filter_reader_or_L2]
    refine Ev2.pos (by decide) ?_
    rw [took_nil]
    exact Ev2.ret (Ev2.neg Bool.false_ne_true (Ev2.some (fun _ => ⟨rfl, [], rfl, fun v hv => by rw [List.append_nil]; exact hv⟩)))
  | succ k ih =>
    intro w hk hw t
    apply Ev2.succ
    simp only [f54_filter_reader_or_L2]
    refine Ev2.pos (by decide) ?_
    cases w with
    | nil =>
      rw [took_nil]
      exact Ev2.ret (Ev2.neg Bool.false_ne_true (Ev2.some (fun _ => ⟨rfl, [], rfl, fun v hv => by rw [List.append_nil]; exact hv⟩)))
    | cons x r =>
      by_cases hx : x = tOr
      · rw [took_cons, if_pos hx]
        refine Ev2.ret (Ev2.pos rfl (Ev2.bind (h1 r hw.tail) (fun a ha => ?_)))
        obtain ⟨b, ρ, l, f⟩ := a
        dsimp only
        cases f with
        | true => exact (orL_fail _ _ _).mono (fun q hq hf => by rw [hq] at hf; cases hf)
        | false =>
          obtain ⟨e, u, q1, q2, q3⟩ := ha rfl
          have e : l = (L : Int) := e
          have p0 : r = u ++ ρ := q2
          subst e
          have hlen : ρ.length ≤ k := by
            have := congrArg List.length p0
            rw [List.length_append] at this
            rw [List.length_cons] at hk
            have : u.length ≠ 0 := fun z => q1 (List.eq_nil_of_length_eq_zero z)
            omega
          have hs : Small ρ := by rw [p0] at hw; exact (Small.app hw.tail).2
          refine (ih ρ hlen hs (.node 10 0 t b)).mono (fun c hc hf => ?_)
          obtain ⟨e1, u', p1, p2⟩ := hc hf
          refine ⟨e1, x :: (u ++ u'), by rw [p0, p1]; simp, fun v hv => ?_⟩
          have := p2 (v ++ tOr :: u) (.or hv q3)
          rw [hx]
          simpa using this
      · rw [took_cons, if_neg hx]
        exact Ev2.ret (Ev2.neg Bool.false_ne_true (Ev2.some (fun _ => ⟨rfl, [], rfl, fun v hv => by rw [List.append_nil]; exact hv⟩)))
theorem or_says (L : Nat) (h1 : ∀ w, Small w → Ev2 (fun m n => f83_filter_reader_and (f54_filter_reader_or m) n w (L : Int) false) (Says (GAnd L) L w)) (w : List BA) (hw : Small w) :
    Ev (fun n => f54_filter_reader_or n w (L : Int) false) (Says (GOr L) L w) := by
  apply Ev.succ
  simp only [f54_filter_reader_or]
  refine Ev2.diag (F := fun m n => (f83_filter_reader_and (f54_filter_reader_or m) n w (L : Int) false).bind fun r => (f54_filter_reader_or_L2 (f54_filter_reader_or m) n r.1 r.2.1 r.2.2.1 r.2.2.2).bind fun w160 => some (w160.1, w160.2.1, w160.2.2.1, w160.2.2.2)) ?_
  refine Ev2.bind (h1 w hw) (fun a ha => ?_)
  obtain ⟨b, ρ, l, f⟩ := a
  dsimp only
  cases f with
  | true => exact Ev2.bind (orL_fail b ρ l) (fun q hq => Ev2.some (fun hf => by have hf : q.2.2.2 = false := hf; rw [hq] at hf; cases hf))
  | false =>
    obtain ⟨e, u, q1, q2, q3⟩ := ha rfl
    have e : l = (L : Int) := e
    have p0 : w = u ++ ρ := q2
    subst e
    have hs : Small ρ := by rw [p0] at hw; exact (Small.app hw).2
    refine Ev2.bind (orL_says L h1 ρ.length ρ (Nat.le_refl _) hs b) (fun c hc => Ev2.some (fun hf => ?_))
    obtain ⟨e1, u', p1, p2⟩ := hc hf
    refine ⟨e1, u ++ u', by simp [q1], ?_, p2 u (.and q3)⟩
    show w = (u ++ u') ++ c.2.1
    rw [p0, p1]; simp
/-- All levels. -/
theorem one_all : ∀ (L : Nat) (hL : L ≤ 1000) (w : List BA), Small w → Ev2 (fun m n => f99_filter_reader_one (f54_filter_reader_or m) n w (L : Int) false) (Says (GOne L) L w)
  | 0, _, w, hw => one_zero w
  | L + 1, hL, w, hw => by
    have ih := one_all L (by omega)
    exact one_says L (by omega) ih (fun w hw => Ev2.left (or_says L (and_says L ih) w hw)) w hw
/-- The reader reads the grammar. -/
theorem or_all (L : Nat) (hL : L ≤ 1000) (w : List BA) (hw : Small w) : Ev (fun n => f54_filter_reader_or n w (L : Int) false) (Says (GOr L) L w) :=
  or_says L (and_says L (one_all L hL)) w hw

def NotHead (s : BA) (ρ : List BA) : Prop := ∀ x r, ρ = x :: r → x ≠ s
theorem andL_stop (t : PT) (ρ : List BA) (L : Int) (h : NotHead tAnd ρ) : Ev2 (fun m n => f83_filter_reader_and_L2 (f54_filter_reader_or m) n t ρ L false) (fun r => r = (t, ρ, L, false)) := by
  apply Ev2.succ
  simp only [f83_filter_reader_and_L2]
  refine Ev2.pos (by decide) ?_
  cases ρ with
  | nil => rw [took_nil]; exact Ev2.ret (Ev2.neg Bool.false_ne_true (Ev2.some rfl))
  | cons x r => rw [took_cons, if_neg (h x r rfl)]; exact Ev2.ret (Ev2.neg Bool.false_ne_true (Ev2.some rfl))
theorem orL_stop (t : PT) (ρ : List BA) (L : Int) (h : NotHead tOr ρ) : Ev2 (fun m n => f54_filter_reader_or_L2 (f54_filter_reader_or m) n t ρ L false) (fun r => r = (t, ρ, L, false)) := by
  apply Ev2.succ
  simp only [f54_filter_reader_or_L2]
  refine Ev2.pos (by decide) ?_
  cases ρ with
  | nil => rw [took_nil]; exact Ev2.ret (Ev2.neg Bool.false_ne_true (Ev2.some rfl))
  | cons x r => rw [took_cons, if_neg (h x r rfl)]; exact Ev2.ret (Ev2.neg Bool.false_ne_true (Ev2.some rfl))
theorem plain_head {x : BA} {r : List BA} {t : PT} (h : plainS (x :: r) = (t, [], false)) : x ≠ tNot ∧ x ≠ tOpen ∧ x ≠ tClose ∧ x ≠ tAnd ∧ x ≠ tOr := by
  have bad : ∀ y : BA, (y = tAll ∨ y = tEmpty ∨ y = tSyn ∨ y = tAck ∨ y = tRst ∨ y = tPort ∨ y = tSrc ∨ y = tDst ∨ y = tHas ∨ y = tLong) → (y ≠ tNot ∧ y ≠ tOpen ∧ y ≠ tClose ∧ y ≠ tAnd ∧ y ≠ tOr) := by
    intro y hy
    rcases hy with rfl | rfl | rfl | rfl | rfl | rfl | rfl | rfl | rfl | rfl <;> decide
  apply bad
  apply Classical.byContradiction
  intro q
  simp only [not_or] at q
  obtain ⟨h1, h2, h3, h4, h5, h6, h7, h8, h9, h10⟩ := q
  rw [plainS_cons, if_neg h1, if_neg h2, if_neg h3, if_neg h4, if_neg h5, if_neg h6, if_neg h7, if_neg h8, if_neg h9, if_neg h10] at h
  cases h
mutual
theorem one_reads : ∀ {L : Nat} {u : List BA} {t : PT} (h : GOne L u t) (hL : L ≤ 1000) (ρ : List BA) (hs : Small (u ++ ρ)), Ev2 (fun m n => f99_filter_reader_one (f54_filter_reader_or m) n (u ++ ρ) (L : Int) false) (fun r => r = (t, ρ, (L : Int), false))
  | _, _, _, .plain (L := L) (u := u) (t := t) h, hL, ρ, hs => by
    have eL : IntKind.wrap .i64 (((L + 1 : Nat) : Int) - 1) = (L : Int) := by rw [i64_id (by omega) (by omega)]; omega
    have eB : IntKind.wrap .i64 ((L : Int) + 1) = ((L + 1 : Nat) : Int) := by rw [i64_id (by omega) (by omega)]; omega
    apply Ev2.succ
    simp only [f99_filter_reader_one]
    rw [eL]
    refine Ev2.neg (by simp only [decide_eq_true_eq]; omega) (Ev2.bind (P := fun r => r = (t, ρ, (L : Int), false)) ?_ ?_)
    · unfold f99_filter_reader_one_D5
      cases u with
      | nil => cases h
      | cons x r =>
        obtain ⟨p1, p2, _⟩ := plain_head h
        show Ev2 (fun m n => (f84_filter_reader_took _ (x :: (r ++ ρ)) (L : Int) false).bind _) _
        rw [took_cons, if_neg p1]
        refine Ev2.ret (Ev2.neg Bool.false_ne_true ?_)
        dsimp only
        rw [took_cons, if_neg p2]
        refine Ev2.ret (Ev2.neg Bool.false_ne_true ?_)
        have e := plainS_app (x :: r) ρ t h
        have e : plainS (x :: (r ++ ρ)) = (t, ρ, false) := e
        dsimp only
        rw [plain_is (x :: (r ++ ρ)) hs, e]
        exact Ev2.some rfl
    · rintro _ rfl
      refine Ev2.some ?_
      dsimp only
      rw [eB]
  | _, _, _, .neg (L := L) (u := u) (t := t) h, hL, ρ, hs => by
    have eL : IntKind.wrap .i64 (((L + 1 : Nat) : Int) - 1) = (L : Int) := by rw [i64_id (by omega) (by omega)]; omega
    have eB : IntKind.wrap .i64 ((L : Int) + 1) = ((L + 1 : Nat) : Int) := by rw [i64_id (by omega) (by omega)]; omega
    have ih := one_reads h (by omega) ρ (Small.tail (x := tNot) hs)
    apply Ev2.succ
    simp only [f99_filter_reader_one]
    rw [eL]
    refine Ev2.neg (by simp only [decide_eq_true_eq]; omega) (Ev2.bind (P := fun r => r = (.node 8 0 t .nil, ρ, (L : Int), false)) ?_ ?_)
    · unfold f99_filter_reader_one_D5
      show Ev2 (fun m n => (f84_filter_reader_took _ (tNot :: (u ++ ρ)) (L : Int) false).bind _) _
      rw [took_cons, if_pos rfl]
      refine Ev2.ret (Ev2.pos rfl (Ev2.bind ih ?_))
      rintro _ rfl
      exact Ev2.some rfl
    · rintro _ rfl
      refine Ev2.some ?_
      dsimp only
      rw [eB]
  | _, _, _, .par (L := L) (u := u) (t := t) h, hL, ρ, hs => by
    have eL : IntKind.wrap .i64 (((L + 1 : Nat) : Int) - 1) = (L : Int) := by rw [i64_id (by omega) (by omega)]; omega
    have eB : IntKind.wrap .i64 ((L : Int) + 1) = ((L + 1 : Nat) : Int) := by rw [i64_id (by omega) (by omega)]; omega
    have ea : tOpen :: (u ++ [tClose]) ++ ρ = tOpen :: (u ++ tClose :: ρ) := by simp
    rw [ea] at hs ⊢
    have ih := or_reads h (by omega) (tClose :: ρ) (fun r => r = (t, tClose :: ρ, (L : Int), false)) hs.tail (by rintro _ _ e; cases e; decide) (orL_stop t (tClose :: ρ) L (by rintro _ _ e; cases e; decide))
    apply Ev2.succ
    simp only [f99_filter_reader_one]
    rw [eL]
    refine Ev2.neg (by simp only [decide_eq_true_eq]; omega) (Ev2.bind (P := fun r => r = (t, ρ, (L : Int), false)) ?_ ?_)
    · unfold f99_filter_reader_one_D5
      rw [took_cons, if_neg (show ¬ tOpen = tNot by decide)]
      refine Ev2.ret (Ev2.neg Bool.false_ne_true ?_)
      dsimp only
      rw [took_cons, if_pos rfl]
      refine Ev2.ret (Ev2.pos rfl (Ev2.bind (Ev2.left ih) ?_))
      rintro _ rfl
      dsimp only
      rw [took_cons, if_pos rfl]
      exact Ev2.ret (Ev2.neg (show ¬ (!true) = true by decide) (Ev2.some rfl))
    · rintro _ rfl
      refine Ev2.some ?_
      dsimp only
      rw [eB]
theorem and_reads : ∀ {L : Nat} {u : List BA} {t : PT} (h : GAnd L u t) (hL : L ≤ 1000) (ρ : List BA) (Q : Rd → Prop) (hs : Small (u ++ ρ)) (hr : Ev2 (fun m n => f83_filter_reader_and_L2 (f54_filter_reader_or m) n t ρ (L : Int) false) Q),
    Ev2 (fun m n => f83_filter_reader_and (f54_filter_reader_or m) n (u ++ ρ) (L : Int) false) Q
  | _, _, _, .one h, hL, ρ, Q, hs, hr => by
    have ih := one_reads h hL ρ hs
    unfold f83_filter_reader_and
    refine Ev2.bind ih ?_
    rintro _ rfl
    exact Ev2.bind hr (fun r hr => Ev2.some hr)
  | _, _, _, .and (L := L) (u := u) (v := v) (a := a) (b := b) h k, hL, ρ, Q, hs, hr => by
    have ea : u ++ tAnd :: v ++ ρ = u ++ (tAnd :: (v ++ ρ)) := by simp
    rw [ea] at hs ⊢
    have ik := one_reads k hL ρ (Small.tail (Small.app hs).2)
    refine and_reads h hL (tAnd :: (v ++ ρ)) Q hs ?_
    apply Ev2.succ
    simp only [f83_filter_reader_and_L2]
    refine Ev2.pos (by decide) ?_
    rw [took_cons, if_pos rfl]
    refine Ev2.ret (Ev2.pos rfl (Ev2.bind ik ?_))
    rintro _ rfl
    exact hr
theorem or_reads : ∀ {L : Nat} {u : List BA} {t : PT} (h : GOr L u t) (hL : L ≤ 1000) (ρ : List BA) (Q : Rd → Prop) (hs : Small (u ++ ρ)) (hn : NotHead tAnd ρ) (hr : Ev2 (fun m n => f54_filter_reader_or_L2 (f54_filter_reader_or m) n t ρ (L : Int) false) Q),
    Ev (fun n => f54_filter_reader_or n (u ++ ρ) (L : Int) false) Q
  | _, _, _, .and (L := L) (u := u) (t := t) h, hL, ρ, Q, hs, hn, hr => by
    have ih := and_reads h hL ρ (fun r => r = (t, ρ, (L : Int), false)) hs (andL_stop t ρ L hn)
    apply Ev.succ
    simp only [f54_filter_reader_or]
    refine Ev2.diag (F := fun m n => (f83_filter_reader_and (f54_filter_reader_or m) n (u ++ ρ) (L : Int) false).bind fun r => (f54_filter_reader_or_L2 (f54_filter_reader_or m) n r.1 r.2.1 r.2.2.1 r.2.2.2).bind fun w160 => some (w160.1, w160.2.1, w160.2.2.1, w160.2.2.2)) ?_
    refine Ev2.bind ih ?_
    rintro _ rfl
    exact Ev2.bind hr (fun r hr => Ev2.some hr)
  | _, _, _, .or (L := L) (u := u) (v := v) (a := a) (b := b) h k, hL, ρ, Q, hs, hn, hr => by
    have ea : u ++ tOr :: v ++ ρ = u ++ (tOr :: (v ++ ρ)) := by simp
    rw [ea] at hs ⊢
    have ik := and_reads k hL ρ (fun r => r = (b, ρ, (L : Int), false)) (Small.tail (Small.app hs).2) (andL_stop b ρ L hn)
    refine or_reads h hL (tOr :: (v ++ ρ)) Q hs (by rintro _ _ e; cases e; decide) ?_
    apply Ev2.succ
    simp only [f54_filter_reader_or_L2]
    refine Ev2.pos (by decide) ?_
    rw [took_cons, if_pos rfl]
    refine Ev2.ret (Ev2.pos rfl (Ev2.bind ik ?_))
    rintro _ rfl
    exact hr
end

/-- How a piece opens or closes. -/
def dep (x : BA) : Int := if x = tOpen then 1 else if x = tClose then -1 else 0
theorem dep_range (x : BA) : -1 ≤ dep x ∧ dep x ≤ 1 := by unfold dep; split <;> (try split) <;> omega
/-- The last place of a word outside all brackets. -/
def lastS (s : BA) : List BA → Int → Int → Nat → Int
  | [], at_, _, _ => at_
  | x :: r, at_, o, i => lastS s r (if x = s ∧ o + dep x = 0 then (i : Int) else at_) (o + dep x) (i + 1)
theorem last_loop (w : List BA) (s : BA) (hw : w.length ≤ 1000000) : ∀ (d i : Nat) (hi : i + d = w.length) (a o : Int) (ho : -(i : Int) ≤ o ∧ o ≤ i), Ev (fun n => f85_broughamref35_last_L3 n w s a o (i : Int)) (fun r => r = lastS s (w.drop i) a o i)
  | 0, i, hi, a, o, ho => by
    apply Ev.succ
    unfold f85_broughamref35_last_L3
    rw [List.drop_eq_nil_of_le (by omega)]
    exact Ev.neg (by simp only [decide_eq_true_eq]; omega) (Ev.some rfl)
  | d + 1, i, hi, a, o, ho => by
    have hdr : w.drop i = w.getD i ByteArray.empty :: w.drop (i + 1) := drop_cons (by omega) _
    have ih := fun a o h => last_loop w s hw d (i + 1) (by omega) a o h
    apply Ev.succ
    unfold f85_broughamref35_last_L3
    rw [i64_id (e := (i : Int) + 1) (by omega) (by omega), i64_id (e := o + 1) (by omega) (by omega), i64_id (e := o + 1 - 1) (by omega) (by omega), i64_id (e := o - 1) (by omega) (by omega), Int.toNat_natCast, hdr, lastS, str_eqD, str_eqD, str_eqD]
    generalize w.getD i ByteArray.empty = x
    have hx := dep_range x
    have fin : ∀ (o' a' : Int), o' = o + dep x → a' = (if x = s ∧ o + dep x = 0 then (i : Int) else a) → Ev (fun n => f85_broughamref35_last_L3 n w s a' o' ((i : Int) + 1)) (fun r => r = lastS s (w.drop (i + 1)) (if x = s ∧ o + dep x = 0 then (i : Int) else a) (o + dep x) (i + 1)) := by
      intro o' a' e1 e2
      subst e1; subst e2
      exact ih _ _ (by omega)
    refine Ev.pos (by simp only [decide_eq_true_eq]; omega) (Ev.guard (by omega) ?_)
    have rest : ∀ o' : Int, o' = o + dep x → Ev (fun n => if (0 : Int) ≤ (i : Int) ∧ (i : Int) < ((w.length : Nat) : Int) then
        if decide (x = s) = true then if (o' == 0) = true then f85_broughamref35_last_L3 n w s (i : Int) o' ((i : Int) + 1) else f85_broughamref35_last_L3 n w s a o' ((i : Int) + 1)
        else f85_broughamref35_last_L3 n w s a o' ((i : Int) + 1) else none) (fun r => r = lastS s (w.drop (i + 1)) (if x = s ∧ o + dep x = 0 then (i : Int) else a) (o + dep x) (i + 1)) := by
      intro o' e
      refine Ev.guard (by omega) (Ev.ite (fun c => Ev.ite (fun c2 => ?_) (fun c2 => ?_)) (fun c => ?_))
      · simp only [decide_eq_true_eq] at c
        simp only [beq_iff_eq] at c2
        exact fin o' _ e (by rw [if_pos ⟨c, by omega⟩])
      · simp only [beq_iff_eq] at c2
        exact fin o' _ e (by rw [if_neg (fun q => c2 (by omega))])
      · simp only [decide_eq_true_eq] at c
        exact fin o' _ e (by rw [if_neg (fun q => c q.1)])
    refine Ev.ite (fun c => Ev.guard (by omega) (Ev.ite (fun c2 => ?_) (fun c2 => ?_))) (fun c => Ev.guard (by omega) (Ev.ite (fun c2 => ?_) (fun c2 => ?_)))
    · simp only [decide_eq_true_eq] at c c2
      rw [c] at c2
      exact absurd c2 (by decide)
    · simp only [decide_eq_true_eq] at c
      exact rest (o + 1) (by unfold dep; rw [if_pos c])
    · simp only [decide_eq_true_eq] at c c2
      exact rest (o - 1) (by unfold dep; rw [if_neg c, if_pos c2]; omega)
    · simp only [decide_eq_true_eq] at c c2
      exact rest o (by unfold dep; rw [if_neg c, if_neg c2]; omega)
theorem last_ev (w : List BA) (s : BA) (hw : w.length ≤ 1000000) : Ev (fun n => f85_broughamref35_last n w s) (fun r => r = lastS s w (-1) 0 0) := by
  unfold f85_broughamref35_last
  refine Ev.bind (last_loop w s hw w.length 0 (by omega) (-1) 0 (by omega)) ?_
  rintro _ rfl
  exact Ev.some (by rw [List.drop_zero])
/-- Does the last bracket close the first one? -/
def closesS : List BA → Int → Bool
  | [], o => decide (o = 0)
  | x :: r, o => if o + dep x = 0 ∧ r ≠ [] then false else closesS r (o + dep x)
def G5 (r : Bool ⊕ Int) : Bool := match r with
  | .inl e => e
  | .inr o => decide (o = 0)
theorem closes_loop (w : List BA) (hw : w.length ≤ 1000000) : ∀ (d i : Nat) (hi : i + d = w.length) (o : Int) (ho : -(i : Int) ≤ o ∧ o ≤ i), Ev (fun n => f100_broughamref35_closes_L3 n w o (i : Int)) (fun r => G5 r = closesS (w.drop i) o)
  | 0, i, hi, o, ho => by
    apply Ev.succ
    unfold f100_broughamref35_closes_L3
    rw [List.drop_eq_nil_of_le (by omega)]
    exact Ev.neg (by simp only [decide_eq_true_eq]; omega) (Ev.some rfl)
  | d + 1, i, hi, o, ho => by
    have hdr : w.drop i = w.getD i ByteArray.empty :: w.drop (i + 1) := drop_cons (by omega) _
    have hlen : (w.drop (i + 1)).length = d := by rw [List.length_drop]; omega
    have ih := fun o h => closes_loop w hw d (i + 1) (by omega) o h
    apply Ev.succ
    unfold f100_broughamref35_closes_L3
    rw [i64_id (e := (i : Int) + 1) (by omega) (by omega), i64_id (e := o + 1) (by omega) (by omega), i64_id (e := o + 1 - 1) (by omega) (by omega), i64_id (e := o - 1) (by omega) (by omega), i64_id (e := ((w.length : Nat) : Int) - 1) (by omega) (by omega), Int.toNat_natCast, hdr, closesS, str_eqD, str_eqD]
    generalize w.getD i ByteArray.empty = x
    have hx := dep_range x
    have rest : ∀ o' : Int, o' = o + dep x → Ev (fun n => if (o' == 0) = true then if decide ((i : Int) < ((w.length : Nat) : Int) - 1) = true then some (.inl false) else f100_broughamref35_closes_L3 n w o' ((i : Int) + 1)
        else f100_broughamref35_closes_L3 n w o' ((i : Int) + 1)) (fun r => G5 r = if o + dep x = 0 ∧ w.drop (i + 1) ≠ [] then false else closesS (w.drop (i + 1)) (o + dep x)) := by
      intro o' e
      subst e
      refine Ev.ite (fun c => Ev.ite (fun c2 => Ev.some ?_) (fun c2 => ?_)) (fun c => ?_)
      · simp only [beq_iff_eq] at c
        simp only [decide_eq_true_eq] at c2
        rw [if_pos ⟨c, fun e => by rw [e] at hlen; simp at hlen; omega⟩]; rfl
      · simp only [decide_eq_true_eq] at c2
        rw [if_neg (fun q => q.2 (List.eq_nil_of_length_eq_zero (by omega)))]
        exact ih _ (by omega)
      · simp only [beq_iff_eq] at c
        rw [if_neg (fun q => c q.1)]
        exact ih _ (by omega)
    refine Ev.pos (by simp only [decide_eq_true_eq]; omega) (Ev.guard (by omega) (Ev.ite (fun c => Ev.guard (by omega) (Ev.ite (fun c2 => ?_) (fun c2 => ?_))) (fun c => Ev.guard (by omega) (Ev.ite (fun c2 => ?_) (fun c2 => ?_)))))
    · simp only [decide_eq_true_eq] at c c2
      rw [c] at c2
      exact absurd c2 (by decide)
    · simp only [decide_eq_true_eq] at c
      exact rest (o + 1) (by unfold dep; rw [if_pos c])
    · simp only [decide_eq_true_eq] at c c2
      exact rest (o - 1) (by unfold dep; rw [if_neg c, if_pos c2]; omega)
    · simp only [decide_eq_true_eq] at c c2
      exact rest o (by unfold dep; rw [if_neg c, if_neg c2]; omega)
theorem closes_ev (w : List BA) (hw : w.length ≤ 1000000) : Ev (fun n => f100_broughamref35_closes n w) (fun r => r = closesS w 0) := by
  unfold f100_broughamref35_closes
  refine Ev.bind (closes_loop w hw w.length 0 (by omega) 0 (by omega)) ?_
  intro r hr
  rw [List.drop_zero] at hr
  rcases r with e | e
  · exact Ev.some hr
  · refine Ev.some ?_
    rw [← hr]
    show (e == 0) = decide (e = 0)
    by_cases h : e = 0
    · rw [decide_eq_true h, h]; rfl
    · rw [decide_eq_false h]; simpa using h

def depS : List BA → Int
  | [] => 0
  | x :: r => dep x + depS r
theorem depS_app : ∀ u v : List BA, depS (u ++ v) = depS u + depS v
  | [], v => by simp [depS]
  | x :: u, v => by
    show dep x + depS (u ++ v) = dep x + depS u + depS v
    rw [depS_app u v]; omega
/-- A word doesn't stand at depth 0. -/
def Free (s : BA) : List BA → Int → Prop
  | [], _ => True
  | x :: r, o => ¬ (x = s ∧ o + dep x = 0) ∧ Free s r (o + dep x)
theorem free_app (s : BA) : ∀ (u v : List BA) (o : Int), Free s (u ++ v) o ↔ Free s u o ∧ Free s v (o + depS u)
  | [], v, o => by simp [Free, depS]
  | x :: u, v, o => by
    show (_ ∧ Free s (u ++ v) (o + dep x)) ↔ ((_ ∧ Free s u (o + dep x)) ∧ Free s v (o + (dep x + depS u)))
    rw [free_app s u v, show o + dep x + depS u = o + (dep x + depS u) by omega, and_assoc]
theorem lastS_app (s : BA) : ∀ (u v : List BA) (a o : Int) (i : Nat), lastS s (u ++ v) a o i = lastS s v (lastS s u a o i) (o + depS u) (i + u.length)
  | [], v, a, o, i => by simp [lastS, depS]
  | x :: u, v, a, o, i => by
    show lastS s (u ++ v) _ (o + dep x) (i + 1) = lastS s v (lastS s u _ (o + dep x) (i + 1)) (o + (dep x + depS u)) (i + (u.length + 1))
    rw [lastS_app s u v, show o + dep x + depS u = o + (dep x + depS u) by omega, show i + 1 + u.length = i + (u.length + 1) by omega]
theorem lastS_free (s : BA) : ∀ (u : List BA) (a o : Int) (i : Nat), Free s u o → lastS s u a o i = a
  | [], a, o, i, h => rfl
  | x :: u, a, o, i, h => by
    rw [lastS, if_neg h.1]
    exact lastS_free s u a _ _ h.2
/-- Where the last one stands, or that there is none. -/
theorem lastS_cases (s : BA) : ∀ (u : List BA) (a o : Int) (i : Nat), (lastS s u a o i = a ∧ Free s u o) ∨ ∃ p q, u = p ++ s :: q ∧ o + depS p + dep s = 0 ∧ Free s q 0 ∧ lastS s u a o i = ((i + p.length : Nat) : Int)
  | [], a, o, i => .inl ⟨rfl, trivial⟩
  | x :: u, a, o, i => by
    rw [lastS]
    rcases lastS_cases s u (if x = s ∧ o + dep x = 0 then (i : Int) else a) (o + dep x) (i + 1) with ⟨h1, h2⟩ | ⟨p, q, h1, h2, h3, h4⟩
    · by_cases hx : x = s ∧ o + dep x = 0
      · refine .inr ⟨[], u, by rw [hx.1]; rfl, ?_, ?_, ?_⟩
        · have := hx.2; rw [hx.1] at this; simp [depS]; omega
        · rw [hx.2] at h2; exact h2
        · rw [h1, if_pos hx]; simp
      · exact .inl ⟨by rw [h1, if_neg hx], hx, h2⟩
    · refine .inr ⟨x :: p, q, by rw [h1]; rfl, ?_, h3, ?_⟩
      · show o + (dep x + depS p) + dep s = 0
        omega
      · rw [h4]
        show ((i + 1 + p.length : Nat) : Int) = ((i + (p.length + 1) : Nat) : Int)
        congr 1; omega
/-- Brackets never close too much. -/
def Up (u : List BA) : Prop := ∀ p q, u = p ++ q → 0 ≤ depS p
theorem Up.free (s : BA) : ∀ (u : List BA) (o : Int), (∀ p q, u = p ++ q → 1 ≤ o + depS p) → Free s u o
  | [], o, h => trivial
  | x :: u, o, h => by
    have h1 := h [x] u rfl
    have e : depS [x] = dep x := by simp [depS]
    rw [e] at h1
    refine ⟨fun q => by omega, Up.free s u _ (fun p q e => ?_)⟩
    have h2 := h (x :: p) q (by rw [e]; rfl)
    have e2 : depS (x :: p) = dep x + depS p := rfl
    omega
theorem Up.app {u v : List BA} (hu : Up u) (hd : depS u = 0) (hv : Up v) : Up (u ++ v) := by
  intro p q e
  rcases List.append_eq_append_iff.1 e.symm with ⟨a, h1, h2⟩ | ⟨a, h1, h2⟩
  · exact hu p a h1
  · rw [h1, depS_app, hd]
    have := hv a q h2
    omega
theorem dep_word {x : BA} (h1 : x ≠ tOpen) (h2 : x ≠ tClose) : dep x = 0 := by unfold dep; rw [if_neg h1, if_neg h2]
/-- What the grammar's lists are. -/
structure Fits (u : List BA) : Prop where
  zero : depS u = 0
  up : Up u
theorem Fits.cons {x : BA} {u : List BA} (hx : dep x = 0) (h : Fits u) : Fits (x :: u) := by
  refine ⟨by show dep x + depS u = 0; rw [hx, h.zero]; rfl, fun p q e => ?_⟩
  cases p with
  | nil => exact Int.le_refl _
  | cons y p =>
    have e1 : x = y := (List.cons.inj e).1
    have e2 : u = p ++ q := (List.cons.inj e).2
    have := h.up p q e2
    show 0 ≤ dep y + depS p
    rw [← e1, hx]; omega
theorem Fits.nil : Fits [] := ⟨rfl, fun p q e => by
  have : p = [] := (List.append_eq_nil_iff.1 e.symm).1
  rw [this]; exact Int.le_refl _⟩
theorem Fits.app {u v : List BA} (hu : Fits u) (hv : Fits v) : Fits (u ++ v) := ⟨by rw [depS_app, hu.zero, hv.zero]; rfl, Up.app hu.up hu.zero hv.up⟩
theorem plain_fits : ∀ {u : List BA} {t : PT} (h : plainS u = (t, [], false)), Fits u ∧ Free tOr u 0 ∧ Free tAnd u 0 := by
  intro u t h
  cases u with
  | nil => cases h
  | cons x r =>
    obtain ⟨_, p2, p3, p4, p5⟩ := plain_head h
    have num : ∀ op, numS op r = (t, [], false) → Fits r ∧ Free tOr r 0 ∧ Free tAnd r 0 := by
      intro op q
      cases r with
      | nil => cases q
      | cons y r =>
        obtain ⟨_, q2⟩ := Prod.mk.inj q
        obtain ⟨q2, q3⟩ := Prod.mk.inj q2
        have q2 : r = [] := q2
        subst q2
        have ok : ∀ s : BA, (parseR s.data.toList).2 ≠ 0 → y ≠ s := by
          intro s hs e
          subst e
          have q3 : ((parseR y.data.toList).2 != 0) = false := q3
          simp only [bne_eq_false_iff_eq] at q3
          exact hs q3
        have e1 := ok tOpen (by decide)
        have e2 := ok tClose (by decide)
        have e3 := ok tOr (by decide)
        have e4 := ok tAnd (by decide)
        exact ⟨Fits.cons (dep_word e1 e2) Fits.nil, ⟨fun q => e3 q.1, trivial⟩, ⟨fun q => e4 q.1, trivial⟩⟩
    have hr : Fits r ∧ Free tOr r 0 ∧ Free tAnd r 0 := by
      have nilc : ∀ t' : PT, (t', r, false) = (t, ([] : List BA), false) → Fits r ∧ Free tOr r 0 ∧ Free tAnd r 0 := by
        intro t' q
        have e : r = [] := (Prod.mk.inj (Prod.mk.inj q).2).1
        subst e
        exact ⟨Fits.nil, trivial, trivial⟩
      rw [plainS_cons] at h
      repeat' split at h
      all_goals first | exact nilc _ h | exact num _ h | cases h
    have hd := dep_word p2 p3
    refine ⟨Fits.cons hd hr.1, ⟨fun q => p5 q.1, ?_⟩, ⟨fun q => p4 q.1, ?_⟩⟩
    · rw [hd]; exact hr.2.1
    · rw [hd]; exact hr.2.2
theorem par_fits {u : List BA} (h : Fits u) : Fits (tOpen :: (u ++ [tClose])) ∧ ∀ s, dep s = 0 → Free s (tOpen :: (u ++ [tClose])) 0 := by
  have e1 : dep tOpen = 1 := by decide
  have e2 : dep tClose = -1 := by decide
  refine ⟨⟨?_, fun p q e => ?_⟩, fun s hs => ?_⟩
  · show dep tOpen + depS (u ++ [tClose]) = 0
    rw [depS_app, h.zero, e1]
    show 1 + (0 + (dep tClose + 0)) = 0
    rw [e2]; rfl
  · cases p with
    | nil => exact Int.le_refl _
    | cons y p =>
      have f1 : tOpen = y := (List.cons.inj e).1
      have f2 : u ++ [tClose] = p ++ q := (List.cons.inj e).2
      show 0 ≤ dep y + depS p
      rw [← f1, e1]
      rcases List.append_eq_append_iff.1 f2 with ⟨a, h1, h2⟩ | ⟨a, h1, h2⟩
      · rw [h1, depS_app, h.zero]
        cases a with
        | nil => simp [depS]
        | cons z a =>
          have g1 : tClose = z := (List.cons.inj h2).1
          have g2 : a ++ q = [] := (List.cons.inj h2).2.symm
          have g3 : a = [] := (List.append_eq_nil_iff.1 g2).1
          subst g3
          show 0 ≤ 1 + (0 + (dep z + 0))
          rw [← g1, e2]; omega
      · have := h.up p a h1
        omega
  · refine ⟨fun q => by rw [← q.1, e1] at hs; omega, ?_⟩
    rw [e1]
    rw [free_app]
    refine ⟨Up.free s u 1 (fun p q e => by have := h.up p q e; omega), fun q => ?_, trivial⟩
    rw [← q.1, e2] at hs; omega
mutual
theorem one_fits : ∀ {L : Nat} {u : List BA} {t : PT} (h : GOne L u t), Fits u ∧ Free tOr u 0 ∧ Free tAnd u 0
  | _, _, _, .plain h => plain_fits h
  | _, _, _, .neg h => by
    obtain ⟨h1, h2, h3⟩ := one_fits h
    have hd : dep tNot = 0 := by decide
    exact ⟨Fits.cons hd h1, ⟨fun q => absurd q.1 (by decide), by rw [hd]; exact h2⟩, ⟨fun q => absurd q.1 (by decide), by rw [hd]; exact h3⟩⟩
  | _, _, _, .par h => by
    obtain ⟨h1, h2⟩ := par_fits (or_fits h)
    exact ⟨h1, h2 tOr (by decide), h2 tAnd (by decide)⟩
theorem and_fits : ∀ {L : Nat} {u : List BA} {t : PT} (h : GAnd L u t), Fits u ∧ Free tOr u 0
  | _, _, _, .one h => ⟨(one_fits h).1, (one_fits h).2.1⟩
  | _, _, _, .and h k => by
    obtain ⟨h1, h2⟩ := and_fits h
    obtain ⟨k1, k2, k3⟩ := one_fits k
    have hd : dep tAnd = 0 := by decide
    refine ⟨Fits.app h1 (Fits.cons hd k1), (free_app _ _ _ _).2 ⟨h2, ?_⟩⟩
    rw [h1.zero]
    exact ⟨fun q => absurd q.1 (by decide), by rw [hd]; exact k2⟩
theorem or_fits : ∀ {L : Nat} {u : List BA} {t : PT} (h : GOr L u t), Fits u
  | _, _, _, .and h => (and_fits h).1
  | _, _, _, .or h k => Fits.app (or_fits h) (Fits.cons (by decide) (and_fits k).1)
end

theorem or_inv {L : Nat} {u : List BA} {t : PT} (h : GOr L u t) (hf : Free tOr u 0) : GAnd L u t := by
  cases h with
  | and h => exact h
  | or h k =>
    have := ((free_app _ _ _ _).1 hf).2
    rw [(or_fits h).zero] at this
    exact absurd ⟨rfl, by decide⟩ this.1
theorem and_inv {L : Nat} {u : List BA} {t : PT} (h : GAnd L u t) (hf : Free tAnd u 0) : GOne L u t := by
  cases h with
  | one h => exact h
  | and h k =>
    have := ((free_app _ _ _ _).1 hf).2
    rw [(and_fits h).1.zero] at this
    exact absurd ⟨rfl, by decide⟩ this.1
/-- A tree as the document's. -/
def pk (x : Int × Int × List (Int × Int × List FT)) : Int × Int × List FT := (x.1, x.2.1, x.2.2.map FT.of)
def pf : PT → Int × Int × List (Int × Int × List FT)
  | .nil => (0, 0, [])
  | .node o n a b => (o, n, (if a.isNil = true then [] else [pk (pf a)]) ++ (if b.isNil = true then [] else [pk (pf b)]))
theorem of_un : ∀ l : List (Int × Int × List FT), (l.map FT.of).map FT.un = l
  | [] => rfl
  | x :: l => by
    show FT.un (FT.of x) :: (l.map FT.of).map FT.un = x :: l
    rw [of_un l]; rfl
mutual
theorem one_node : ∀ {L : Nat} {u : List BA} {t : PT} (h : GOne L u t), t.isNil = false
  | _, _, _, .plain (u := u) h => by
    cases u with
    | nil => cases h
    | cons x r =>
      have num : ∀ op t, numS op r = (t, [], false) → t.isNil = false := by
        intro op t q
        cases r with
        | nil => cases q
        | cons y r => rw [← (Prod.mk.inj q).1]; rfl
      rw [plainS_cons] at h
      repeat' split at h
      all_goals first | exact num _ _ h | (rw [← (Prod.mk.inj h).1]; rfl) | cases h
  | _, _, _, .neg h => rfl
  | _, _, _, .par h => or_node h
theorem and_node : ∀ {L : Nat} {u : List BA} {t : PT} (h : GAnd L u t), t.isNil = false
  | _, _, _, .one h => one_node h
  | _, _, _, .and h k => rfl
theorem or_node : ∀ {L : Nat} {u : List BA} {t : PT} (h : GOr L u t), t.isNil = false
  | _, _, _, .and h => and_node h
  | _, _, _, .or h k => rfl
end

/-- A part of a whole row of pieces. -/
def P6 : PT × List BA × Bool → Bool × Int × Int
  | (.node o n _ _, [], false) => (true, o, n)
  | _ => (false, 0, 0)
def plainR (w : List BA) : Bool × Int × Int := P6 (plainS w)
def wordS (k : Nat) : BA := if k = 3 then tPort else if k = 4 then tSrc else if k = 5 then tDst else if k = 6 then tHas else tLong
def findS (x : BA) (n : Int) : Nat → Nat → Bool × Int × Int
  | 0, _ => (false, 0, 0)
  | d + 1, k => if wordS k = x then (true, (k : Int), n) else findS x n d (k + 1)
def G6 (r : (Bool × Int × Int) ⊕ (Int × Int)) : Bool × Int × Int := match r with
  | .inl e => e
  | .inr _ => (false, 0, 0)
theorem word7 {k : Nat} (h1 : 3 ≤ k) (h2 : k ≤ 7) : f61_broughamref35_word (k : Int) = some (wordS k) := by
  rcases (show k = 3 ∨ k = 4 ∨ k = 5 ∨ k = 6 ∨ k = 7 by omega) with rfl | rfl | rfl | rfl | rfl <;> rfl
theorem words_loop (x y : BA) (n : Int) : ∀ (d k : Nat) (hk : k + d = 8) (h3 : 3 ≤ k), Ev (fun m => f101_broughamref35_plain_L18 m [x, y] n (k : Int) 0 0) (fun r => G6 r = findS x n d k)
  | 0, k, hk, h3 => by
    apply Ev.succ
    unfold f101_broughamref35_plain_L18
    exact Ev.neg (by simp only [decide_eq_true_eq]; omega) (Ev.some rfl)
  | d + 1, k, hk, h3 => by
    have ih := words_loop x y n d (k + 1) (by omega) (by omega)
    apply Ev.succ
    unfold f101_broughamref35_plain_L18
    rw [i64_id (e := (k : Int) + 1) (by omega) (by omega)]
    refine Ev.pos (by simp only [decide_eq_true_eq]; omega) (Ev.bind (P := fun r => r = wordS k) (Ev.of (word7 h3 (by omega)) rfl) ?_)
    rintro _ rfl
    have e : ([x, y] : List BA).getD 0 ByteArray.empty = x := rfl
    rw [e, str_eqD, findS]
    refine Ev.guard (by simp only [List.length_cons, List.length_nil]; omega) (Ev.ite (fun c => Ev.some ?_) (fun c => ?_))
    · rw [if_pos (by simpa using c)]; rfl
    · rw [if_neg (by simpa using c)]; exact ih
theorem find_is (x y : BA) (e0 : (parseR y.data.toList).2 = 0) : findS x (parseR y.data.toList).1 5 3 = plainR [x, y] := by
  have hb : ((parseR y.data.toList).2 != 0) = false := by rw [e0]; rfl
  have num : ∀ op, numS op [y] = (.node op (parseR y.data.toList).1 .nil .nil, [], false) := by
    intro op
    show (PT.node op _ _ _, [], _) = _
    rw [hb]
  by_cases h6 : x = tPort
  · subst h6
    unfold plainR
    rw [show plainS [tPort, y] = numS 3 [y] from rfl, num]
    rfl
  by_cases h7 : x = tSrc
  · subst h7
    unfold plainR
    rw [show plainS [tSrc, y] = numS 4 [y] from rfl, num]
    rfl
  by_cases h8 : x = tDst
  · subst h8
    unfold plainR
    rw [show plainS [tDst, y] = numS 5 [y] from rfl, num]
    rfl
  by_cases h9 : x = tHas
  · subst h9
    unfold plainR
    rw [show plainS [tHas, y] = numS 6 [y] from rfl, num]
    rfl
  by_cases h10 : x = tLong
  · subst h10
    unfold plainR
    rw [show plainS [tLong, y] = numS 7 [y] from rfl, num]
    rfl
  have f : findS x (parseR y.data.toList).1 5 3 = (false, 0, 0) := by
    unfold findS findS findS findS findS findS
    rw [if_neg (fun e => h6 e.symm), if_neg (fun e => h7 e.symm), if_neg (fun e => h8 e.symm), if_neg (fun e => h9 e.symm), if_neg (fun e => h10 e.symm)]
  rw [f]
  unfold plainR
  rw [plainS_cons, if_neg h6, if_neg h7, if_neg h8, if_neg h9, if_neg h10]
  by_cases h1 : x = tAll
  · rw [if_pos h1]; rfl
  rw [if_neg h1]
  by_cases h2 : x = tEmpty
  · rw [if_pos h2]; rfl
  rw [if_neg h2]
  by_cases h3 : x = tSyn
  · rw [if_pos h3]; rfl
  rw [if_neg h3]
  by_cases h4 : x = tAck
  · rw [if_pos h4]; rfl
  rw [if_neg h4]
  by_cases h5 : x = tRst
  · rw [if_pos h5]; rfl
  rw [if_neg h5]
  rfl
theorem num_nil (op : Int) : numS op [] = (.nil, [], true) := rfl
theorem plainR_one (x : BA) : plainR [x] = if x = tAll then (true, 1, 0) else if x = tEmpty then (true, 11, 0) else if x = tSyn then (true, 2, 1) else if x = tAck then (true, 2, 2) else if x = tRst then (true, 2, 4) else (false, 0, 0) := by
  unfold plainR
  rw [plainS_cons]
  by_cases h1 : x = tAll
  · rw [if_pos h1, if_pos h1]; rfl
  rw [if_neg h1, if_neg h1]
  by_cases h2 : x = tEmpty
  · rw [if_pos h2, if_pos h2]; rfl
  rw [if_neg h2, if_neg h2]
  by_cases h3 : x = tSyn
  · rw [if_pos h3, if_pos h3]; rfl
  rw [if_neg h3, if_neg h3]
  by_cases h4 : x = tAck
  · rw [if_pos h4, if_pos h4]; rfl
  rw [if_neg h4, if_neg h4]
  by_cases h5 : x = tRst
  · rw [if_pos h5, if_pos h5]; rfl
  rw [if_neg h5, if_neg h5]
  by_cases h6 : x = tPort
  · rw [if_pos h6]; rfl
  rw [if_neg h6]
  by_cases h7 : x = tSrc
  · rw [if_pos h7]; rfl
  rw [if_neg h7]
  by_cases h8 : x = tDst
  · rw [if_pos h8]; rfl
  rw [if_neg h8]
  by_cases h9 : x = tHas
  · rw [if_pos h9]; rfl
  rw [if_neg h9]
  by_cases h10 : x = tLong
  · rw [if_pos h10]; rfl
  rw [if_neg h10]
  rfl
theorem P6_more (t : PT) (z : BA) (r : List BA) (b : Bool) : P6 (t, z :: r, b) = (false, 0, 0) := by cases t <;> rfl
theorem plainR_more (x y z : BA) (r : List BA) : plainR (x :: y :: z :: r) = (false, 0, 0) := by
  have num : ∀ op, P6 (numS op (y :: z :: r)) = (false, 0, 0) := fun op => P6_more _ z r _
  unfold plainR
  rw [plainS_cons]
  by_cases h1 : x = tAll
  · rw [if_pos h1]; first | exact num _ | exact P6_more _ _ _ _
  rw [if_neg h1]
  by_cases h2 : x = tEmpty
  · rw [if_pos h2]; first | exact num _ | exact P6_more _ _ _ _
  rw [if_neg h2]
  by_cases h3 : x = tSyn
  · rw [if_pos h3]; first | exact num _ | exact P6_more _ _ _ _
  rw [if_neg h3]
  by_cases h4 : x = tAck
  · rw [if_pos h4]; first | exact num _ | exact P6_more _ _ _ _
  rw [if_neg h4]
  by_cases h5 : x = tRst
  · rw [if_pos h5]; first | exact num _ | exact P6_more _ _ _ _
  rw [if_neg h5]
  by_cases h6 : x = tPort
  · rw [if_pos h6]; first | exact num _ | exact P6_more _ _ _ _
  rw [if_neg h6]
  by_cases h7 : x = tSrc
  · rw [if_pos h7]; first | exact num _ | exact P6_more _ _ _ _
  rw [if_neg h7]
  by_cases h8 : x = tDst
  · rw [if_pos h8]; first | exact num _ | exact P6_more _ _ _ _
  rw [if_neg h8]
  by_cases h9 : x = tHas
  · rw [if_pos h9]; first | exact num _ | exact P6_more _ _ _ _
  rw [if_neg h9]
  by_cases h10 : x = tLong
  · rw [if_pos h10]; first | exact num _ | exact P6_more _ _ _ _
  rw [if_neg h10]
  exact P6_more _ _ _ _
theorem P6_bad (t : PT) (w : List BA) : P6 (t, w, true) = (false, 0, 0) := by cases t <;> cases w <;> rfl
theorem plainR_bad (x y : BA) (h : (parseR y.data.toList).2 ≠ 0) : plainR [x, y] = (false, 0, 0) := by
  have hb : ((parseR y.data.toList).2 != 0) = true := by simpa using h
  have num : ∀ op, P6 (numS op [y]) = (false, 0, 0) := by
    intro op
    show P6 (PT.node op _ _ _, [], _) = _
    rw [hb]; exact P6_bad _ _
  unfold plainR
  rw [plainS_cons]
  by_cases h1 : x = tAll
  · rw [if_pos h1]; first | exact num _ | exact P6_more _ _ _ _
  rw [if_neg h1]
  by_cases h2 : x = tEmpty
  · rw [if_pos h2]; first | exact num _ | exact P6_more _ _ _ _
  rw [if_neg h2]
  by_cases h3 : x = tSyn
  · rw [if_pos h3]; first | exact num _ | exact P6_more _ _ _ _
  rw [if_neg h3]
  by_cases h4 : x = tAck
  · rw [if_pos h4]; first | exact num _ | exact P6_more _ _ _ _
  rw [if_neg h4]
  by_cases h5 : x = tRst
  · rw [if_pos h5]; first | exact num _ | exact P6_more _ _ _ _
  rw [if_neg h5]
  by_cases h6 : x = tPort
  · rw [if_pos h6]; first | exact num _ | exact P6_more _ _ _ _
  rw [if_neg h6]
  by_cases h7 : x = tSrc
  · rw [if_pos h7]; first | exact num _ | exact P6_more _ _ _ _
  rw [if_neg h7]
  by_cases h8 : x = tDst
  · rw [if_pos h8]; first | exact num _ | exact P6_more _ _ _ _
  rw [if_neg h8]
  by_cases h9 : x = tHas
  · rw [if_pos h9]; first | exact num _ | exact P6_more _ _ _ _
  rw [if_neg h9]
  by_cases h10 : x = tLong
  · rw [if_pos h10]; first | exact num _ | exact P6_more _ _ _ _
  rw [if_neg h10]
  exact P6_more _ _ _ _
theorem refplain_ev (w : List BA) (hne : w ≠ []) (hl : w.length ≤ 1000000) : Ev (fun n => f101_broughamref35_plain n w) (fun r => r = plainR w) := by
  unfold f101_broughamref35_plain
  cases w with
  | nil => exact absurd rfl hne
  | cons x r =>
    have e0 : (x :: r).getD 0 ByteArray.empty = x := rfl
    rw [e0]
    cases r with
    | nil =>
      refine Ev.pos (by simp) (Ev.guard (by simp) ?_)
      rw [plainR_one, str_eqD, str_eqD, str_eqD, str_eqD, str_eqD]
      by_cases h1 : x = tAll
      · rw [if_pos h1]; exact Ev.pos (by simpa using h1) (Ev.some rfl)
      rw [if_neg h1]
      refine Ev.neg (by simpa using h1) ?_
      by_cases h2 : x = tEmpty
      · rw [if_pos h2]; exact Ev.pos (by simpa using h2) (Ev.some rfl)
      rw [if_neg h2]
      refine Ev.neg (by simpa using h2) ?_
      by_cases h3 : x = tSyn
      · rw [if_pos h3]; exact Ev.pos (by simpa using h3) (Ev.some rfl)
      rw [if_neg h3]
      refine Ev.neg (by simpa using h3) ?_
      by_cases h4 : x = tAck
      · rw [if_pos h4]; exact Ev.pos (by simpa using h4) (Ev.some rfl)
      rw [if_neg h4]
      refine Ev.neg (by simpa using h4) ?_
      by_cases h5 : x = tRst
      · rw [if_pos h5]; exact Ev.pos (by simpa using h5) (Ev.some rfl)
      rw [if_neg h5]
      exact Ev.neg (by simpa using h5) (Ev.some rfl)
    | cons y r =>
      have e1 : (x :: y :: r).getD 1 ByteArray.empty = y := rfl
      rw [e1]
      refine Ev.neg (by simp only [List.length_cons, beq_iff_eq]; omega) (Ev.guard (by simp only [List.length_cons]; omega) (Ev.bind (refparse_is y) ?_))
      rintro _ rfl
      cases r with
      | cons z r =>
        refine Ev.pos (by simp only [List.length_cons, bne_iff_ne]; omega) (Ev.some ?_)
        rw [plainR_more]
      | nil =>
        refine Ev.neg (by simp) (Ev.ite (fun c => Ev.some ?_) (fun c => ?_))
        · rw [plainR_bad x y (by simpa using c)]
        · have c : (parseR y.data.toList).2 = 0 := by simpa using c
          refine Ev.bind (words_loop x y (parseR y.data.toList).1 5 3 rfl (Nat.le_refl 3)) ?_
          intro q hq
          rw [find_is x y c] at hq
          rcases q with e | e
          · exact Ev.some hq
          · exact Ev.some hq

abbrev RR := Bool × Int × Int × List (Int × Int × List FT)
def RSays (G : Nat → List BA → PT → Prop) (L : Int) (w : List BA) (r : RR) : Prop := r.1 = true → ∃ (K : Nat) (t : PT), L = (K : Int) ∧ G K w t ∧ r.2 = pf t
theorem RSays.no {G : Nat → List BA → PT → Prop} {L : Int} {w : List BA} {x : Int × Int × List (Int × Int × List FT)} : RSays G L w (false, x) := fun h => by cases h
theorem plainR_true {w : List BA} {o n : Int} (h : plainR w = (true, o, n)) : ∃ t, plainS w = (t, [], false) ∧ pf t = (o, n, []) := by
  unfold plainR at h
  have key : ∀ (q : PT × List BA × Bool), P6 q = (true, o, n) → ∃ a b, q = (.node o n a b, [], false) := by
    intro q hq
    obtain ⟨t, ρ, f⟩ := q
    cases t with
    | nil => cases ρ <;> cases f <;> cases hq
    | node o' n' a b =>
      cases ρ with
      | cons x r => cases f <;> cases hq
      | nil =>
        cases f with
        | true => cases hq
        | false => cases hq; exact ⟨a, b, rfl⟩
  obtain ⟨a, b, e⟩ := key _ h
  refine ⟨_, e, ?_⟩
  have nils : a = .nil ∧ b = .nil := by
    cases w with
    | nil => cases e
    | cons x r =>
      have num : ∀ op, numS op r = (.node o n a b, [], false) → a = .nil ∧ b = .nil := by
        intro op q
        cases r with
        | nil => cases q
        | cons y r =>
          have := (Prod.mk.inj q).1
          cases this
          exact ⟨rfl, rfl⟩
      rw [plainS_cons] at e
      repeat' split at e
      all_goals first | exact num _ e | (cases e; exact ⟨rfl, rfl⟩) | cases e
  rw [nils.1, nils.2]; rfl
theorem pf_not {t : PT} (h : t.isNil = false) : pf (.node 8 0 t .nil) = (8, 0, [pk (pf t)]) := by
  show (8, 0, (if t.isNil = true then [] else [pk (pf t)]) ++ []) = _
  rw [h]; rfl
theorem pf_two {o : Int} {a b : PT} (h : a.isNil = false) (k : b.isNil = false) : pf (.node o 0 a b) = (o, 0, [pk (pf a), pk (pf b)]) := by
  show (o, 0, (if a.isNil = true then [] else [pk (pf a)]) ++ (if b.isNil = true then [] else [pk (pf b)])) = _
  rw [h, k]; rfl
theorem mid_split {x : BA} {r : List BA} (hl : (x :: r).length > 2) (hc : (x :: r).getD ((x :: r).length - 1) ByteArray.empty = tClose) : x :: r = x :: (((x :: r).take ((x :: r).length - 1)).drop 1 ++ [tClose]) := by
  have hne : r ≠ [] := by intro e; subst e; simp at hl
  have e1 : ((x :: r).take ((x :: r).length - 1)).drop 1 = r.dropLast := by
    rw [List.length_cons, Nat.add_sub_cancel]
    cases r with
    | nil => exact absurd rfl hne
    | cons y r =>
      show ((x :: y :: r).take (r.length + 1)).drop 1 = _
      rw [List.take_succ_cons, List.drop_one, List.tail_cons, List.dropLast_eq_take]
      simp
  have e2 : r.getLast hne = tClose := by
    rw [← hc, List.getLast_eq_getElem, List.getD_eq_getElem?_getD, List.length_cons, Nat.add_sub_cancel]
    cases r with
    | nil => exact absurd rfl hne
    | cons y r =>
      rw [List.getElem?_cons]
      simp
  rw [e1, ← e2, List.dropLast_concat_getLast]
theorem wsub {L : Int} (h : -1 ≤ L ∧ L ≤ 1000) : IntKind.wrap .i64 (L - 1) = L - 1 := i64_id (by omega) (by omega)
/-- one, by what read says of shorter rows. -/
theorem refone_says (k : Nat) (hk : k ≤ 1000000) (hr : ∀ (w : List BA) (L : Int), w.length < k → -1 ≤ L ∧ L ≤ 1000 → Ev (fun m => f55_broughamref35_read m w L) (RSays GOr L w)) : ∀ (d : Nat) (w : List BA) (L : Int), w.length ≤ d → d ≤ k → -2 ≤ L ∧ L ≤ 1000 →
    Ev2 (fun m n => f86_broughamref35_one (f55_broughamref35_read m) n w L) (RSays GOne L w) := by
  intro d
  induction d with
  | zero =>
    intro w L hd hdk hL
    obtain rfl : w = [] := List.eq_nil_of_length_eq_zero (by omega)
    apply Ev2.succ
    simp only [f86_broughamref35_one]
    exact Ev2.pos (by simp) (Ev2.some RSays.no)
  | succ d ih =>
    intro w L hd hdk hL
    apply Ev2.succ
    simp only [f86_broughamref35_one]
    cases w with
    | nil => exact Ev2.pos (by simp) (Ev2.some RSays.no)
    | cons x r =>
      refine Ev2.neg (by simp only [List.length_cons, beq_iff_eq]; omega) ?_
      by_cases hL1 : L < 1
      · exact Ev2.pos (decide_eq_true hL1) (Ev2.some RSays.no)
      refine Ev2.neg (by simpa using hL1) (Ev2.pos (by simp only [List.length_cons]; omega) ?_)
      have e0 : (x :: r).getD 0 ByteArray.empty = x := rfl
      rw [e0, str_eqD, str_eqD, wsub (by omega)]
      by_cases hn : x = tNot
      · refine Ev2.pos (decide_eq_true hn) (Ev2.pos (by simp [cutOk]; omega) ?_)
        have e1 : ((x :: r).take (x :: r).length).drop 1 = r := by simp
        rw [e1]
        refine Ev2.bind (ih r (L - 1) (by simp at hd; omega) (by omega) (by omega)) (fun a ha => Ev2.some (fun hf => ?_))
        obtain ⟨K, t, q1, q2, q3⟩ := ha hf
        refine ⟨K + 1, .node 8 0 t .nil, by omega, by rw [hn]; exact .neg q2, ?_⟩
        rw [pf_not (one_node q2), ← q3]; rfl
      refine Ev2.neg (by simpa using hn) (Ev2.pos (by simp only [List.length_cons]; omega) ?_)
      have plain : Ev2 (fun _ n => (f101_broughamref35_plain n (x :: r)).bind fun p => some (p.1, p.2.1, p.2.2, [])) (RSays GOne L (x :: r)) := by
        have hp : Ev2 (fun _ n => f101_broughamref35_plain n (x :: r)) (fun q => q = plainR (x :: r)) := by
          obtain ⟨q, h1, N, h2⟩ := refplain_ev (x :: r) (by simp) (by omega)
          exact ⟨q, h1, N, fun m n _ hn => h2 n hn⟩
        refine Ev2.bind hp ?_
        rintro _ rfl
        refine Ev2.some (fun hf => ?_)
        obtain ⟨t, q1, q2⟩ := plainR_true (w := x :: r) (o := (plainR (x :: r)).2.1) (n := (plainR (x :: r)).2.2) (by
          have hf : (plainR (x :: r)).1 = true := hf
          rw [← hf])
        obtain ⟨K, rfl⟩ : ∃ K : Nat, L = ((K + 1 : Nat) : Int) := ⟨(L - 1).toNat, by omega⟩
        exact ⟨K + 1, t, rfl, .plain q1, q2.symm⟩
      by_cases ho : x = tOpen
      · have el : IntKind.wrap .i64 ((((x :: r).length : Nat) : Int) - 1) = (((x :: r).length - 1 : Nat) : Int) := by
          rw [i64_id (by simp only [List.length_cons]; omega) (by omega)]
          simp only [List.length_cons]; omega
        refine Ev2.pos (decide_eq_true ho) ?_
        rw [el, Int.toNat_natCast]
        refine Ev2.pos (by simp only [List.length_cons]; omega) ?_
        rw [str_eqD]
        by_cases hc : (x :: r).getD ((x :: r).length - 1) ByteArray.empty = tClose
        · refine Ev2.pos (decide_eq_true hc) ?_
          by_cases h2 : (x :: r).length > 2
          · refine Ev2.pos (decide_eq_true (by omega)) ?_
            have hcl : Ev2 (fun _ n => f100_broughamref35_closes n (x :: r)) (fun q => q = closesS (x :: r) 0) := by
              obtain ⟨q, h1, N, h2⟩ := closes_ev (x :: r) (by omega)
              exact ⟨q, h1, N, fun m n _ hn => h2 n hn⟩
            refine Ev2.bind hcl ?_
            rintro _ rfl
            cases hcc : closesS (x :: r) 0 with
            | false => exact Ev2.neg Bool.false_ne_true plain
            | true =>
              refine Ev2.pos rfl (Ev2.pos (by
                have h1 : (x :: r).length - 1 + 1 = (x :: r).length := by omega
                generalize (x :: r).length = nn at *
                simp [cutOk]; omega) ?_)
              have hlen : (((x :: r).take ((x :: r).length - 1)).drop 1).length < k := by
                rw [List.length_drop, List.length_take]
                have hd' : (x :: r).length ≤ d + 1 := hd
                omega
              refine Ev2.bind (Ev2.left (hr _ (L - 1) hlen (by omega))) (fun a ha => Ev2.some (fun hf => ?_))
              obtain ⟨K, t, q1, q2, q3⟩ := ha hf
              refine ⟨K + 1, t, by omega, ?_, q3⟩
              have q4 := GOne.par q2
              rw [← ho] at q4
              rw [mid_split h2 hc]
              exact q4
          · exact Ev2.neg (by simp only [decide_eq_true_eq]; omega) plain
        · exact Ev2.neg (by simpa using hc) plain
      · exact Ev2.neg (by simpa using ho) plain

/-- Two parts beside a word. -/
theorem two_ev {k : Nat} {G1 G2 : Nat → List BA → PT → Prop} {L : Int} {op : Int} {p q : List BA} {s : BA} (w : List BA) (hw : w = p ++ s :: q)
    (hp : Ev (fun m => f55_broughamref35_read m p L) (RSays GOr L p)) (hq : Ev (fun m => f55_broughamref35_read m q L) (RSays GOr L q)) (hl : w.length ≤ 1000000)
    (fin : ∀ K a b, GOr K p a → GOr K q b → GOr K w (.node op 0 a b)) :
    Ev (fun n => if cutOk w.length none (some ((p.length : Nat) : Int)) none then
      (f55_broughamref35_read n (w.take ((p.length : Nat) : Int).toNat) L).bind fun a =>
      if cutOk w.length (some (IntKind.wrap .i64 (((p.length : Nat) : Int) + 1))) none none then
      (f55_broughamref35_read n ((w.take w.length).drop (IntKind.wrap .i64 (((p.length : Nat) : Int) + 1)).toNat) L).bind fun b =>
      if a.1 = true then some (b.1, op, 0, [(a.2.1, (a.2.2.1, (a.2.2.2.map FT.of))), (b.2.1, (b.2.2.1, (b.2.2.2.map FT.of)))])
      else some (false, op, 0, [(a.2.1, (a.2.2.1, (a.2.2.2.map FT.of))), (b.2.1, (b.2.2.1, (b.2.2.2.map FT.of)))])
      else none
      else none) (RSays GOr L w) := by
  have hlen : w.length = p.length + (q.length + 1) := by rw [hw]; simp
  have e1 : w.take p.length = p := by rw [hw]; simp
  have e2 : (w.take w.length).drop (p.length + 1) = q := by rw [List.take_length, hw]; simp
  rw [i64_id (e := ((p.length : Nat) : Int) + 1) (by omega) (by omega), Int.toNat_natCast, e1, show (((p.length : Nat) : Int) + 1).toNat = p.length + 1 by omega, e2]
  refine Ev.guard (by simp [cutOk]; omega) (Ev.bind hp (fun a ha => Ev.guard (by simp [cutOk]; omega) (Ev.bind hq (fun b hb => Ev.ite (fun c => Ev.some (fun hf => ?_)) (fun c => Ev.some RSays.no)))))
  obtain ⟨K, t1, r1, r2, r3⟩ := ha c
  obtain ⟨K', t2, s1, s2, s3⟩ := hb hf
  have : K' = K := by omega
  subst this
  refine ⟨K', _, r1, fin K' t1 t2 r2 s2, ?_⟩
  rw [pf_two (or_node r2) (or_node s2), ← r3, ← s3]; rfl
theorem refread_says : ∀ (k : Nat) (hk : k ≤ 1000000) (w : List BA) (L : Int), w.length < k → -1 ≤ L ∧ L ≤ 1000 → Ev (fun m => f55_broughamref35_read m w L) (RSays GOr L w) := by
  intro k
  induction k with
  | zero => intro hk w L h; omega
  | succ k ih =>
    intro hk w L hwk hL
    have ih := ih (by omega)
    apply Ev.succ
    simp only [f55_broughamref35_read]
    cases w with
    | nil => exact Ev.pos (by simp) (Ev.some RSays.no)
    | cons x r =>
      refine Ev.neg (by simp only [List.length_cons, beq_iff_eq]; omega) ?_
      by_cases hL0 : L < 0
      · exact Ev.pos (decide_eq_true hL0) (Ev.some RSays.no)
      refine Ev.neg (by simpa using hL0) (Ev.bind (last_ev (x :: r) tOr (by omega)) ?_)
      rintro _ rfl
      rcases lastS_cases tOr (x :: r) (-1) 0 0 with ⟨h1, h2⟩ | ⟨p, q, h1, h2, h3, h4⟩
      · rw [h1]
        refine Ev.pos (by decide) (Ev.bind (last_ev (x :: r) tAnd (by omega)) ?_)
        rintro _ rfl
        rcases lastS_cases tAnd (x :: r) (-1) 0 0 with ⟨k1, k2⟩ | ⟨p, q, k1, k2, k3, k4⟩
        · rw [k1]
          refine Ev.neg (by decide) (Ev.guard (by simp only [List.length_cons]; omega) ?_)
          have e0 : (x :: r).getD 0 ByteArray.empty = x := rfl
          rw [e0, str_eqD, wsub hL]
          have one := refone_says k (by omega) ih k
          by_cases hn : x = tNot
          · refine Ev.pos (decide_eq_true hn) (Ev.guard (by simp [cutOk]; omega) ?_)
            have e1 : ((x :: r).take (x :: r).length).drop 1 = r := by simp
            rw [e1]
            refine Ev.bind (Ev2.diag (one r (L - 1) (by simp at hwk; omega) (Nat.le_refl _) (by omega))) (fun a ha => Ev.some (fun hf => ?_))
            obtain ⟨K, t, q1, q2, q3⟩ := ha hf
            refine ⟨K + 1, .node 8 0 t .nil, by omega, by rw [hn]; exact .and (.one (.neg q2)), ?_⟩
            rw [pf_not (one_node q2), ← q3]; rfl
          · refine Ev.neg (by simpa using hn) ?_
            refine Ev.bind (Ev2.diag (one (x :: r) L (by simp at hwk ⊢; omega) (Nat.le_refl _) (by omega))) (fun a ha => Ev.some (fun hf => ?_))
            obtain ⟨K, t, q1, q2, q3⟩ := ha hf
            exact ⟨K, t, q1, .and (.one q2), q3⟩
        · have hd : depS p = 0 := by have : dep tAnd = 0 := by decide
                                     omega
          rw [k4, Nat.zero_add]
          refine Ev.pos (by simp only [decide_eq_true_eq]; omega) ?_
          have hlen := congrArg List.length k1
          simp only [List.length_append, List.length_cons] at hlen hwk
          rw [k1] at h2
          obtain ⟨f1, f2⟩ := (free_app _ _ _ _).1 h2
          have f3 : Free tOr q 0 := by
            have := f2.2
            rw [hd] at this
            exact this
          refine two_ev (k := k) (G1 := GOr) (G2 := GOr) (s := tAnd) (x :: r) k1 (ih p L (by omega) hL) (ih q L (by omega) hL) (by simp only [List.length_cons]; omega) (fun K a b ga gb => ?_)
          rw [k1]
          exact .and (.and (or_inv ga f1) (and_inv (or_inv gb f3) k3))
      · have hd : depS p = 0 := by have : dep tOr = 0 := by decide
                                   omega
        rw [h4, Nat.zero_add]
        have hlen := congrArg List.length h1
        simp only [List.length_append, List.length_cons] at hlen hwk
        refine Ev.neg (by simp only [decide_eq_true_eq]; omega) (Ev.pos (by simp only [decide_eq_true_eq]; omega) ?_)
        refine two_ev (k := k) (G1 := GOr) (G2 := GOr) (s := tOr) (x :: r) h1 (ih p L (by omega) hL) (ih q L (by omega) hL) (by simp only [List.length_cons]; omega) (fun K a b ga gb => ?_)
        rw [h1]
        exact .or ga (or_inv gb h3)

theorem lastS_at (s : BA) (u v : List BA) (hs : dep s = 0) (hu : depS u = 0) (hv : Free s v 0) : lastS s (u ++ s :: v) (-1) 0 0 = ((u.length : Nat) : Int) := by
  rw [lastS_app, hu, lastS, if_pos ⟨rfl, by omega⟩, hs]
  show lastS s v _ 0 _ = _
  rw [lastS_free s v _ _ _ hv, Nat.zero_add]
theorem closes_up : ∀ (u : List BA) (o : Int), (∀ p q, u = p ++ q → 1 ≤ o + depS p) → o + depS u = 1 → closesS (u ++ [tClose]) o = true
  | [], o, h, he => by
    have e : dep tClose = -1 := by decide
    have he : o = 1 := by simpa [depS] using he
    show (if o + dep tClose = 0 ∧ ([] : List BA) ≠ [] then false else decide (o + dep tClose = 0)) = true
    rw [if_neg (fun q => q.2 rfl), e, he]; rfl
  | x :: u, o, h, he => by
    have h1 := h [x] u rfl
    have e1 : depS [x] = dep x := by simp [depS]
    rw [e1] at h1
    have e2 : depS (x :: u) = dep x + depS u := rfl
    show (if o + dep x = 0 ∧ u ++ [tClose] ≠ [] then false else closesS (u ++ [tClose]) (o + dep x)) = true
    rw [if_neg (fun q => by have := q.1; omega)]
    refine closes_up u _ (fun p q e => ?_) (by omega)
    have h2 := h (x :: p) q (by rw [e]; rfl)
    have e3 : depS (x :: p) = dep x + depS p := rfl
    omega
theorem closes_par {u : List BA} (h : Fits u) : closesS (tOpen :: (u ++ [tClose])) 0 = true := by
  have e : dep tOpen = 1 := by decide
  show (if 0 + dep tOpen = 0 ∧ u ++ [tClose] ≠ [] then false else closesS (u ++ [tClose]) (0 + dep tOpen)) = true
  rw [e, if_neg (fun q => by have := q.1; omega)]
  exact closes_up u _ (fun p q e => by have := h.up p q e; omega) (by rw [h.zero]; rfl)
theorem plainR_pf {w : List BA} {t : PT} (h : plainS w = (t, [], false)) : ∃ o n, plainR w = (true, o, n) ∧ pf t = (o, n, []) := by
  have hn : t.isNil = false := one_node (.plain (L := 0) h)
  cases t with
  | nil => cases hn
  | node o n a b =>
    have e : plainR w = (true, o, n) := by unfold plainR; rw [h]; rfl
    obtain ⟨t', h1, h2⟩ := plainR_true e
    rw [h] at h1
    have : PT.node o n a b = t' := (Prod.mk.inj h1).1
    subst this
    exact ⟨o, n, e, h2⟩
/-- Two parts beside a word: read. -/
theorem two_val {L : Int} {op : Int} {p q : List BA} {s : BA} {ta tb : PT} (w : List BA) (hw : w = p ++ s :: q) (hp : Ev (fun m => f55_broughamref35_read m p L) (fun r => r = (true, pf ta))) (hq : Ev (fun m => f55_broughamref35_read m q L) (fun r => r = (true, pf tb)))
    (ha : ta.isNil = false) (hb : tb.isNil = false) (hl : w.length ≤ 1000000) :
    Ev (fun n => if cutOk w.length none (some ((p.length : Nat) : Int)) none then
      (f55_broughamref35_read n (w.take ((p.length : Nat) : Int).toNat) L).bind fun a =>
      if cutOk w.length (some (IntKind.wrap .i64 (((p.length : Nat) : Int) + 1))) none none then
      (f55_broughamref35_read n ((w.take w.length).drop (IntKind.wrap .i64 (((p.length : Nat) : Int) + 1)).toNat) L).bind fun b =>
      if a.1 = true then some (b.1, op, 0, [(a.2.1, (a.2.2.1, (a.2.2.2.map FT.of))), (b.2.1, (b.2.2.1, (b.2.2.2.map FT.of)))])
      else some (false, op, 0, [(a.2.1, (a.2.2.1, (a.2.2.2.map FT.of))), (b.2.1, (b.2.2.1, (b.2.2.2.map FT.of)))])
      else none
      else none) (fun r => r = (true, pf (.node op 0 ta tb))) := by
  have hlen : w.length = p.length + (q.length + 1) := by rw [hw]; simp
  have e1 : w.take p.length = p := by rw [hw]; simp
  have e2 : (w.take w.length).drop (p.length + 1) = q := by rw [List.take_length, hw]; simp
  rw [i64_id (e := ((p.length : Nat) : Int) + 1) (by omega) (by omega), Int.toNat_natCast, e1, show (((p.length : Nat) : Int) + 1).toNat = p.length + 1 by omega, e2]
  refine Ev.guard (by simp [cutOk]; omega) (Ev.bind hp ?_)
  rintro _ rfl
  refine Ev.guard (by simp [cutOk]; omega) (Ev.bind hq ?_)
  rintro _ rfl
  refine Ev.pos rfl (Ev.some ?_)
  rw [pf_two ha hb]; rfl

mutual
theorem one_ne : ∀ {L : Nat} {u : List BA} {t : PT} (h : GOne L u t), u ≠ []
  | _, _, _, .plain h => plain_ne h
  | _, _, _, .neg h => by simp
  | _, _, _, .par h => by simp
theorem and_ne : ∀ {L : Nat} {u : List BA} {t : PT} (h : GAnd L u t), u ≠ []
  | _, _, _, .one h => one_ne h
  | _, _, _, .and h k => by simp
theorem or_ne : ∀ {L : Nat} {u : List BA} {t : PT} (h : GOr L u t), u ≠ []
  | _, _, _, .and h => and_ne h
  | _, _, _, .or h k => by simp
end
/-- read of a row that is one part. -/
theorem read_of_one {L : Int} {u : List BA} {t : PT} (hL : 0 ≤ L ∧ L ≤ 1000) (hu : u.length ≤ 1000000) (hne : u ≠ []) (f1 : Free tOr u 0) (f2 : Free tAnd u 0)
    (h : (u.getD 0 ByteArray.empty ≠ tNot ∧ Ev2 (fun m n => f86_broughamref35_one (f55_broughamref35_read m) n u L) (fun r => r = (true, pf t))) ∨
      (∃ v t', u = tNot :: v ∧ t = .node 8 0 t' .nil ∧ t'.isNil = false ∧ Ev2 (fun m n => f86_broughamref35_one (f55_broughamref35_read m) n v (L - 1)) (fun r => r = (true, pf t')))) :
    Ev (fun m => f55_broughamref35_read m u L) (fun r => r = (true, pf t)) := by
  apply Ev.succ
  simp only [f55_broughamref35_read]
  have hl0 : 0 < u.length := List.length_pos_iff.2 hne
  refine Ev.neg (by simp only [beq_iff_eq]; omega) (Ev.neg (by simp only [decide_eq_true_eq]; omega) (Ev.bind (last_ev u tOr hu) ?_))
  rintro _ rfl
  rw [lastS_free tOr u _ _ _ f1]
  refine Ev.pos (by decide) (Ev.bind (last_ev u tAnd hu) ?_)
  rintro _ rfl
  rw [lastS_free tAnd u _ _ _ f2]
  refine Ev.neg (by decide) (Ev.guard (by omega) ?_)
  rw [str_eqD, wsub (by omega)]
  rcases h with ⟨h1, h2⟩ | ⟨v, t', rfl, rfl, h3, h4⟩
  · refine Ev.neg (by simpa using h1) (Ev.bind (Ev2.diag h2) ?_)
    rintro _ rfl
    exact Ev.some rfl
  · have e0 : (tNot :: v).getD 0 ByteArray.empty = tNot := rfl
    have e1 : ((tNot :: v).take (tNot :: v).length).drop 1 = v := by simp
    rw [e0, e1]
    refine Ev.pos (decide_eq_true rfl) (Ev.guard (by simp [cutOk]; omega) (Ev.bind (Ev2.diag h4) ?_))
    rintro _ rfl
    refine Ev.some ?_
    rw [pf_not h3]; rfl
theorem refone_plain {L : Nat} {u : List BA} {t : PT} (h : plainS u = (t, [], false)) (hL : L + 1 ≤ 1000) (hu : u.length ≤ 1000000) : Ev2 (fun m n => f86_broughamref35_one (f55_broughamref35_read m) n u ((L + 1 : Nat) : Int)) (fun r => r = (true, pf t)) := by
  apply Ev2.succ
  simp only [f86_broughamref35_one]
  cases u with
  | nil => cases h
  | cons x r =>
    obtain ⟨p1, p2, _⟩ := plain_head h
    obtain ⟨o, n, q1, q2⟩ := plainR_pf h
    have e0 : (x :: r).getD 0 ByteArray.empty = x := rfl
    refine Ev2.neg (by simp only [List.length_cons, beq_iff_eq]; omega) (Ev2.neg (by simp only [decide_eq_true_eq]; omega) (Ev2.pos (by simp only [List.length_cons]; omega) ?_))
    rw [e0, str_eqD, str_eqD]
    refine Ev2.neg (by simpa using p1) (Ev2.pos (by simp only [List.length_cons]; omega) (Ev2.neg (by simpa using p2) ?_))
    have hp : Ev2 (fun _ n => f101_broughamref35_plain n (x :: r)) (fun q => q = plainR (x :: r)) := by
      obtain ⟨q, h1, N, h2⟩ := refplain_ev (x :: r) (by simp) hu
      exact ⟨q, h1, N, fun m n _ hn => h2 n hn⟩
    refine Ev2.bind hp ?_
    rintro _ rfl
    refine Ev2.some ?_
    rw [q1, q2]
theorem refone_neg {L : Nat} {u : List BA} {t : PT} (h : GOne L u t) (ih : Ev2 (fun m n => f86_broughamref35_one (f55_broughamref35_read m) n u (L : Int)) (fun r => r = (true, pf t))) (hL : L + 1 ≤ 1000) (hu : (tNot :: u).length ≤ 1000000) : Ev2 (fun m n => f86_broughamref35_one (f55_broughamref35_read m) n (tNot :: u) ((L + 1 : Nat) : Int)) (fun r => r = (true, pf (.node 8 0 t .nil))) := by
  apply Ev2.succ
  simp only [f86_broughamref35_one]
  have e0 : (tNot :: u).getD 0 ByteArray.empty = tNot := rfl
  have eL : IntKind.wrap .i64 (((L + 1 : Nat) : Int) - 1) = (L : Int) := by rw [i64_id (by omega) (by omega)]; omega
  refine Ev2.neg (by simp only [List.length_cons, beq_iff_eq]; omega) (Ev2.neg (by simp only [decide_eq_true_eq]; omega) (Ev2.pos (by simp only [List.length_cons]; omega) ?_))
  rw [e0, str_eqD, eL]
  refine Ev2.pos (decide_eq_true rfl) (Ev2.pos (by simp [cutOk]; omega) ?_)
  have e1 : ((tNot :: u).take (tNot :: u).length).drop 1 = u := by simp
  rw [e1]
  refine Ev2.bind ih ?_
  rintro _ rfl
  refine Ev2.some ?_
  rw [pf_not (one_node h)]; rfl
theorem refone_par {L : Nat} {u : List BA} {t : PT} (h : GOr L u t) (ih : Ev (fun m => f55_broughamref35_read m u (L : Int)) (fun r => r = (true, pf t))) (hL : L + 1 ≤ 1000) (hu : (tOpen :: (u ++ [tClose])).length ≤ 1000000) : Ev2 (fun m n => f86_broughamref35_one (f55_broughamref35_read m) n (tOpen :: (u ++ [tClose])) ((L + 1 : Nat) : Int)) (fun r => r = (true, pf t)) := by
  have hlen : (tOpen :: (u ++ [tClose])).length = u.length + 2 := by simp
  have hne : u ≠ [] := by
    intro e
    have := or_node h
    subst e
    exact or_ne h rfl
  have hu0 : 0 < u.length := List.length_pos_iff.2 hne
  apply Ev2.succ
  simp only [f86_broughamref35_one]
  have e0 : (tOpen :: (u ++ [tClose])).getD 0 ByteArray.empty = tOpen := rfl
  have eL : IntKind.wrap .i64 (((L + 1 : Nat) : Int) - 1) = (L : Int) := by rw [i64_id (by omega) (by omega)]; omega
  have el : IntKind.wrap .i64 ((((tOpen :: (u ++ [tClose])).length : Nat) : Int) - 1) = ((u.length + 1 : Nat) : Int) := by
    rw [hlen, i64_id (by omega) (by omega)]; omega
  have ec : (tOpen :: (u ++ [tClose])).getD (u.length + 1) ByteArray.empty = tClose := by simp [List.getD_eq_getElem?_getD]
  have em : ((tOpen :: (u ++ [tClose])).take (u.length + 1)).drop 1 = u := by simp
  refine Ev2.neg (by simp only [hlen, beq_iff_eq]; omega) (Ev2.neg (by simp only [decide_eq_true_eq]; omega) (Ev2.pos (by rw [hlen]; omega) ?_))
  rw [e0, str_eqD, str_eqD, eL, el, Int.toNat_natCast, ec, em, str_eqD]
  refine Ev2.neg (by decide) (Ev2.pos (by rw [hlen]; omega) (Ev2.pos (decide_eq_true rfl) (Ev2.pos (by rw [hlen]; omega) (Ev2.pos (decide_eq_true rfl) (Ev2.pos (by simp only [decide_eq_true_eq, hlen]; omega) ?_)))))
  have hcl : Ev2 (fun _ n => f100_broughamref35_closes n (tOpen :: (u ++ [tClose]))) (fun q => q = true) := by
    obtain ⟨q, h1, N, h2⟩ := closes_ev (tOpen :: (u ++ [tClose])) hu
    rw [closes_par (or_fits h)] at h1
    exact ⟨q, h1, N, fun m n _ hn => h2 n hn⟩
  refine Ev2.bind hcl ?_
  rintro _ rfl
  refine Ev2.pos rfl (Ev2.pos (by rw [hlen]; simp [cutOk]; omega) (Ev2.bind (Ev2.left ih) ?_))
  rintro _ rfl
  exact Ev2.some rfl
mutual
theorem refone_reads : ∀ {L : Nat} {u : List BA} {t : PT} (h : GOne L u t) (hL : L ≤ 1000) (hu : u.length ≤ 1000000), Ev2 (fun m n => f86_broughamref35_one (f55_broughamref35_read m) n u (L : Int)) (fun r => r = (true, pf t)) ∧ Ev (fun m => f55_broughamref35_read m u (L : Int)) (fun r => r = (true, pf t))
  | _, _, _, .plain (L := L) (u := u) (t := t) h, hL, hu => by
    have m := refone_plain (L := L) h hL hu
    obtain ⟨_, f1, f2⟩ := plain_fits h
    refine ⟨m, read_of_one (by omega) hu (plain_ne h) f1 f2 (.inl ⟨?_, m⟩)⟩
    cases u with
    | nil => cases h
    | cons x r => exact (plain_head h).1
  | _, _, _, .neg (L := L) (u := u) (t := t) h, hL, hu => by
    have ih := refone_reads h (by omega) (by simp only [List.length_cons] at hu; omega)
    have m := refone_neg h ih.1 hL hu
    obtain ⟨_, f1, f2⟩ := one_fits (.neg h)
    refine ⟨m, read_of_one (by omega) hu (by simp) f1 f2 (.inr ⟨u, t, rfl, rfl, one_node h, ?_⟩)⟩
    rw [show ((L + 1 : Nat) : Int) - 1 = (L : Int) by omega]
    exact ih.1
  | _, _, _, .par (L := L) (u := u) (t := t) h, hL, hu => by
    have ih := refread_reads h (by omega) (by simp at hu; omega)
    have m := refone_par h ih hL hu
    obtain ⟨_, f1, f2⟩ := one_fits (.par h)
    exact ⟨m, read_of_one (by omega) hu (by simp) f1 f2 (.inl ⟨(show tOpen ≠ tNot by decide), m⟩)⟩
theorem refand_reads : ∀ {L : Nat} {u : List BA} {t : PT} (h : GAnd L u t) (hL : L ≤ 1000) (hu : u.length ≤ 1000000), Ev (fun m => f55_broughamref35_read m u (L : Int)) (fun r => r = (true, pf t))
  | _, _, _, .one h, hL, hu => (refone_reads h hL hu).2
  | _, _, _, .and (L := L) (u := u) (v := v) (a := a) (b := b) h k, hL, hu => by
    have hlen : (u ++ tAnd :: v).length = u.length + (v.length + 1) := by simp
    have i1 := refand_reads h hL (by omega)
    have i2 := (refone_reads k hL (by omega)).2
    apply Ev.succ
    simp only [f55_broughamref35_read]
    refine Ev.neg (by simp only [beq_iff_eq, hlen]; omega) (Ev.neg (by simp only [decide_eq_true_eq]; omega) (Ev.bind (last_ev (u ++ tAnd :: v) tOr hu) ?_))
    rintro _ rfl
    rw [lastS_free tOr _ _ _ _ (and_fits (.and h k)).2]
    refine Ev.pos (by decide) (Ev.bind (last_ev (u ++ tAnd :: v) tAnd hu) ?_)
    rintro _ rfl
    rw [lastS_at tAnd u v (by decide) (and_fits h).1.zero (one_fits k).2.2]
    refine Ev.pos (by simp only [decide_eq_true_eq]; omega) ?_
    exact two_val (s := tAnd) (u ++ tAnd :: v) rfl i1 i2 (and_node h) (one_node k) hu
theorem refread_reads : ∀ {L : Nat} {u : List BA} {t : PT} (h : GOr L u t) (hL : L ≤ 1000) (hu : u.length ≤ 1000000), Ev (fun m => f55_broughamref35_read m u (L : Int)) (fun r => r = (true, pf t))
  | _, _, _, .and h, hL, hu => refand_reads h hL hu
  | _, _, _, .or (L := L) (u := u) (v := v) (a := a) (b := b) h k, hL, hu => by
    have hlen : (u ++ tOr :: v).length = u.length + (v.length + 1) := by simp
    have i1 := refread_reads h hL (by omega)
    have i2 := refand_reads k hL (by omega)
    apply Ev.succ
    simp only [f55_broughamref35_read]
    refine Ev.neg (by simp only [beq_iff_eq, hlen]; omega) (Ev.neg (by simp only [decide_eq_true_eq]; omega) (Ev.bind (last_ev (u ++ tOr :: v) tOr hu) ?_))
    rintro _ rfl
    rw [lastS_at tOr u v (by decide) (or_fits h).zero (and_fits k).2]
    refine Ev.neg (by simp only [decide_eq_true_eq]; omega) (Ev.pos (by simp only [decide_eq_true_eq]; omega) ?_)
    exact two_val (s := tOr) (u ++ tOr :: v) rfl i1 i2 (or_node h) (and_node k) hu
end

def leafS (o n : Int) : Bool :=
  if o = 1 ∨ o = 11 then decide (n = 0) else if o = 2 then decide (n = 1 ∨ n = 2 ∨ n = 4) else if o = 3 ∨ o = 4 ∨ o = 5 then decide (0 ≤ n ∧ n ≤ 65535) else if o = 6 then decide (1 ≤ n ∧ n ≤ 255) else decide (0 ≤ n ∧ n ≤ 2147483647)
def Leaf (o : Int) : Prop := o = 1 ∨ o = 2 ∨ o = 3 ∨ o = 4 ∨ o = 5 ∨ o = 6 ∨ o = 7 ∨ o = 11
inductive Tr : PT → Prop
  | leaf {o n : Int} (h : Leaf o) : Tr (.node o n .nil .nil)
  | neg {a : PT} (h : Tr a) : Tr (.node 8 0 a .nil)
  | two {o : Int} {a b : PT} (ho : o = 9 ∨ o = 10) (h : Tr a) (k : Tr b) : Tr (.node o 0 a b)
theorem Tr.node {t : PT} (h : Tr t) : t.isNil = false := by cases h <;> rfl
def dpt : PT → Nat
  | .nil => 0
  | .node _ _ a b => max (dpt a) (dpt b) + 1
def lvs : PT → Bool
  | .nil => true
  | .node o n .nil .nil => leafS o n
  | .node _ _ a b => lvs a && lvs b
theorem bs {α : Type} (x : Option α) : (x.bind fun w => some w) = x := by cases x <;> rfl
theorem right1 (n : Nat) (k l : Int) : f59_filter_right (n + 1) (.node 1 k .nil .nil) l = if (l == 0) = true then some false else if (k == 0) = true then some true else some false := by kernel_rfl
theorem right2 (n : Nat) (k l : Int) : f59_filter_right (n + 3) (.node 2 k .nil .nil) l = if (l == 0) = true then some false else (if (k == 1) = true then some true else if (k == 2) = true then some true else if (k == 4) = true then some true else some false).bind (fun w => some w) := by kernel_rfl
theorem right3 (n : Nat) (k l : Int) : f59_filter_right (n + 3) (.node 3 k .nil .nil) l = if (l == 0) = true then some false else (if (decide (k ≥ 0)) = true then if (decide (k ≤ 65535)) = true then some true else some false else some false).bind (fun w => some w) := by kernel_rfl
theorem right4 (n : Nat) (k l : Int) : f59_filter_right (n + 3) (.node 4 k .nil .nil) l = if (l == 0) = true then some false else (if (decide (k ≥ 0)) = true then if (decide (k ≤ 65535)) = true then some true else some false else some false).bind (fun w => some w) := by kernel_rfl
theorem right5 (n : Nat) (k l : Int) : f59_filter_right (n + 3) (.node 5 k .nil .nil) l = if (l == 0) = true then some false else (if (decide (k ≥ 0)) = true then if (decide (k ≤ 65535)) = true then some true else some false else some false).bind (fun w => some w) := by kernel_rfl
theorem right6 (n : Nat) (k l : Int) : f59_filter_right (n + 3) (.node 6 k .nil .nil) l = if (l == 0) = true then some false else ((if (decide (k ≥ 1)) = true then if (decide (k ≤ 255)) = true then some true else some false else some false).bind (fun w => some w)).bind (fun w => some w) := by kernel_rfl
theorem right7 (n : Nat) (k l : Int) : f59_filter_right (n + 3) (.node 7 k .nil .nil) l = if (l == 0) = true then some false else ((if (decide (k ≥ 0)) = true then if (decide (k < 2147483648)) = true then some true else some false else some false).bind (fun w => some w)).bind (fun w => some w) := by kernel_rfl
theorem right11 (n : Nat) (k l : Int) : f59_filter_right (n + 1) (.node 11 k .nil .nil) l = if (l == 0) = true then some false else if (k == 0) = true then some true else some false := by kernel_rfl
theorem right8 (n : Nat) (a : PT) (l : Int) : f59_filter_right (n + 3) (.node 8 0 a .nil) l = if (l == 0) = true then some false else (((f59_filter_right (n + 2) a (IntKind.wrap .i64 (l - 1))).bind fun r => if r = true then some true else some false).bind (fun w => some w)).bind (fun w => some w) := by kernel_rfl
theorem right9 (n : Nat) (a b : PT) (l : Int) : f59_filter_right (n + 3) (.node 9 0 a b) l = if (l == 0) = true then some false else (((f59_filter_right (n + 2) a (IntKind.wrap .i64 (l - 1))).bind fun r => if r = true then (f59_filter_right (n + 2) b (IntKind.wrap .i64 (l - 1))).bind fun s => some s else some false).bind (fun w => some w)).bind (fun w => some w) := by kernel_rfl
theorem right10 (n : Nat) (a b : PT) (l : Int) : f59_filter_right (n + 3) (.node 10 0 a b) l = if (l == 0) = true then some false else (((f59_filter_right (n + 2) a (IntKind.wrap .i64 (l - 1))).bind fun r => if r = true then (f59_filter_right (n + 2) b (IntKind.wrap .i64 (l - 1))).bind fun s => some s else some false).bind (fun w => some w)).bind (fun w => some w) := by kernel_rfl

theorem leaf_right {o : Int} (h : Leaf o) (n : Nat) (k l : Int) (hl : l ≠ 0) : f59_filter_right (n + 3) (.node o k .nil .nil) l = some (leafS o k) := by
  have e : ¬ (l == 0) = true := by simpa using hl
  rcases h with rfl | rfl | rfl | rfl | rfl | rfl | rfl | rfl
  · rw [right1, if_neg e]; unfold leafS; by_cases c : k = 0 <;> simp [c]
  · rw [right2, if_neg e, bs]; unfold leafS
    by_cases c : k = 1
    · simp [c]
    by_cases c2 : k = 2
    · simp [c2]
    by_cases c3 : k = 4 <;> simp [c, c2, c3]
  · rw [right3, if_neg e, bs]; unfold leafS; by_cases c : 0 ≤ k <;> by_cases d : k ≤ 65535 <;> simp [c, d]
  · rw [right4, if_neg e, bs]; unfold leafS; by_cases c : 0 ≤ k <;> by_cases d : k ≤ 65535 <;> simp [c, d]
  · rw [right5, if_neg e, bs]; unfold leafS; by_cases c : 0 ≤ k <;> by_cases d : k ≤ 65535 <;> simp [c, d]
  · rw [right6, if_neg e, bs, bs]; unfold leafS; by_cases c : 1 ≤ k <;> by_cases d : k ≤ 255 <;> simp [c, d]
  · rw [right7, if_neg e, bs, bs]; unfold leafS
    by_cases c : 0 ≤ k <;> by_cases d : k < 2147483648
    · have d' : k ≤ 2147483647 := by omega
      simp [c, d, d']
    · have d' : ¬ k ≤ 2147483647 := by omega
      simp [c, d, d']
    · simp [c, d]
    · simp [c, d]
  · rw [right11, if_neg e]; unfold leafS; by_cases c : k = 0 <;> simp [c]
theorem right_zero {t : PT} (h : Tr t) (n : Nat) : f59_filter_right (n + 1) t 0 = some false := by
  cases h with
  | leaf h => rcases h with rfl | rfl | rfl | rfl | rfl | rfl | rfl | rfl <;> kernel_rfl
  | neg h => kernel_rfl
  | two ho h k => rcases ho with rfl | rfl <;> kernel_rfl
theorem Tr.pos {t : PT} (h : Tr t) : 1 ≤ dpt t := by cases h <;> simp [dpt]
theorem right_ev : ∀ {t : PT} (h : Tr t) (l : Nat) (hl : l ≤ 1000), Ev (fun n => f59_filter_right n t (l : Int)) (fun r => r = (decide (dpt t ≤ l) && lvs t)) := by
  intro t h
  induction h with
  | @leaf o k h =>
    intro l hl
    cases l with
    | zero => exact ⟨false, by simp [dpt], 1, fun n hn => by
        obtain ⟨m, rfl⟩ : ∃ m, n = m + 1 := ⟨n - 1, by omega⟩
        exact right_zero (.leaf h) m⟩
    | succ l =>
      refine ⟨leafS o k, ?_, 3, fun n hn => ?_⟩
      · simp [dpt, lvs]
      · obtain ⟨m, rfl⟩ : ∃ m, n = m + 3 := ⟨n - 3, by omega⟩
        exact leaf_right h m k _ (by omega)
  | @neg a h ih =>
    intro l hl
    cases l with
    | zero => exact ⟨false, by have := h.pos; simp [dpt], 1, fun n hn => by
        obtain ⟨m, rfl⟩ : ∃ m, n = m + 1 := ⟨n - 1, by omega⟩
        exact right_zero (.neg h) m⟩
    | succ l =>
      obtain ⟨r, hr, N, hN⟩ := ih l (by omega)
      have hN : ∀ n, N ≤ n → f59_filter_right n a (l : Int) = some r := hN
      refine ⟨r, ?_, N + 3, fun n hn => ?_⟩
      · rw [hr]
        have e : lvs (.node 8 0 a .nil) = lvs a := by cases h <;> simp [lvs]
        rw [e]; simp [dpt]
      · obtain ⟨m, rfl⟩ : ∃ m, n = m + 3 := ⟨n - 3, by omega⟩
        show f59_filter_right (m + 3) _ _ = _
        rw [right8, bs, bs, if_neg (by simp; omega), show IntKind.wrap .i64 (((l + 1 : Nat) : Int) - 1) = (l : Int) from by rw [i64_id (by omega) (by omega)]; omega, hN _ (by omega)]
        cases r <;> rfl
  | @two o a b ho h k ih1 ih2 =>
    intro l hl
    cases l with
    | zero => exact ⟨false, by simp [dpt], 1, fun n hn => by
        obtain ⟨m, rfl⟩ : ∃ m, n = m + 1 := ⟨n - 1, by omega⟩
        exact right_zero (.two ho h k) m⟩
    | succ l =>
      obtain ⟨r, hr, N, hN⟩ := ih1 l (by omega)
      obtain ⟨s, hs, M, hM⟩ := ih2 l (by omega)
      have hN : ∀ n, N ≤ n → f59_filter_right n a (l : Int) = some r := hN
      have hM : ∀ n, M ≤ n → f59_filter_right n b (l : Int) = some s := hM
      refine ⟨r && s, ?_, max N M + 3, fun n hn => ?_⟩
      · rw [hr, hs]
        have e : lvs (.node o 0 a b) = (lvs a && lvs b) := by cases h <;> simp [lvs]
        rw [e]
        have e2 : decide (dpt (.node o 0 a b) ≤ l + 1) = (decide (dpt a ≤ l) && decide (dpt b ≤ l)) := by
          rw [← Bool.decide_and]; apply decide_eq_decide.2; simp only [dpt]; omega
        rw [e2]
        cases decide (dpt a ≤ l) <;> cases decide (dpt b ≤ l) <;> cases lvs a <;> cases lvs b <;> rfl
      · obtain ⟨m, rfl⟩ : ∃ m, n = m + 3 := ⟨n - 3, by omega⟩
        show f59_filter_right (m + 3) _ _ = _
        have w : IntKind.wrap .i64 (((l + 1 : Nat) : Int) - 1) = (l : Int) := by rw [i64_id (by omega) (by omega)]; omega
        rcases ho with rfl | rfl
        · rw [right9, bs, bs, if_neg (by simp; omega), w, hN _ (by omega)]
          show (if r = true then (f59_filter_right (m + 2) b (l : Int)).bind fun s => some s else some false) = _
          rw [hM _ (by omega)]
          cases r <;> cases s <;> rfl
        · rw [right10, bs, bs, if_neg (by simp; omega), w, hN _ (by omega)]
          show (if r = true then (f59_filter_right (m + 2) b (l : Int)).bind fun s => some s else some false) = _
          rw [hM _ (by omega)]
          cases r <;> cases s <;> rfl

theorem plain_tr {u : List BA} {t : PT} (h : plainS u = (t, [], false)) : Tr t ∧ dpt t = 1 := by
  cases u with
  | nil => cases h
  | cons x r =>
    have num : ∀ op, Leaf op → numS op r = (t, [], false) → Tr t ∧ dpt t = 1 := by
      intro op ho q
      cases r with
      | nil => cases q
      | cons y r => rw [← (Prod.mk.inj q).1]; exact ⟨.leaf ho, rfl⟩
    rw [plainS_cons] at h
    repeat' split at h
    all_goals first
      | exact num _ (by unfold Leaf; omega) h
      | (rw [← (Prod.mk.inj h).1]; exact ⟨.leaf (by unfold Leaf; omega), rfl⟩)
      | cases h
mutual
theorem one_tr : ∀ {L : Nat} {u : List BA} {t : PT} (h : GOne L u t), Tr t ∧ dpt t ≤ u.length
  | _, _, _, .plain (u := u) h => by
    have := plain_tr h
    refine ⟨this.1, ?_⟩
    rw [this.2]
    cases u with
    | nil => cases h
    | cons x r => simp
  | _, _, _, .neg h => by
    have := one_tr h
    exact ⟨.neg this.1, by simp [dpt]; exact this.2⟩
  | _, _, _, .par h => by
    have := or_tr h
    exact ⟨this.1, by simp; omega⟩
theorem and_tr : ∀ {L : Nat} {u : List BA} {t : PT} (h : GAnd L u t), Tr t ∧ dpt t ≤ u.length
  | _, _, _, .one h => one_tr h
  | _, _, _, .and h k => by
    have a := and_tr h
    have b := one_tr k
    exact ⟨.two (.inl rfl) a.1 b.1, by simp only [dpt, List.length_append, List.length_cons]; omega⟩
theorem or_tr : ∀ {L : Nat} {u : List BA} {t : PT} (h : GOr L u t), Tr t ∧ dpt t ≤ u.length
  | _, _, _, .and h => and_tr h
  | _, _, _, .or h k => by
    have a := or_tr h
    have b := and_tr k
    exact ⟨.two (.inr rfl) a.1 b.1, by simp only [dpt, List.length_append, List.length_cons]; omega⟩
end

abbrev FR := Int × Int × List FT
theorem depL0 (rc : Int → Int → List FR → Option Int) (n : Nat) (o k : Int) : f57_broughamref35_depth_L3 rc (n + 1) 0 0 o k [] = some 0 := by kernel_rfl
theorem depL1 (rc : Int → Int → List FR → Option Int) (n : Nat) (o k : Int) (x : FR) : f57_broughamref35_depth_L3 rc (n + 2) 0 0 o k [x] = (rc x.1 x.2.1 (x.2.2.map FT.un)).bind fun r => if (decide (r > 0)) = true then some r else some 0 := by kernel_rfl
theorem depL2 (rc : Int → Int → List FR → Option Int) (n : Nat) (o k : Int) (x y : FR) : f57_broughamref35_depth_L3 rc (n + 3) 0 0 o k [x, y] = (rc x.1 x.2.1 (x.2.2.map FT.un)).bind fun r => if (decide (r > 0)) = true then (rc y.1 y.2.1 (y.2.2.map FT.un)).bind fun s => if (decide (s > r)) = true then some s else some r
    else (rc y.1 y.2.1 (y.2.2.map FT.un)).bind fun s => if (decide (s > 0)) = true then some s else some 0 := by kernel_rfl
theorem allL0 (rc : Int → Int → List FR → Option Bool) (n : Nat) (o k : Int) : f58_broughamref35_all_L2 rc (n + 1) 0 o k [] = some (.inr (o, k, [])) := by kernel_rfl
theorem allL1 (rc : Int → Int → List FR → Option Bool) (n : Nat) (o k : Int) (x : FR) : f58_broughamref35_all_L2 rc (n + 2) 0 o k [x] = (rc x.1 x.2.1 (x.2.2.map FT.un)).bind fun r => if (!r) = true then some (.inl false) else some (.inr (o, k, [x])) := by kernel_rfl
theorem allL2 (rc : Int → Int → List FR → Option Bool) (n : Nat) (o k : Int) (x y : FR) : f58_broughamref35_all_L2 rc (n + 3) 0 o k [x, y] = (rc x.1 x.2.1 (x.2.2.map FT.un)).bind fun r => if (!r) = true then some (.inl false) else (rc y.1 y.2.1 (y.2.2.map FT.un)).bind fun s => if (!s) = true then some (.inl false) else some (.inr (o, k, [x, y])) := by kernel_rfl
theorem own1 (n : Nat) (k : Int) : f88_broughamref35_own (n + 2) 1 k [] = ((if (k == 0) = true then some true else some false).bind (fun w => some w)).bind (fun w => some w) := by kernel_rfl
theorem own2 (n : Nat) (k : Int) : f88_broughamref35_own (n + 2) 2 k [] = (if (k == 1) = true then some true else if (k == 2) = true then some true else some (k == 4)).bind (fun w => some w) := by kernel_rfl
theorem own3 (n : Nat) (k : Int) : f88_broughamref35_own (n + 2) 3 k [] = (if (decide (k ≥ 0)) = true then some (decide (k ≤ 65535)) else some false).bind (fun w => some w) := by kernel_rfl
theorem own4 (n : Nat) (k : Int) : f88_broughamref35_own (n + 2) 4 k [] = (if (decide (k ≥ 0)) = true then some (decide (k ≤ 65535)) else some false).bind (fun w => some w) := by kernel_rfl
theorem own5 (n : Nat) (k : Int) : f88_broughamref35_own (n + 2) 5 k [] = (if (decide (k ≥ 0)) = true then some (decide (k ≤ 65535)) else some false).bind (fun w => some w) := by kernel_rfl
theorem own6 (n : Nat) (k : Int) : f88_broughamref35_own (n + 2) 6 k [] = ((if (decide (k ≥ 1)) = true then some (decide (k ≤ 255)) else some false).bind (fun w => some w)).bind (fun w => some w) := by kernel_rfl
theorem own7 (n : Nat) (k : Int) : f88_broughamref35_own (n + 2) 7 k [] = ((if (decide (k ≥ 0)) = true then some (decide (k ≤ 2147483647)) else some false).bind (fun w => some w)).bind (fun w => some w) := by kernel_rfl
theorem own11 (n : Nat) (k : Int) : f88_broughamref35_own (n + 2) 11 k [] = ((if (k == 0) = true then some true else some false).bind (fun w => some w)).bind (fun w => some w) := by kernel_rfl
theorem own8 (n : Nat) (x : FR) : f88_broughamref35_own (n + 2) 8 0 [x] = some true := by kernel_rfl
theorem own9 (n : Nat) (x y : FR) : f88_broughamref35_own (n + 2) 9 0 [x, y] = some true := by kernel_rfl
theorem own10 (n : Nat) (x y : FR) : f88_broughamref35_own (n + 2) 10 0 [x, y] = some true := by kernel_rfl
theorem own_leaf {o : Int} (h : Leaf o) (n : Nat) (k : Int) : f88_broughamref35_own (n + 2) o k [] = some (leafS o k) := by
  rcases h with rfl | rfl | rfl | rfl | rfl | rfl | rfl | rfl
  · rw [own1, bs, bs]; unfold leafS; by_cases c : k = 0 <;> simp [c]
  · rw [own2, bs]; unfold leafS
    by_cases c : k = 1
    · simp [c]
    by_cases c2 : k = 2
    · simp [c2]
    by_cases c3 : k = 4 <;> simp [c, c2, c3]
  · rw [own3, bs]; unfold leafS; by_cases c : 0 ≤ k <;> by_cases d : k ≤ 65535 <;> simp [c, d]
  · rw [own4, bs]; unfold leafS; by_cases c : 0 ≤ k <;> by_cases d : k ≤ 65535 <;> simp [c, d]
  · rw [own5, bs]; unfold leafS; by_cases c : 0 ≤ k <;> by_cases d : k ≤ 65535 <;> simp [c, d]
  · rw [own6, bs, bs]; unfold leafS; by_cases c : 1 ≤ k <;> by_cases d : k ≤ 255 <;> simp [c, d]
  · rw [own7, bs, bs]; unfold leafS; by_cases c : 0 ≤ k <;> by_cases d : k ≤ 2147483647 <;> simp [c, d]
  · rw [own11, bs, bs]; unfold leafS; by_cases c : k = 0 <;> simp [c]
theorem leaf_pf (o k : Int) : pf (.node o k .nil .nil) = (o, k, []) := rfl

theorem pk_un (x : Int × Int × List FR) : (pk x).2.2.map FT.un = x.2.2 := of_un x.2.2
theorem depth_ev : ∀ {t : PT} (h : Tr t) (hl : dpt t ≤ 1000000), Ev (fun n => f57_broughamref35_depth n (pf t).1 (pf t).2.1 (pf t).2.2) (fun r => r = ((dpt t : Nat) : Int)) := by
  intro t h
  induction h with
  | @leaf o k h =>
    intro hl
    refine ⟨_, rfl, 2, fun n hn => ?_⟩
    obtain ⟨m, rfl⟩ : ∃ m, n = m + 2 := ⟨n - 2, by omega⟩
    show (f57_broughamref35_depth_L3 (f57_broughamref35_depth (m + 1)) (m + 1) 0 0 o k []).bind _ = _
    rw [depL0]; rfl
  | @neg a h ih =>
    intro hl
    have hd : dpt (.node 8 0 a .nil) = dpt a + 1 := by simp [dpt]
    have hp := h.pos
    obtain ⟨r, hr, N, hN⟩ := ih (by omega)
    subst hr
    have hN : ∀ n, N ≤ n → f57_broughamref35_depth n (pf a).1 (pf a).2.1 (pf a).2.2 = some ((dpt a : Nat) : Int) := hN
    refine ⟨_, rfl, N + 3, fun n hn => ?_⟩
    obtain ⟨m, rfl⟩ : ∃ m, n = m + 3 := ⟨n - 3, by omega⟩
    show f57_broughamref35_depth (m + 3) _ _ _ = _
    rw [pf_not h.node]
    show (f57_broughamref35_depth_L3 (f57_broughamref35_depth (m + 2)) (m + 2) 0 0 8 0 [pk (pf a)]).bind _ = _
    rw [depL1, pk_un]
    show ((f57_broughamref35_depth (m + 2) (pf a).1 (pf a).2.1 (pf a).2.2).bind _).bind _ = _
    rw [hN _ (by omega)]
    show ((if (decide (((dpt a : Nat) : Int) > 0)) = true then some ((dpt a : Nat) : Int) else some 0).bind _) = _
    rw [if_pos (by simp; omega)]
    show some (IntKind.wrap .i64 (((dpt a : Nat) : Int) + 1)) = _
    rw [i64_id (by omega) (by omega), hd]; rfl
  | @two o a b ho h k ih1 ih2 =>
    intro hl
    have hd : dpt (.node o 0 a b) = max (dpt a) (dpt b) + 1 := by simp [dpt]
    have hp := h.pos
    have hq := k.pos
    obtain ⟨r, hr, N, hN⟩ := ih1 (by omega)
    obtain ⟨s, hs, M, hM⟩ := ih2 (by omega)
    subst hr; subst hs
    have hN : ∀ n, N ≤ n → f57_broughamref35_depth n (pf a).1 (pf a).2.1 (pf a).2.2 = some ((dpt a : Nat) : Int) := hN
    have hM : ∀ n, M ≤ n → f57_broughamref35_depth n (pf b).1 (pf b).2.1 (pf b).2.2 = some ((dpt b : Nat) : Int) := hM
    refine ⟨_, rfl, max N M + 4, fun n hn => ?_⟩
    obtain ⟨m, rfl⟩ : ∃ m, n = m + 4 := ⟨n - 4, by omega⟩
    show f57_broughamref35_depth (m + 4) _ _ _ = _
    rw [pf_two h.node k.node]
    show (f57_broughamref35_depth_L3 (f57_broughamref35_depth (m + 3)) (m + 3) 0 0 o 0 [pk (pf a), pk (pf b)]).bind _ = _
    rw [depL2, pk_un, pk_un]
    show ((f57_broughamref35_depth (m + 3) (pf a).1 (pf a).2.1 (pf a).2.2).bind fun r => if (decide (r > 0)) = true then (f57_broughamref35_depth (m + 3) (pf b).1 (pf b).2.1 (pf b).2.2).bind fun s => if (decide (s > r)) = true then some s else some r
      else (f57_broughamref35_depth (m + 3) (pf b).1 (pf b).2.1 (pf b).2.2).bind fun s => if (decide (s > 0)) = true then some s else some 0).bind _ = _
    rw [hN _ (by omega), hM _ (by omega)]
    show (if (decide (((dpt a : Nat) : Int) > 0)) = true then (if (decide (((dpt b : Nat) : Int) > ((dpt a : Nat) : Int))) = true then some ((dpt b : Nat) : Int) else some ((dpt a : Nat) : Int)) else (if (decide (((dpt b : Nat) : Int) > 0)) = true then some ((dpt b : Nat) : Int) else some 0)).bind _ = _
    rw [if_pos (by simp; omega), hd]
    by_cases c : dpt b > dpt a
    · rw [if_pos (by simp; omega)]
      show some (IntKind.wrap .i64 (((dpt b : Nat) : Int) + 1)) = _
      rw [i64_id (by omega) (by omega), show max (dpt a) (dpt b) = dpt b by omega]; rfl
    · rw [if_neg (by simp; omega)]
      show some (IntKind.wrap .i64 (((dpt a : Nat) : Int) + 1)) = _
      rw [i64_id (by omega) (by omega), show max (dpt a) (dpt b) = dpt a by omega]; rfl
theorem all_ev : ∀ {t : PT} (h : Tr t), Ev (fun n => f58_broughamref35_all n (pf t).1 (pf t).2.1 (pf t).2.2) (fun r => r = lvs t) := by
  intro t h
  induction h with
  | @leaf o k h =>
    refine ⟨_, rfl, 3, fun n hn => ?_⟩
    obtain ⟨m, rfl⟩ : ∃ m, n = m + 3 := ⟨n - 3, by omega⟩
    show (f58_broughamref35_all_L2 (f58_broughamref35_all (m + 2)) (m + 2) 0 o k []).bind _ = _
    rw [allL0]
    show (f88_broughamref35_own (m + 2) o k []).bind _ = _
    rw [own_leaf h]
    show some (leafS o k) = some (lvs (.node o k .nil .nil))
    simp [lvs]
  | @neg a h ih =>
    obtain ⟨r, hr, N, hN⟩ := ih
    subst hr
    have hN : ∀ n, N ≤ n → f58_broughamref35_all n (pf a).1 (pf a).2.1 (pf a).2.2 = some (lvs a) := hN
    refine ⟨_, rfl, N + 3, fun n hn => ?_⟩
    obtain ⟨m, rfl⟩ : ∃ m, n = m + 3 := ⟨n - 3, by omega⟩
    have e : lvs (.node 8 0 a .nil) = lvs a := by cases h <;> simp [lvs]
    show f58_broughamref35_all (m + 3) _ _ _ = _
    rw [pf_not h.node, e]
    show (f58_broughamref35_all_L2 (f58_broughamref35_all (m + 2)) (m + 2) 0 8 0 [pk (pf a)]).bind _ = _
    rw [allL1, pk_un]
    show ((f58_broughamref35_all (m + 2) (pf a).1 (pf a).2.1 (pf a).2.2).bind _).bind _ = _
    rw [hN _ (by omega)]
    cases lvs a
    · rfl
    · show (f88_broughamref35_own (m + 2) 8 0 [pk (pf a)]).bind _ = _
      rw [own8]; rfl
  | @two o a b ho h k ih1 ih2 =>
    obtain ⟨r, hr, N, hN⟩ := ih1
    obtain ⟨s, hs, M, hM⟩ := ih2
    subst hr; subst hs
    have hN : ∀ n, N ≤ n → f58_broughamref35_all n (pf a).1 (pf a).2.1 (pf a).2.2 = some (lvs a) := hN
    have hM : ∀ n, M ≤ n → f58_broughamref35_all n (pf b).1 (pf b).2.1 (pf b).2.2 = some (lvs b) := hM
    refine ⟨_, rfl, max N M + 4, fun n hn => ?_⟩
    obtain ⟨m, rfl⟩ : ∃ m, n = m + 4 := ⟨n - 4, by omega⟩
    have e : lvs (.node o 0 a b) = (lvs a && lvs b) := by cases h <;> simp [lvs]
    show f58_broughamref35_all (m + 4) _ _ _ = _
    rw [pf_two h.node k.node, e]
    show (f58_broughamref35_all_L2 (f58_broughamref35_all (m + 3)) (m + 3) 0 o 0 [pk (pf a), pk (pf b)]).bind _ = _
    rw [allL2, pk_un, pk_un]
    show ((f58_broughamref35_all (m + 3) (pf a).1 (pf a).2.1 (pf a).2.2).bind fun r => if (!r) = true then some (Sum.inl false : Bool ⊕ (Int × Int × List FR)) else (f58_broughamref35_all (m + 3) (pf b).1 (pf b).2.1 (pf b).2.2).bind fun s => if (!s) = true then some (Sum.inl false : Bool ⊕ (Int × Int × List FR)) else some (Sum.inr (o, 0, [pk (pf a), pk (pf b)]) : Bool ⊕ (Int × Int × List FR))).bind _ = _
    rw [hN _ (by omega), hM _ (by omega)]
    cases lvs a
    · rfl
    · cases lvs b
      · rfl
      · show (f88_broughamref35_own (m + 3) o 0 [pk (pf a), pk (pf b)]).bind _ = _
        rcases ho with rfl | rfl
        · rw [own9]; rfl
        · rw [own10]; rfl
theorem rightF_ev {t : PT} (h : Tr t) (hl : dpt t ≤ 1000000) : Ev (fun n => f30_broughamref35_Right n (pf t).1 (pf t).2.1 (pf t).2.2) (fun r => r = (decide (dpt t ≤ 16) && lvs t)) := by
  unfold f30_broughamref35_Right
  refine Ev.bind (depth_ev h hl) ?_
  rintro _ rfl
  refine Ev.ite (fun c => ?_) (fun c => ?_)
  · refine Ev.bind (all_ev h) ?_
    rintro _ rfl
    simp only [decide_eq_true_eq] at c
    exact Ev.some (by rw [decide_eq_true (by omega)]; rfl)
  · simp only [decide_eq_true_eq] at c
    exact Ev.some (by rw [decide_eq_false (by omega)]; rfl)
theorem rightT_ev {t : PT} (h : Tr t) : Ev (fun n => f31_filter_Right n t) (fun r => r = (decide (dpt t ≤ 16) && lvs t)) := by
  unfold f31_filter_Right
  refine Ev.bind (right_ev h 16 (by omega)) ?_
  rintro _ rfl
  exact Ev.some rfl

theorem plainT0 (n : Nat) (o k l : Int) : f25_broughamlaw35_Plain (n + 1) (.node o k .nil .nil) l = if (l == 0) = true then some (0, 0, []) else some (o, k, []) := by kernel_rfl
theorem plainT1 (n : Nat) (o k l o1 k1 : Int) (a1 b1 : PT) : f25_broughamlaw35_Plain (n + 1) (.node o k (.node o1 k1 a1 b1) .nil) l = if (l == 0) = true then some (0, 0, []) else (f25_broughamlaw35_Plain n (.node o1 k1 a1 b1) (IntKind.wrap .i64 (l - 1))).bind fun r =>
    if [pk r].length ≤ maxLen ∧ [pk r].length * 40 ≤ 140737488355328 then some (o, k, [pk r]) else none := by kernel_rfl
theorem plainT2 (n : Nat) (o k l o1 k1 o2 k2 : Int) (a1 b1 a2 b2 : PT) : f25_broughamlaw35_Plain (n + 1) (.node o k (.node o1 k1 a1 b1) (.node o2 k2 a2 b2)) l = if (l == 0) = true then some (0, 0, []) else (f25_broughamlaw35_Plain n (.node o1 k1 a1 b1) (IntKind.wrap .i64 (l - 1))).bind fun r =>
    if [pk r].length ≤ maxLen ∧ [pk r].length * 40 ≤ 140737488355328 then (f25_broughamlaw35_Plain n (.node o2 k2 a2 b2) (IntKind.wrap .i64 (l - 1))).bind fun s =>
      if [pk r].length + [pk s].length ≤ maxLen ∧ ([pk r].length + [pk s].length) * 40 ≤ 140737488355328 then some (o, k, [pk r] ++ [pk s]) else none else none := by kernel_rfl
theorem node_of {t : PT} (h : t.isNil = false) : ∃ o k a b, t = .node o k a b := by
  cases t with
  | nil => cases h
  | node o k a b => exact ⟨o, k, a, b, rfl⟩
theorem plainF_ev : ∀ {t : PT} (h : Tr t) (l : Nat) (hl : dpt t ≤ l ∧ l ≤ 1000), Ev (fun n => f25_broughamlaw35_Plain n t (l : Int)) (fun r => r = pf t) := by
  intro t h
  induction h with
  | @leaf o k h =>
    intro l hl
    simp only [dpt] at hl
    refine ⟨_, rfl, 1, fun n hn => ?_⟩
    obtain ⟨m, rfl⟩ : ∃ m, n = m + 1 := ⟨n - 1, by omega⟩
    show f25_broughamlaw35_Plain (m + 1) _ _ = _
    rw [plainT0, if_neg (by simp; omega)]; rfl
  | @neg a h ih =>
    intro l hl
    have hd : dpt (.node 8 0 a .nil) = dpt a + 1 := by simp [dpt]
    have hp := h.pos
    obtain ⟨r, hr, N, hN⟩ := ih (l - 1) (by omega)
    subst hr
    have hN : ∀ n, N ≤ n → f25_broughamlaw35_Plain n a ((l - 1 : Nat) : Int) = some (pf a) := hN
    refine ⟨_, rfl, N + 1, fun n hn => ?_⟩
    obtain ⟨m, rfl⟩ : ∃ m, n = m + 1 := ⟨n - 1, by omega⟩
    show f25_broughamlaw35_Plain (m + 1) _ _ = _
    rw [pf_not h.node]
    have w : IntKind.wrap .i64 ((l : Int) - 1) = ((l - 1 : Nat) : Int) := by rw [i64_id (by omega) (by omega)]; omega
    obtain ⟨o1, k1, a1, b1, rfl⟩ := node_of h.node
    rw [plainT1, if_neg (by simp; omega), w, hN m (by omega)]
    rw [Option.bind_some, if_pos (by simp [maxLen])]
  | @two o a b ho h k ih1 ih2 =>
    intro l hl
    have hd : dpt (.node o 0 a b) = max (dpt a) (dpt b) + 1 := by simp [dpt]
    have hp := h.pos
    have hq := k.pos
    obtain ⟨r, hr, N, hN⟩ := ih1 (l - 1) (by omega)
    obtain ⟨s, hs, M, hM⟩ := ih2 (l - 1) (by omega)
    subst hr; subst hs
    have hN : ∀ n, N ≤ n → f25_broughamlaw35_Plain n a ((l - 1 : Nat) : Int) = some (pf a) := hN
    have hM : ∀ n, M ≤ n → f25_broughamlaw35_Plain n b ((l - 1 : Nat) : Int) = some (pf b) := hM
    refine ⟨_, rfl, max N M + 1, fun n hn => ?_⟩
    obtain ⟨m, rfl⟩ : ∃ m, n = m + 1 := ⟨n - 1, by omega⟩
    show f25_broughamlaw35_Plain (m + 1) _ _ = _
    rw [pf_two h.node k.node]
    have w : IntKind.wrap .i64 ((l : Int) - 1) = ((l - 1 : Nat) : Int) := by rw [i64_id (by omega) (by omega)]; omega
    obtain ⟨o1, k1, a1, b1, rfl⟩ := node_of h.node
    obtain ⟨o2, k2, a2, b2, rfl⟩ := node_of k.node
    rw [plainT2, if_neg (by simp; omega), w, hN m (by omega), hM m (by omega)]
    rw [Option.bind_some, if_pos (by simp [maxLen]), Option.bind_some, if_pos (by simp [maxLen])]; rfl
abbrev SRC := Int → Int → List FR → Int → Int → List FR → Option Bool
theorem sameL0 (rc : SRC) (n : Nat) (o k o' k' : Int) : f24_broughamref35_Same_L4 rc (n + 1) 0 o k [] o' k' [] = some (.inr ()) := by kernel_rfl
theorem sameL1 (rc : SRC) (n : Nat) (o k o' k' : Int) (x x' : FR) : f24_broughamref35_Same_L4 rc (n + 2) 0 o k [x] o' k' [x'] = (rc x.1 x.2.1 (x.2.2.map FT.un) x'.1 x'.2.1 (x'.2.2.map FT.un)).bind fun r => if (!r) = true then some (.inl false) else some (.inr ()) := by kernel_rfl
theorem sameL2 (rc : SRC) (n : Nat) (o k o' k' : Int) (x y x' y' : FR) : f24_broughamref35_Same_L4 rc (n + 3) 0 o k [x, y] o' k' [x', y'] = (rc x.1 x.2.1 (x.2.2.map FT.un) x'.1 x'.2.1 (x'.2.2.map FT.un)).bind fun r => if (!r) = true then some (.inl false) else
    (rc y.1 y.2.1 (y.2.2.map FT.un) y'.1 y'.2.1 (y'.2.2.map FT.un)).bind fun s => if (!s) = true then some (.inl false) else some (.inr ()) := by kernel_rfl
theorem same_head (n : Nat) (o k : Int) (l : List FR) : f24_broughamref35_Same (n + 1) o k l o k l = (f24_broughamref35_Same_L4 (f24_broughamref35_Same n) n 0 o k l o k l).bind fun w => match w with | .inl e => some e | .inr e => some true := by
  rw [f24_broughamref35_Same, if_neg (by simp), if_neg (by simp), if_neg (by simp)]; rfl
theorem sameF_ev : ∀ {t : PT} (h : Tr t), Ev (fun n => f24_broughamref35_Same n (pf t).1 (pf t).2.1 (pf t).2.2 (pf t).1 (pf t).2.1 (pf t).2.2) (fun r => r = true) := by
  intro t h
  induction h with
  | @leaf o k h =>
    refine ⟨_, rfl, 2, fun n hn => ?_⟩
    obtain ⟨m, rfl⟩ : ∃ m, n = m + 2 := ⟨n - 2, by omega⟩
    show f24_broughamref35_Same (m + 2) o k [] o k [] = _
    rw [same_head, sameL0]; rfl
  | @neg a h ih =>
    obtain ⟨r, hr, N, hN⟩ := ih
    subst hr
    have hN : ∀ n, N ≤ n → f24_broughamref35_Same n (pf a).1 (pf a).2.1 (pf a).2.2 (pf a).1 (pf a).2.1 (pf a).2.2 = some true := hN
    refine ⟨_, rfl, N + 3, fun n hn => ?_⟩
    obtain ⟨m, rfl⟩ : ∃ m, n = m + 3 := ⟨n - 3, by omega⟩
    show f24_broughamref35_Same (m + 3) _ _ _ _ _ _ = _
    rw [pf_not h.node, same_head, sameL1, pk_un]
    show ((f24_broughamref35_Same (m + 2) (pf a).1 (pf a).2.1 (pf a).2.2 (pf a).1 (pf a).2.1 (pf a).2.2).bind _).bind _ = _
    rw [hN _ (by omega)]; rfl
  | @two o a b ho h k ih1 ih2 =>
    obtain ⟨r, hr, N, hN⟩ := ih1
    obtain ⟨s, hs, M, hM⟩ := ih2
    subst hr; subst hs
    have hN : ∀ n, N ≤ n → f24_broughamref35_Same n (pf a).1 (pf a).2.1 (pf a).2.2 (pf a).1 (pf a).2.1 (pf a).2.2 = some true := hN
    have hM : ∀ n, M ≤ n → f24_broughamref35_Same n (pf b).1 (pf b).2.1 (pf b).2.2 (pf b).1 (pf b).2.1 (pf b).2.2 = some true := hM
    refine ⟨_, rfl, max N M + 4, fun n hn => ?_⟩
    obtain ⟨m, rfl⟩ : ∃ m, n = m + 4 := ⟨n - 4, by omega⟩
    show f24_broughamref35_Same (m + 4) _ _ _ _ _ _ = _
    rw [pf_two h.node k.node, same_head, sameL2, pk_un, pk_un]
    show ((f24_broughamref35_Same (m + 3) (pf a).1 (pf a).2.1 (pf a).2.2 (pf a).1 (pf a).2.1 (pf a).2.2).bind fun r => if (!r) = true then some (Sum.inl false : Bool ⊕ Unit) else (f24_broughamref35_Same (m + 3) (pf b).1 (pf b).2.1 (pf b).2.2 (pf b).1 (pf b).2.1 (pf b).2.2).bind fun s => if (!s) = true then some (Sum.inl false : Bool ⊕ Unit) else some (Sum.inr ())).bind _ = _
    rw [hN _ (by omega), hM _ (by omega)]; rfl
theorem alive_ev : Ev (fun n => f23_broughamlaw35_alive n) (fun r => r = true) := Ev.at 60 (fun m => by kernel_rfl) rfl

def Good (t : PT) : Prop := (decide (dpt t ≤ 16) && lvs t) = true
theorem ev_two {α : Type} {f : Nat → Option α} {a b : α} (h : Ev f (fun r => r = a)) (k : Ev f (fun r => r = b)) : a = b := by
  obtain ⟨N, hN⟩ := h.eq
  obtain ⟨M, hM⟩ := k.eq
  have e := hN (max N M) (by omega)
  rw [hM (max N M) (by omega)] at e
  exact (Option.some.inj e).symm
theorem or_whole {L : Nat} {w : List BA} {t : PT} (h : GOr L w t) (hL : L ≤ 1000) (hw : Small w) : Ev (fun n => f54_filter_reader_or n w (L : Int) false) (fun r => r = (t, [], (L : Int), false)) := by
  have := or_reads h hL [] (fun r => r = (t, [], (L : Int), false)) (by simpa using hw) (fun x r e => by cases e) (orL_stop t [] L (fun x r e => by cases e))
  simpa using this
theorem gor_one {L : Nat} {w : List BA} {t u : PT} (h : GOr L w t) (k : GOr L w u) (hL : L ≤ 1000) (hw : Small w) : t = u :=
  (Prod.mk.inj (ev_two (or_whole h hL hw) (or_whole k hL hw))).1
theorem small_piece (s : ByteArray) (hs : s.size ≤ 90000) : Small (pieceB s) := fun x hx => by have := pieceB_sz hx; omega
def PSays (s : ByteArray) (t : PT) : Prop := s.size ≤ 4096 ∧ GOr 64 (pieceB s) t ∧ Good t
theorem parseT_ev (s : ByteArray) : Ev (fun n => f21_filter_Parse n s) (fun r => (r = (.nil, false) ∧ ∀ t, ¬ PSays s t) ∨ ∃ t, PSays s t ∧ r = (t, true)) := by
  unfold f21_filter_Parse
  by_cases c : s.size > 4096
  · exact Ev.pos (by simp only [decide_eq_true_eq]; omega) (Ev.some (.inl ⟨rfl, fun t h => by have := h.1; omega⟩))
  refine Ev.neg (by simp only [decide_eq_true_eq]; omega) (Ev.bind (pieceB_ev s (by omega)) ?_)
  rintro _ rfl
  have hsm := small_piece s (by omega)
  by_cases hg : ∃ t, GOr 64 (pieceB s) t
  · obtain ⟨t, hg⟩ := hg
    refine Ev.bind (or_whole (L := 64) hg (by decide) hsm) ?_
    rintro _ rfl
    refine Ev.neg Bool.false_ne_true (Ev.neg (by simp) (Ev.bind (rightT_ev (or_tr hg).1) ?_))
    rintro _ rfl
    refine Ev.ite (fun d => Ev.some (.inl ⟨rfl, fun u hu => ?_⟩)) (fun d => Ev.some (.inr ⟨t, ⟨by omega, hg, by simpa [Good] using d⟩, rfl⟩))
    obtain ⟨_, h2, h3⟩ := hu
    rw [← gor_one (L := 64) hg h2 (by decide) hsm] at h3
    unfold Good at h3
    rw [h3] at d; cases d
  · refine Ev.bind (or_all 64 (by omega) (pieceB s) hsm) (fun r hr => ?_)
    have no : ∀ t, ¬ PSays s t := fun t h => hg ⟨t, h.2.1⟩
    refine Ev.ite (fun d => Ev.some (.inl ⟨rfl, no⟩)) (fun d => Ev.ite (fun e => Ev.some (.inl ⟨rfl, no⟩)) (fun e => ?_))
    exfalso
    obtain ⟨_, u, _, q1, q2⟩ := hr (by simpa using d)
    have : r.2.1 = [] := by
      simp only [decide_eq_true_eq] at e
      exact List.eq_nil_of_length_eq_zero (by omega)
    rw [this, List.append_nil] at q1
    exact hg ⟨_, q1 ▸ q2⟩
theorem refparse_ev (s : ByteArray) : Ev (fun n => f22_broughamref35_Parse n s) (fun r => (r = (false, 0, 0, []) ∧ ∀ t, ¬ PSays s t) ∨ ∃ t, PSays s t ∧ r = (true, pf t)) := by
  unfold f22_broughamref35_Parse
  by_cases c : s.size > 4096
  · exact Ev.pos (by simp only [decide_eq_true_eq]; omega) (Ev.some (.inl ⟨rfl, fun t h => by have := h.1; omega⟩))
  refine Ev.neg (by simp only [decide_eq_true_eq]; omega) (Ev.bind (pieceB_ref s (by omega)) ?_)
  rintro _ rfl
  have hsm := small_piece s (by omega)
  have hlen := pieceB_len s
  by_cases hg : ∃ t, GOr 64 (pieceB s) t
  · obtain ⟨t, hg⟩ := hg
    refine Ev.bind (refread_reads (L := 64) hg (by decide) (by omega)) ?_
    rintro _ rfl
    have hd := (or_tr hg).2
    · refine Ev.neg (by simp) (Ev.bind (rightF_ev (or_tr hg).1 (by omega)) ?_)
      rintro _ rfl
      refine Ev.ite (fun d => Ev.some (.inl ⟨rfl, fun u hu => ?_⟩)) (fun d => Ev.some (.inr ⟨t, ⟨by omega, hg, by simpa [Good] using d⟩, rfl⟩))
      obtain ⟨_, h2, h3⟩ := hu
      rw [← gor_one (L := 64) hg h2 (by decide) hsm] at h3
      unfold Good at h3
      rw [h3] at d; cases d
  · refine Ev.bind (refread_says 100000 (by omega) (pieceB s) 64 (by omega) (by omega)) (fun r hr => ?_)
    have no : ∀ t, ¬ PSays s t := fun t h => hg ⟨t, h.2.1⟩
    refine Ev.pos ?_ (Ev.some (.inl ⟨rfl, no⟩))
    cases e : r.1
    · rfl
    · obtain ⟨K, t, q1, q2, _⟩ := hr e
      have : K = 64 := by omega
      subst this
      exact absurd ⟨t, q2⟩ hg
theorem FilterReads (s : ByteArray) (h0 : K.ok .str s) : ∃ n, f5_broughamlaw35_FilterReads n s = some true := by
  apply Ev.true
  unfold f5_broughamlaw35_FilterReads
  refine Ev.ite (fun _ => Ev.some rfl) fun c => ?_
  refine Ev.bind (parseT_ev s) (fun r hr => Ev.bind (refparse_ev s) (fun q hq => ?_))
  rcases hr with ⟨rfl, hr⟩ | ⟨t, ht, rfl⟩ <;> rcases hq with ⟨rfl, hq⟩ | ⟨u, hu, rfl⟩
  · exact Ev.pos (by simp) (Ev.pos (by simp) (Ev.pos (by simp [PT.isNil]) (Ev.bind alive_ev (fun r hr => Ev.some hr))))
  · exact absurd hu (hr u)
  · exact absurd ht (hq t)
  · have e : t = u := gor_one ht.2.1 hu.2.1 (by omega) (small_piece s (by have := ht.1; omega))
    subst e
    have htr := (or_tr ht.2.1).1
    have hgd := ht.2.2
    unfold Good at hgd
    simp only [Bool.and_eq_true, decide_eq_true_eq] at hgd
    refine Ev.neg (by simp) (Ev.pos rfl (Ev.pos (by rw [htr.node]; rfl) (Ev.bind (plainF_ev htr 20 (by omega)) ?_)))
    rintro _ rfl
    refine Ev.bind (sameF_ev htr) ?_
    rintro _ rfl
    exact Ev.pos rfl (Ev.bind alive_ev (fun r hr => Ev.some hr))
end Go.Proofs.YtakamchmiakicaaDoorF35
