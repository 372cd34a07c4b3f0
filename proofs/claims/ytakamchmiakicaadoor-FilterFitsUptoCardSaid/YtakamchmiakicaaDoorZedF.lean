/- ZED, sixth text: what the sixth's operations are worth in the world: one lemma an operation. -/
import Derived.Test.YtakamchmiakicaaDoorZedE
namespace Zed
open Go
set_option linter.unusedVariables false
set_option linter.unusedSimpArgs false

section
variable {P : Program} {tab : Tab} {W : World} {F : Nat → Nat → Prop} {g : G}

/-- An address among what is frozen: cells from an offset on. -/
theorem el_drop {b o off : Nat} {cs : List X} {vs : Nat → Value} (h : ∀ (j : Nat) (d : X), cs[j]? = some d → W.cell? ⟨b, o + j, none⟩ = some (vs j) ∧ F b (o + j)) (hr : ∀ (j : Nat) (d : X), cs[j]? = some d → RD W F (vs j) d.raw) :
    ∃ vs' : Nat → Value, (∀ (j : Nat) (d : X), (cs.drop off)[j]? = some d → W.cell? ⟨b, o + off + j, none⟩ = some (vs' j) ∧ F b (o + off + j)) ∧ ∀ (j : Nat) (d : X), (cs.drop off)[j]? = some d → RD W F (vs' j) d.raw := by
  refine ⟨fun j => vs (off + j), fun j d hj => ?_, fun j d hj => ?_⟩
  · rw [List.getElem?_drop] at hj
    rw [Nat.add_assoc]
    exact h _ d hj
  · rw [List.getElem?_drop] at hj
    exact hr _ d hj

theorem field_of (ht : TabOk P tab) {t : TypeId} {f off : Nat} {i : TyI} (h : fieldZ tab t f = some (off, i)) :
    ∃ (l : Array Field) (fd : Field), P.underlying t = some (.struct l) ∧ l[f]? = some fd ∧ fd.offset = off ∧ TyOk P fd.type i := by
  unfold fieldZ at h
  split at h
  · rename_i fs _ _ _ _ _ hl
    obtain ⟨d, hd, hf⟩ := (ht t _ hl).und
    obtain ⟨l, rfl, hm⟩ := hf
    cases hp : fs[f]? with
    | none => rw [hp] at h; cases h
    | some p =>
      rw [hp] at h
      simp only [Option.bind_some] at h
      cases hi : look tab p.2 with
      | none => rw [hi] at h; cases h
      | some j =>
        rw [hi] at h
        simp only [Option.map_some, Option.some.injEq, Prod.mk.injEq] at h
        obtain ⟨rfl, rfl⟩ := h
        rw [← hm, List.getElem?_map] at hp
        cases hq : l[f]? with
        | none => rw [Array.getElem?_toList, hq] at hp; cases hp
        | some fd =>
          rw [Array.getElem?_toList, hq] at hp
          simp only [Option.map_some, Option.some.injEq] at hp
          subst hp
          exact ⟨l, fd, hd, hq, rfl, ht _ _ hi⟩
  · cases h

/-- A part of a value of many cells. -/
theorem part_run {t : TypeId} {i : TyI} (hi : TyOk P t i) {vs : Array Value} {cs : List Z1} (h : RCs W g vs.toList cs) {off : Nat} {z : V1} (hz : readZ i (cs.drop off) = some z) :
    ∃ v, (part t vs off).run P W = .ok v W ∧ RV W g v z := by
  unfold readZ at hz
  have hlen : vs.size = cs.length := by have := h.1; simpa using this
  by_cases ha : i.ty.isAgg = true
  · rw [if_pos ha] at hz
    split at hz
    · rename_i hle
      cases hz
      refine ⟨.agg (vs.extract off (off + i.size)), by simp [part, hi.isAgg, ha, hi.size], vs.extract off (off + i.size), rfl, ?_, ?_⟩
      · simp at hle ⊢; omega
      · intro j v d hv hd
        have hjl : j < i.size := by
          rcases Nat.lt_or_ge j i.size with h1 | h1
          · exact h1
          · simp [List.getElem?_eq_none (show ((cs.drop off).take i.size).length ≤ j by simp; omega)] at hd
        rw [List.getElem?_take_of_lt hjl, List.getElem?_drop] at hd
        simp only [Array.toList_extract, List.extract_eq_take_drop, List.getElem?_take, List.getElem?_drop] at hv
        rw [if_pos (by omega)] at hv
        exact h.2 (off + j) v d hv hd
    · cases hz
  · rw [if_neg ha] at hz
    have ha' : i.ty.isAgg = false := by simpa using ha
    split at hz
    · rename_i d r hd
      cases hz
      have h0 : cs[off]? = some d := by
        have := List.getElem?_drop (xs := cs) (i := off) (j := 0)
        rw [hd] at this
        simpa using this.symm
      have hlt : off < cs.length := by
        rcases Nat.lt_or_ge off cs.length with h1 | h1
        · exact h1
        · simp [List.getElem?_eq_none h1] at h0
      have hv : vs[off]? = some vs[off] := Array.getElem?_eq_getElem (by omega)
      refine ⟨vs[off], ?_, h.2 off _ d (by rw [Array.getElem?_toList]; exact hv) h0⟩
      simp [part, hi.isAgg, ha', hv]
    · cases hz

/-- A slice's element. -/
theorem elem_of {v : Value} {sz : Nat} {xs : List (List D)} (h : RD W F v (.sl sz xs)) {i : Nat} (hi : i < xs.length) :
    ∃ b o cap, v = .slice (some ⟨b, o, none⟩) xs.length cap ∧ 0 < sz ∧ ∃ vs : Nat → Value, (∀ (j : Nat) (d : D), (xs.getD i [])[j]? = some d → W.cell? ⟨b, o + i * sz + j, none⟩ = some (vs j) ∧ F b (o + i * sz + j)) ∧ ∀ (j : Nat) (d : D), (xs.getD i [])[j]? = some d → RD W F (vs j) d := by
  cases h with
  | slNil => simp at hi
  | slZ => simp at hi
  | sl b o len cap sz xs vs hl hc hs hz hh hr =>
    have hx : xs[i]? = some (xs.getD i []) := by simp [List.getD, List.getElem?_eq_getElem hi]
    exact ⟨b, o, cap, by rw [hl], hs, fun j => vs i j, fun j d hj => hh i _ j d hx hj, fun j d hj => hr i _ j d hx hj⟩

/-- A cut of a slice. -/
theorem RD.cut {A : Option Addr} {n c sz : Nat} {xs : List (List D)} (h : RD W F (.slice A n c) (.sl sz xs)) {lo hi m s : Nat} (h1 : lo ≤ hi) (h2 : hi ≤ xs.length) (h3 : hi ≤ m) (h4 : m ≤ c) (hs : sz = s ∨ sz = 0) :
    RD W F (sliced A lo hi m s) (.sl sz ((xs.take hi).drop lo)) := by
  cases h with
  | slNil =>
    obtain rfl : m = 0 := by omega
    obtain rfl : lo = 0 := by simp at h2; omega
    obtain rfl : hi = 0 := by simp at h2; omega
    simp only [sliced, if_true, Nat.sub_self, List.take_nil, List.drop_nil]
    exact .slNil sz
  | slZ a _ hs' =>
    obtain rfl : m = 0 := by omega
    obtain rfl : lo = 0 := by simp at h2; omega
    obtain rfl : hi = 0 := by simp at h2; omega
    simp only [sliced, if_true, Nat.sub_self, List.take_nil, List.drop_nil]
    exact .slZ a sz hs'
  | sl b o len cap sz xs vs hl hc hs' hz hh hr =>
    have hsz : sz = s := by omega
    subst hsz
    have look' : ∀ (i : Nat) (c : List D), ((xs.take hi).drop lo)[i]? = some c → xs[lo + i]? = some c := by
      intro i c hc'
      rw [List.getElem?_drop] at hc'
      rw [List.getElem?_take] at hc'
      split at hc'
      · exact hc'
      · cases hc'
    have hlen : ((xs.take hi).drop lo).length = hi - lo := by simp; omega
    unfold sliced
    by_cases hm : m = lo
    · rw [if_pos hm]
      have he : (xs.take hi).drop lo = [] := List.eq_nil_of_length_eq_zero (by rw [hlen]; omega)
      rw [he]
      exact .sl b o _ _ sz [] (fun _ _ => .nilIface) (by simp; omega) (by omega) hs' (by simp) (by simp) (by simp)
    · rw [if_neg hm]
      simp only [Option.map_some, addr_add]
      refine .sl b (o + lo * sz) _ _ sz _ (fun i j => vs (lo + i) j) hlen (by omega) hs' (fun i c hc' => hz _ c (look' i c hc')) (fun i c j d hc' hj => ?_) (fun i c j d hc' hj => hr _ c j d (look' i c hc') hj)
      have := hh (lo + i) c j d (look' i c hc') hj
      rw [Nat.add_mul] at this
      rw [show o + lo * sz + i * sz + j = o + (lo * sz + i * sz) + j from by omega]
      exact this

theorem elem_eq {t e : TypeId} (hu : P.underlying t = some (.slice e)) : P.elem t = e := by simp [Program.elem, hu]

theorem slice_run {t e : TypeId} (hu : P.underlying t = some (.slice e)) {ei : TyI} (he : TyOk P e ei) {v : Value} {sz : Nat} {xs : List (List D)} (h : RD W F v (.sl sz xs)) {vlo vhi vmx : Option Value} {lo hi mx : Option Int}
    (hlo : ∀ n, lo = some n ↔ ∃ k, vlo = some (.int k n)) (hhi : ∀ n, hi = some n ↔ ∃ k, vhi = some (.int k n)) (hmx : ∀ n, mx = some n ↔ ∃ k, vmx = some (.int k n))
    (nlo : lo = none ↔ vlo = none) (nhi : hi = none ↔ vhi = none) (nmx : mx = none ↔ vmx = none)
    (hc : cutOk xs.length lo hi mx) (hs : sz = ei.size ∨ sz = 0) :
    ∃ r, (Instr.sliceAt t v vlo vhi vmx).run P W = .ok r W ∧ RD W F r (.sl sz ((xs.take (hi.getD xs.length).toNat).drop (lo.getD 0).toNat)) := by
  have hu' : P.underlying t = some (.slice (P.elem t)) := by rw [elem_eq hu]; exact hu
  obtain ⟨A, n, c, hv, hn, hcap⟩ : ∃ A n c, v = .slice A n c ∧ n = xs.length ∧ n ≤ c := by
    cases h with
    | slNil => exact ⟨none, 0, 0, rfl, rfl, Nat.le_refl _⟩
    | slZ a => exact ⟨some a, 0, 0, rfl, rfl, Nat.le_refl _⟩
    | sl b o len cap sz xs vs hl hc' _ _ _ _ => exact ⟨_, len, cap, rfl, hl.symm, hc'⟩
  subst hv
  subst hn
  rw [run_sliceAt_slice W t _ _ _ _ hu']
  have hsz : (Go.sizeOf (P.elem t)).run P W = .ok ei.size W := by rw [elem_eq hu]; exact he.size W
  obtain ⟨c1, c2, c3, c4⟩ := hc
  have key : ∀ (l h' m : Nat), l ≤ h' → h' ≤ xs.length → h' ≤ m → m ≤ c → RD W F (sliced A l h' m ei.size) (.sl sz ((xs.take h').drop l)) := fun l h' m a1 a2 a3 a4 => h.cut a1 a2 a3 a4 hs
  cases mx with
  | none =>
    have hm := nmx.1 rfl
    subst hm
    cases lo with
    | none =>
      have hl := nlo.1 rfl
      subst hl
      cases hi with
      | none =>
        have hh := nhi.1 rfl
        subst hh
        simp only [Option.getD_none] at c1 c2 c3 ⊢
        exact ⟨_, by rw [run_slice_all W t A _ _ hu', hsz]; rfl, key 0 _ c (by omega) (by omega) (by omega) (by omega)⟩
      | some hi =>
        obtain ⟨k, rfl⟩ := (hhi hi).1 rfl
        simp only [Option.getD_none, Option.getD_some] at c1 c2 c3 ⊢
        exact ⟨_, by rw [run_slice_h W t A _ _ hu' k hi (by omega) (by omega), hsz]; rfl, key 0 _ c (by omega) (by omega) (by omega) (by omega)⟩
    | some lo =>
      obtain ⟨k, rfl⟩ := (hlo lo).1 rfl
      cases hi with
      | none =>
        have hh := nhi.1 rfl
        subst hh
        simp only [Option.getD_none, Option.getD_some] at c1 c2 c3 ⊢
        exact ⟨_, by rw [run_slice_l W t A _ _ hu' k lo (by omega) (by omega), hsz]; rfl, by have := key lo.toNat xs.length c (by omega) (by omega) (by omega) (by omega); simpa using this⟩
      | some hi =>
        obtain ⟨k', rfl⟩ := (hhi hi).1 rfl
        simp only [Option.getD_some] at c1 c2 c3 ⊢
        exact ⟨_, by rw [run_slice_lh W t A _ _ hu' k k' lo hi (by omega) (by omega) (by omega), hsz]; rfl, key _ _ c (by omega) (by omega) (by omega) (by omega)⟩
  | some mx =>
    obtain ⟨km, rfl⟩ := (hmx mx).1 rfl
    cases hi with
    | none => exact c4.elim
    | some hi =>
      obtain ⟨kh, rfl⟩ := (hhi hi).1 rfl
      obtain ⟨c5, c6⟩ := c4
      cases lo with
      | none =>
        have hl := nlo.1 rfl
        subst hl
        simp only [Option.getD_none, Option.getD_some] at c1 c2 c3 ⊢
        exact ⟨_, by rw [run_slice_hm W t A _ _ hu' kh km hi mx (by omega) (by omega) (by omega), hsz]; rfl, key 0 _ mx.toNat (by omega) (by omega) (by omega) (by omega)⟩
      | some lo =>
        obtain ⟨k, rfl⟩ := (hlo lo).1 rfl
        simp only [Option.getD_some] at c1 c2 c3 ⊢
        exact ⟨_, by rw [run_slice_lhm W t A _ _ hu' k kh km lo hi mx (by omega) (by omega) (by omega) (by omega), hsz]; rfl, key _ _ mx.toNat (by omega) (by omega) (by omega) (by omega)⟩

theorem slice_str_run {t : TypeId} (hu : P.underlying t = some .string) {s : ByteArray} {vlo vhi : Option Value} {lo hi : Option Int}
    (hlo : ∀ n, lo = some n ↔ ∃ k, vlo = some (.int k n)) (hhi : ∀ n, hi = some n ↔ ∃ k, vhi = some (.int k n))
    (nlo : lo = none ↔ vlo = none) (nhi : hi = none ↔ vhi = none) (hc : cutOk s.size lo hi none) :
    (Instr.sliceAt t (.string s) vlo vhi none).run P W = .ok (.string (s.extract (lo.getD 0).toNat (hi.getD s.size).toNat)) W := by
  rw [run_sliceAt_string W t _ _ _ _ hu]
  obtain ⟨c1, c2, c3, _⟩ := hc
  cases lo with
  | none =>
    have hl := nlo.1 rfl
    subst hl
    cases hi with
    | none =>
      have hh := nhi.1 rfl
      subst hh
      simp [Instr.slice, Instr.sliceBounds, run_underlying hu]
    | some hi =>
      obtain ⟨k, rfl⟩ := (hhi hi).1 rfl
      simp only [Option.getD_none, Option.getD_some] at c1 c2 c3 ⊢
      rw [run_slice_string_to_if W t s k hi hu, if_pos ⟨by omega, by omega⟩]
      rfl
  | some lo =>
    obtain ⟨k, rfl⟩ := (hlo lo).1 rfl
    cases hi with
    | none =>
      have hh := nhi.1 rfl
      subst hh
      simp only [Option.getD_none, Option.getD_some] at c1 c2 c3 ⊢
      rw [run_slice_string_from_if W t s k lo hu, if_pos ⟨by omega, by omega⟩]
      rfl
    | some hi =>
      obtain ⟨k', rfl⟩ := (hhi hi).1 rfl
      simp only [Option.getD_some] at c1 c2 c3 ⊢
      rw [run_slice_string_if W t s k k' lo hi hu, if_pos ⟨by omega, by omega⟩, if_pos ⟨by omega, by omega⟩]
end
end Zed
