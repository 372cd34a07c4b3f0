/- Texts ZedKf of our own machine for the walk of WholeChallenges, one behind the other. -/
import Derived.LaidEql
import Derived.Laws.CopyRow
import Derived.Laws.IdiomCopy
import Derived.Great.BuildSlice
import Derived.Test.YtiammpabkpoidaaGreatW06
namespace Zed
open Go
set_option linter.unusedVariables false
set_option linter.unusedSimpArgs false

noncomputable def ptrsZ (ev : Operand → Option V1) : List Operand → Option (List (Nat × Nat))
  | [] => some []
  | x :: r => match ev x, ptrsZ ev r with
    | some (.c (.ptr id off)), some l => some ((id, off) :: l)
    | _, _ => none
noncomputable def cellsZ (ev : Operand → Option V1) : List Operand → Option (List Z1)
  | [] => some []
  | x :: r => match ev x, cellsZ ev r with
    | some (.c z), some l => some (z :: l)
    | _, _ => none
noncomputable def sliceE (tab : Tab) (t : TypeId) : Option TypeId := match (tlook tab t).map TyI.ty with
  | some (.slice e) => some e
  | _ => none
/-- A type of one cell: its zero, its bytes. -/
noncomputable def one1 (tab : Tab) (e : TypeId) : Option (X × Nat) := match tlook tab e with
  | some i => match i.zero with
    | [z] => if i.size = 1 ∧ i.ty.isAgg = false then some (z, i.bytes) else none
    | _ => none
  | none => none
/-- The cells of a row that can be read, and where they lie. -/
noncomputable def srcZ (bx : Nat → Option (List Z1)) : V1 → Option (List Z1 × List Nat)
  | .c (.hd id off n _) => (bx id).bind fun cs => if plainB cs = true ∧ off + n ≤ cs.length then some ((cs.drop off).take n, [id]) else none
  | .c (.d (.sl .unit _)) => some ([], [])
  | .c (.d (.sl T xs)) => if T.size = 1 then some ((xs.flatMap T.row).map Z1.d, []) else none
  | .c (.own _ T xs) => if T.size = 1 then some ((xs.flatMap T.row).map Z1.d, []) else none
  | .c (.nn T xs) => if T.size = 1 then some ((xs.flatMap T.row).map Z1.d, []) else none
  | _ => none
noncomputable def seqB : Nat → List Nat → Bool
  | _, [] => true
  | i, k :: r => Nat.beq i k && seqB (i + 1) r
noncomputable def bytesC : List Z1 → Option (List Int)
  | [] => some []
  | .d (.int .u8 n) :: r => (bytesC r).map fun l => n :: l
  | _ => none

section
variable {P : Program} {tab : Tab} {E : Ent} {g : G} {s : S} {a : Act} {W W' : World} {F : Nat → Nat → Prop}

theorem sliceE_und (ht : TabOk P tab) {t e : TypeId} (h : sliceE tab t = some e) : P.underlying t = some (.slice e) := by
  unfold sliceE at h
  split at h
  · rename_i e' h'; cases h; exact look_und' ht h'
  · cases h
theorem one1_spec (ht : TabOk P tab) {e : TypeId} {z : X} {b : Nat} (h : one1 tab e = some (z, b)) :
    ∃ i j v, tlook tab e = some i ∧ TyOk P e i ∧ P.info? e = some j ∧ j.size = 1 ∧ j.bytes = b ∧ i.size = 1 ∧ i.ty.isAgg = false ∧ j.zero = some v ∧ v.cells = #[v] ∧ constD v = some z := by
  unfold one1 at h
  split at h
  · rename_i i hi
    split at h
    · rename_i z' hz
      split at h
      · rename_i hc
        cases h
        obtain ⟨j, hj, hjs, hjb, v, hv, hvs, hvl, hvc⟩ := (ht e i hi).info
        have hna := (ht e i hi).plain hc.2 j v hj hv
        have hcells : v.cells = #[v] := by cases v <;> first | rfl | exact absurd rfl (hna _)
        refine ⟨i, j, v, hi, ht e i hi, hj, by omega, hjb, hc.1, hc.2, hv, hcells, ?_⟩
        exact hvc 0 v z (by rw [hcells]; rfl) (by rw [hz]; rfl)
      · cases h
    · cases h
  · cases h

theorem ptrsZ_rd (h : AI P E g s a W) : ∀ {xs : List Operand} {ps : List (Nat × Nat)}, ptrsZ s.ev xs = some ps → xs.map a.eval = ps.map (fun p => Value.pointer (some ⟨g.ρ p.1, p.2, none⟩)) ∧ ∀ p ∈ ps, s.us p.1
  | [], ps, hp => by simp [ptrsZ] at hp; subst hp; simp
  | x :: r, ps, hp => by
    simp only [ptrsZ] at hp
    split at hp
    · rename_i id off l h1 h2
      cases hp
      obtain ⟨q1, q2⟩ := ptrsZ_rd h h2
      obtain ⟨p1, p2⟩ := h.ev h1
      have p1 : a.eval x = .pointer (some ⟨g.ρ id, off, none⟩) := p1
      refine ⟨by rw [List.map_cons, List.map_cons, q1, p1], fun p hp => ?_⟩
      rcases List.mem_cons.1 hp with rfl | hp
      · exact p2
      · exact q2 p hp
    · cases hp
theorem cellsZ_rd (h : AI P E g s a W) : ∀ {xs : List Operand} {cs : List Z1}, cellsZ s.ev xs = some cs → RCs W g (xs.map a.eval) cs ∧ ∀ z ∈ cs, z.below s.us
  | [], cs, hp => by simp [cellsZ] at hp; subst hp; exact ⟨⟨rfl, by simp⟩, by simp⟩
  | x :: r, cs, hp => by
    simp only [cellsZ] at hp
    split at hp
    · rename_i z l h1 h2
      cases hp
      obtain ⟨q1, q2⟩ := cellsZ_rd h h2
      obtain ⟨p1, p2⟩ := h.ev h1
      refine ⟨⟨by have := q1.1; simp at this ⊢; exact this, fun j v c hv hc => ?_⟩, fun c hc => ?_⟩
      · cases j with
        | zero => simp at hv hc; subst hv; subst hc; exact p1
        | succ j => exact q1.2 j v c (by simpa using hv) (by simpa using hc)
      · rcases List.mem_cons.1 hc with rfl | hc
        · exact p2
        · exact q2 c hc
    · cases hp

/-- What a row that can be read is worth. -/
theorem src_data {v : Value} {T : K} {xs : List T.den} (h : RD W g.F v (X.sl T xs).raw) (hT : T.size = 1) :
    (∃ A c, v = .slice A ((xs.flatMap T.row).map Z1.d).length c) ∧ (((xs.flatMap T.row).map Z1.d) ≠ [] → ∃ b o c vals, v = .slice (some ⟨b, o, none⟩) ((xs.flatMap T.row).map Z1.d).length c ∧ (∀ q u, vals[q]? = some u → W.cell? ⟨b, o + q, none⟩ = some u) ∧ RCs W g vals ((xs.flatMap T.row).map Z1.d)) := by
  have hraw : (xs.flatMap T.row).map X.raw = xs.flatMap T.rrow := by
    rw [List.map_flatMap]; congr 1; funext x; exact K.row_raw T x
  have hlen : ((xs.flatMap T.row).map Z1.d).length = xs.length := by
    have := congrArg List.length hraw
    rw [List.length_map] at this ⊢
    rw [this, flat_len, hT, Nat.mul_one]
  rw [hlen]
  have h' : RD W g.F v (.sl T.size (xs.map T.rrow)) := h
  refine ⟨?_, fun hne => ?_⟩
  · generalize hys : xs.map T.rrow = ys at h'
    have hl : ys.length = xs.length := by rw [← hys, List.length_map]
    cases h' with
    | slNil => exact ⟨none, 0, by rw [← hl]; rfl⟩
    | slZ a => exact ⟨some a, 0, by rw [← hl]; rfl⟩
    | sl b o len cap sz xs' vs q => exact ⟨_, cap, by rw [← hl, q]⟩
  · have hx : xs.length ≠ 0 := fun e => hne (by rw [List.eq_nil_of_length_eq_zero e]; rfl)
    obtain ⟨b, o, c, hv, _, vals, q1, q2⟩ := h.toFlat hx
    refine ⟨b, o, c, vals, hv, q1, ?_, fun j u d hu hd => ?_⟩
    · rw [q2.1, ← hraw]; simp
    · rw [List.getElem?_map] at hd
      obtain ⟨d', hd', rfl⟩ := omap hd
      refine q2.2 j u d'.raw hu ?_
      rw [← hraw, List.getElem?_map, hd']; rfl
theorem src_rd (h : AI P E g s a W) {v : Value} {z : V1} {zs : List Z1} {rd : List Nat} (hv : RV W g v z) (hb : z.below s.us) (hz : srcZ s.bx z = some (zs, rd)) :
    (∃ A c, v = .slice A zs.length c) ∧ (zs ≠ [] → ∃ b o c vals, v = .slice (some ⟨b, o, none⟩) zs.length c ∧ (∀ q u, vals[q]? = some u → W.cell? ⟨b, o + q, none⟩ = some u) ∧ RCs W g vals zs) ∧ ∀ c ∈ zs, c.below s.us := by
  have low : ∀ l : List X, ∀ c ∈ l.map Z1.d, c.below s.us := fun l c hc => by obtain ⟨d, _, rfl⟩ := List.mem_map.1 hc; trivial
  unfold srcZ at hz
  split at hz
  · rename_i id off n c0
    obtain ⟨cs, hcs, hz⟩ := obind hz
    split at hz
    · rename_i hc
      cases hz
      obtain ⟨hp, hl⟩ := hc
      obtain ⟨cap, rfl, _, _⟩ := (hv : ∃ cap, _)
      obtain ⟨vs, ty, hh, hls, hr⟩ := (h.h.box id cs (bc_of hcs (plain_run hp))).1.plain hp
      have hln : ((cs.drop off).take n).length = n := by simp; omega
      rw [hln]
      refine ⟨⟨_, _, rfl⟩, fun _ => ⟨g.ρ id, off, cap, (vs.toList.drop off).take n, rfl, fun q u hq => ?_, ?_⟩, fun c hc => (h.boxLow id cs hcs).2 c (List.mem_of_mem_drop (List.mem_of_mem_take hc))⟩
      · have hqn : q < n := by
          rcases Nat.lt_or_ge q n with h1 | h1
          · exact h1
          · simp [List.getElem?_eq_none (show ((vs.toList.drop off).take n).length ≤ q by simp; omega)] at hq
        rw [List.getElem?_take_of_lt hqn, List.getElem?_drop] at hq
        simp only [World.cell?, hh]
        rw [← Array.getElem?_toList]; exact hq
      · refine ⟨by rw [hln]; simp; omega, fun j u d hu hd => ?_⟩
        have hjn : j < n := by rw [← hln]; exact (List.getElem?_eq_some_iff.1 hd).1
        rw [List.getElem?_take_of_lt hjn, List.getElem?_drop] at hu hd
        refine hr.2 (off + j) u d ?_ hd
        rw [List.getElem?_take_of_lt (by omega)]; exact hu
    · cases hz
  · cases hz
    have : v = .slice none 0 0 := RD.unit_nil hv
    subst this
    exact ⟨⟨_, _, rfl⟩, fun hn => absurd rfl hn, by simp⟩
  · split at hz
    · rename_i hT
      cases hz
      obtain ⟨q1, q2⟩ := src_data (g := g) hv hT
      exact ⟨q1, q2, low _⟩
    · cases hz
  · split at hz
    · rename_i hT
      cases hz
      obtain ⟨q1, q2⟩ := src_data (g := g) hv.1 hT
      exact ⟨q1, q2, low _⟩
    · cases hz
  · split at hz
    · rename_i hT
      cases hz
      obtain ⟨q1, q2⟩ := src_data (g := g) hv.1 hT
      exact ⟨q1, q2, low _⟩
    · cases hz
  · cases hz

theorem World.drew_ai (h : AI P E g s a W) : AI P E g s a W.drew := by
  have hk : Keeps g.F g.F W { W with drawn := W.drawn + 1 } := Keeps.drawn W _ _
  have hg := Goes.drawn W (W.drawn + 1)
  have := h.step (dst := none) (z := .no) (v := undef) (live' := s.live) (bx' := s.bx) (n' := s.us) (by simp) (fun _ q => q) hk (fun _ _ => rfl) (fun _ _ => rfl) (h.b.goes hg (fun _ => False.elim) hk (fun b o hf => .inl hf))
    (h.h.goes (n := s.us) hg hk (fun b o hf => .inl hf) (fun _ _ => rfl) (fun _ _ => rfl) (fun l e hl => ⟨h.liveLow l e hl, hl, fun _ _ q => q⟩) (fun i c hi => ⟨(h.boxLow i c (bc_some hi).1).1, hi, (h.boxLow i c (bc_some hi).1).2, fun q => q⟩)) (h.r.goes (n := s.us) h.h hg hk (fun _ _ => rfl) (fun i T xs e q1 q2 _ => ⟨(h.boxLow i _ q1).1, q1, q2, fun _ _ q => q⟩)) h.liveLow h.boxLow rfl trivial
  exact this

/-- A new row of cells, told by a header. -/
theorem AI.newHd (h : AI P E g s a W) {dst : Option Nat} {cs : List Z1} {vs : Array Value} {ty : TypeId} {n cap : Nat} {base : Nat} {n' : Nat → Prop} (hpl : plainB cs = true) (hd : ∀ d, dst = some d → d < E.nt) (hb : ¬ s.us base) (hm : ∀ k, s.us k → n' k) (hn : n' base)
    (hl : cs.length ≤ vs.size) (hr : RCs W g (vs.toList.take cs.length) cs) (hc : ∀ z ∈ cs, z.below s.us) {c : Nat} (h1 : n ≤ cap) (h2 : c ≤ cap) :
    ∃ g', AI P E g' (s.go dst (.one (.c (.hd base 0 n c))) ⟨[], [], [(base, cs)]⟩ n') (a.put dst (.slice (some ⟨W.heap.size, 0, none⟩) n cap)) (W.alloc (.cells vs ty)) := by
  have hk : Keeps g.F g.F W (W.alloc (.cells vs ty)) := Keeps.of_goes (goes_alloc W _) (fun b o hf => ⟨h.b.fz b o hf, id⟩) (fun _ _ => id)
  have hρ : ∀ i, s.us i → setN g.ρ base W.heap.size i = g.ρ i := fun i hi => setN_ne _ _ (fun e => hb (e ▸ hi))
  refine ⟨_, h.newO (o := .cells vs ty) (z := .one (.c (.hd base 0 n c))) (plain_run hpl) hd hb hm hn (.inl ⟨vs, ty, heap_alloc_new W _, hl, (RCs.keep (n := s.us) (g' := ⟨g.F, setN g.ρ base W.heap.size, g.ω⟩) hk hc hρ (fun _ _ => rfl) hr)⟩) hc ⟨cap, ?_, h1, h2⟩ hn⟩
  show _ = Value.slice (some ⟨setN g.ρ base W.heap.size base, 0, none⟩) n cap
  rw [setN_same]

/-! Rows that are made. -/
noncomputable def hdMake (tab : Tab) (base : Nat) (mk : Bool) (ev : Operand → Option V1) (op : Op) : Option (Option Stp) :=
  match op with
  | .makeFunc (.func f) first caps => match first.toList with
    | [] => some ((ptrsZ ev caps.toList).map fun ps => ⟨.one (.c (.fn f ps)), Eff.no, [], none⟩)
    | _ => none
  | .buildSlice t len ps => if mk then some (match sliceE tab t with
      | some e => match one1 tab e, partsZ ev ps.toList with
        | some (z, _), some l => match fillD (fun q => some (q * 1, 1)) (List.replicate len (.d z)) l with
          | some cs => if (0 < len ∧ len ≤ 16777216) ∧ plainB cs = true then some ⟨.one (.c (.hd base 0 len len)), ⟨[], [], [(base, cs)]⟩, [], none⟩
          else if len = 0 ∧ ps.toList.isEmpty = true then some ⟨.one (.c (.own base (.int .u8) [])), ⟨[], [(base, ⟨e, 1⟩)], []⟩, [], none⟩ else none
          | none => none
        | _, _ => none
      | none => none) else none
  | .makeSlice t x y => if mk then some (match sliceE tab t, (ev x).bind intZ, (ev y).bind intZ with
      | some e, some n, some m => match one1 tab e with
        | some (z, b) => some ⟨.one (.c (.hd base 0 n.toNat n.toNat)), ⟨[], [], [(base, List.replicate n.toNat (.d z))]⟩, [], cp (n = m ∧ 0 ≤ n ∧ n.toNat ≤ 16777216 ∧ n.toNat * b ≤ 16777216)⟩
        | none => none
      | _, _, _ => none)
    else match x with
      | .const (.int _ 0) => some (match sliceE tab t, (ev y).bind intZ with
        | some e, some m => match tlook tab e with
          | some i => match i.k with
            | some T => if 0 < i.size ∧ T.size = i.size then some ⟨.one (.c (.own base T [])), ⟨[], [(base, ⟨e, 0⟩)], []⟩, [], cp (0 ≤ m ∧ m.toNat * i.size ≤ 16777216 ∧ m.toNat * i.bytes ≤ 16777216 ∧ m.toNat ≤ maxLen)⟩ else none
            | none => none
          | none => none
        | _, _ => none)
      | _ => none
  | _ => none

theorem zeros_rc {z : X} {v : Value} (hv : constD v = some z) (n : Nat) : RCs W g (List.replicate n v) (List.replicate n (.d z)) :=
  ⟨by simp, fun j u c hu hc => by
    have hj : j < n := by
      rcases Nat.lt_or_ge j n with h1 | h1
      · exact h1
      · simp [List.getElem?_eq_none (show (List.replicate n v).length ≤ j by simpa using h1)] at hu
    simp [List.getElem?_replicate, hj] at hu hc
    subst hu; subst hc
    exact constD_rd hv⟩
theorem madeOne {v : Value} (hc : v.cells = #[v]) (n : Nat) : (madeCells v.cells n).toList = List.replicate n v := by
  rw [hc]
  apply List.ext_getElem
  · simp [madeCells]
  · intro i h1 h2
    simp [madeCells, Nat.mod_one]

theorem hdMake_wp (ht : TabOk P tab) (h : AI P E g s a W) {o : Oper} {st : Stp} {mk : Bool} {base : Nat} {n' : Nat → Prop} (hz : hdMake tab base mk s.ev o.op = some (some st)) (hC : holds st.C)
    (hd : ∀ d, o.dst = some d → d < E.nt) (hb : ¬ s.us base) (hm : ∀ k, s.us k → n' k) (hn : n' base) {Q : Exit → Act → World → Prop} :
    o.wp P a W (fun a' W' => ∃ g', AI P E g' (s.go o.dst st.z st.e n') a' W') Q := by
  unfold hdMake at hz
  split at hz
  · -- makeFunc
    rename_i f first caps ho
    split at hz
    · rename_i hf
      simp only [Option.some.injEq] at hz
      obtain ⟨ps, hps, rfl⟩ := omap hz
      obtain ⟨q1, q2⟩ := ptrsZ_rd h hps
      have hfirst : first = #[] := by apply Array.ext'; simpa using hf
      have hv : RZ W g (.func (.func f) (first.map a.eval) (caps.map a.eval)) (.one (.c (.fn f ps))) := by
        have e1 : first.map a.eval = #[] := by rw [hfirst]; simp
        have e2 : caps.map a.eval = (ps.map fun p => Value.pointer (some ⟨g.ρ p.1, p.2, none⟩)).toArray := by
          rw [← q1]; apply Array.ext'; simp
        show Value.func _ _ _ = Value.func _ _ _
        rw [e1, e2]
      unfold Oper.wp execOp
      simp [ho, Instr.makeFunc]
      exact ⟨g, h.val hd hm hv q2⟩
    · cases hz
  · -- buildSlice
    rename_i t len ps ho
    split at hz
    · simp only [Option.some.injEq] at hz
      split at hz
      · rename_i e hty
        split at hz
        · rename_i z b l h1 hp
          split at hz
          · rename_i cs hf
            split at hz
            · rename_i hc
              cases hz
              obtain ⟨⟨hpos, hsm⟩, hpl⟩ := hc
              obtain ⟨i, j, v, hi, hTy, hj, hjs, hjb, his, hna, hv, hcells, hcv⟩ := one1_spec ht h1
              have hu := sliceE_und ht hty
              obtain ⟨p1, p2, p3⟩ := parts_rd h ps.toList l hp
              have hzl : ((Array.range (len * j.size)).map (v.cells[· % v.cells.size]!)).toList = List.replicate len v := by
                rw [hjs, Nat.mul_one]; exact madeOne hcells len
              obtain ⟨cells, f1, f2, f3⟩ := fill_rd (R := RC W g) (fun q => some (q * 1, 1)) l (ps.toList.map fun r => (r.1, a.eval r.2)) ((Array.range (len * j.size)).map (v.cells[· % v.cells.size]!)) _ cs
                (by rw [hzl]; exact zeros_rc hcv len) (by rw [List.length_map]; omega) p2 hf
              have hrun : (Instr.buildSlice t len (ps.map fun (k, x) => (k, a.eval x))).run P W = .ok (.slice (some ⟨W.heap.size, 0, none⟩) len len) (W.alloc (.cells cells e)) := by
                refine run_buildSlice W t e len _ cells j v hu hj hv (by rw [hjs]; omega) (by rw [hjs]; omega) ?_
                rw [← f1, hjs]
                congr 1
                simp
              have hcl : cs.length = len := by rw [f3]; simp
              have hsz : cells.size = len := by have := f2.1; simp at this; omega
              obtain ⟨g', h'⟩ := h.newHd (dst := o.dst) (cs := cs) (vs := cells) (ty := e) (n := len) (cap := len) (c := len) (base := base) (n' := n') hpl hd hb hm hn (by omega) (by
                rw [List.take_of_length_le (by simp; omega)]; exact f2) (fun c hc => by
                rcases fill_mem _ _ _ _ hf c hc with h2 | ⟨p, hp1, hp2⟩
                · rw [List.eq_of_mem_replicate h2]; trivial
                · exact p3 p hp1 c hp2) (Nat.le_refl _) (Nat.le_refl _)
              unfold Oper.wp execOp
              simp only [ho, Sem.run_bind, hrun, Sem.run_pure, Result.andThen_ok]
              exact ⟨g', h'⟩
            · split at hz
              · rename_i h0
                cases hz
                obtain ⟨h0, hps⟩ := h0
                subst h0
                obtain ⟨i, j, v, hi, hTy, hj, hjs, hjb, his, hna, hv, hcells, hcv⟩ := one1_spec ht h1
                have hu := sliceE_und ht hty
                have arr0 : ∀ f : Nat → Value, (Array.range 0).map f = #[] := fun f => by apply Array.ext <;> simp
                have hp0 : ps = #[] := by cases ps; simp_all
                subst hp0
                have hrun : (Instr.buildSlice t 0 ((#[] : Array (Nat × Operand)).map fun (k, x) => (k, a.eval x))).run P W = .ok (.slice (some ⟨W.heap.size, 0, none⟩) 0 0) (W.alloc (.cells #[] e)) := by
                  simp only [Instr.buildSlice, run_underlying hu, Go.sizeOf, typeInfo, newRow, Sem.run_bind, Sem.run_pure, Result.andThen_ok, Nat.zero_mul, if_true, arr0]
                  simp [hj, Instr.fill]
                obtain ⟨g', h'⟩ := h.row (dst := o.dst) (kill := none) (Ch := fun _ => False) (W' := W.alloc (.cells #[] e)) (v := .slice (some ⟨W.heap.size, 0, none⟩) 0 0) (e := ⟨e, 1⟩) (n := 0) (T := .int .u8) (xs := []) (base := base) (n' := n') hd hb hm hn (goes_alloc W _)
                  (fun _ => False.elim) (fun _ _ => False.elim) (show (1 : Nat) ≠ 2 by decide) (.inr ⟨W.heap.size, 0, _, (0, 0), rfl, heap_alloc_new W _, Nat.zero_le _, by decide, by simp, .inr (Nat.le_refl _), fun o hf => by have := h.b.fz _ _ hf; omega, fun _ => rfl, .inl rfl⟩)
                  (fun hk => by
                    show RD _ _ _ (.sl 1 [])
                    exact .sl _ _ 0 0 _ [] (fun _ _ => .nilIface) rfl (Nat.zero_le _) (by decide) (by simp) (by simp) (by simp))
                unfold Oper.wp execOp
                simp only [ho, Sem.run_bind, hrun, Sem.run_pure, Result.andThen_ok]
                exact ⟨g', h'⟩
              · cases hz
          · cases hz
        · cases hz
      · cases hz
    · cases hz
  · -- makeSlice
    rename_i t x y ho
    split at hz
    · simp only [Option.some.injEq] at hz
      split at hz
      · rename_i e n m hty hx hy
        split at hz
        · rename_i z b h1
          cases hz
          obtain ⟨rfl, h0, hsm, hby⟩ := (hC : n = m ∧ 0 ≤ n ∧ _)
          obtain ⟨i, j, v, hi, hTy, hj, hjs, hjb, his, hna, hv, hcells, hcv⟩ := one1_spec ht h1
          have hu := sliceE_und ht hty
          obtain ⟨kl, hex⟩ := h.int hx
          obtain ⟨kc, hey⟩ := h.int hy
          have hrun : (Instr.makeSlice t (a.eval x) (a.eval y)).run P W = .ok (.slice (some ⟨W.heap.size, 0, none⟩) n.toNat n.toNat) (W.alloc (.cells (madeCells v.cells n.toNat) e)) := by
            have hb2 : (j.bytes : Int) * n ≤ 281474976710656 := by
              have : ((n.toNat * b : Nat) : Int) ≤ 16777216 := by omega
              rw [Int.natCast_mul, Int.mul_comm, Int.toNat_of_nonneg h0] at this
              rw [hjb]; omega
            have := run_make (P := P) W t e j v hu hj hv kl kc n n h0 (Int.le_refl _) hb2 (by omega)
            rw [hjs, Nat.mul_one] at this
            rw [hex, hey, this]
          have hml := madeOne hcells n.toNat
          have hpl : plainB (List.replicate n.toNat (Z1.d z)) = true := by
            cases n.toNat with
            | zero => rfl
            | succ k => cases k with
              | zero => rfl
              | succ k => rfl
          obtain ⟨g', h'⟩ := h.newHd (dst := o.dst) (cs := List.replicate n.toNat (.d z)) (vs := madeCells v.cells n.toNat) (ty := e) (n := n.toNat) (cap := n.toNat) (c := n.toNat) (base := base) (n' := n') hpl hd hb hm hn (by simp [size_madeCells]) (by
            rw [hml, List.take_of_length_le (by simp)]; exact zeros_rc hcv _) (fun c hc => by rw [List.eq_of_mem_replicate hc]; trivial) (Nat.le_refl _) (Nat.le_refl _)
          unfold Oper.wp execOp
          simp only [ho, Sem.run_bind, hrun, Sem.run_pure, Result.andThen_ok]
          exact ⟨g', h'⟩
        · cases hz
      · cases hz
    · split at hz
      · rename_i k
        simp only [Option.some.injEq] at hz
        split at hz
        · rename_i e m hty hy
          split at hz
          · rename_i i hi
            split at hz
            · rename_i T hk
              split at hz
              · rename_i hc
                cases hz
                obtain ⟨h0, hs1, hs2, hs3⟩ := (hC : 0 ≤ m ∧ _)
                have hu := sliceE_und ht hty
                have hTy := ht e i hi
                obtain ⟨j, hj, hjs, hjb, v, hv, hvs, hvl, hvc⟩ := hTy.info
                obtain ⟨kc, hey⟩ := h.int hy
                have hrun : (Instr.makeSlice t (a.eval (.const (.int k 0))) (a.eval y)).run P W = .ok (.slice (some ⟨W.heap.size, 0, none⟩) 0 m.toNat) (W.alloc (.cells (madeCells v.cells (m.toNat * i.size)) e)) := by
                  have hb2 : (j.bytes : Int) * m ≤ 281474976710656 := by
                    have : ((m.toNat * i.bytes : Nat) : Int) ≤ 16777216 := by omega
                    rw [Int.natCast_mul, Int.mul_comm, Int.toNat_of_nonneg h0] at this
                    rw [hjb]; omega
                  have := run_make (P := P) W t e j v hu hj hv k kc 0 m (Int.le_refl _) h0 hb2 (by simp only [maxLen] at hs3; omega)
                  rw [hjs] at this
                  rw [hey]; exact this
                have hsz : (madeCells v.cells (m.toNat * i.size)).size = m.toNat * P.cellsOf e := by rw [size_madeCells, hTy.cells]
                obtain ⟨g', h'⟩ := h.row (dst := o.dst) (kill := none) (Ch := fun _ => False) (W' := W.alloc (.cells (madeCells v.cells (m.toNat * i.size)) e)) (v := .slice (some ⟨W.heap.size, 0, none⟩) 0 m.toNat) (e := ⟨e, 0⟩) (n := 0) (T := T) (xs := []) (base := base) (n' := n') hd hb hm hn (goes_alloc W _)
                  (fun _ => False.elim) (fun _ _ => False.elim) (show (0 : Nat) ≠ 2 by decide) (.inr ⟨W.heap.size, m.toNat, _, (0, 0), rfl, heap_alloc_new W _, Nat.zero_le _, hs3, hsz, .inr (Nat.le_refl _), fun o hf => by have := h.b.fz _ _ hf; omega, fun q => absurd rfl q, .inl rfl⟩)
                  (fun hk => by
                    show RD _ _ _ (.sl T.size [])
                    exact .sl _ _ 0 m.toNat _ [] (fun _ _ => .nilIface) rfl (Nat.zero_le _) (by rw [hc.2]; exact hc.1) (by simp) (by simp) (by simp))
                unfold Oper.wp execOp
                simp only [ho, Sem.run_bind, hrun, Sem.run_pure, Result.andThen_ok]
                exact ⟨g', h'⟩
              · cases hz
            · cases hz
          · cases hz
        · cases hz
      · cases hz
  · cases hz

/-! Values out of headers and pointers. -/
noncomputable def ptrE (tab : Tab) (t : TypeId) : Option TypeId := match (tlook tab t).map TyI.ty with
  | some (.ptr e) => some e
  | _ => none
theorem ptrE_und (ht : TabOk P tab) {t e : TypeId} (h : ptrE tab t = some e) : P.underlying t = some (.pointer e) := by
  unfold ptrE at h
  split at h
  · rename_i e' h'
    cases h
    obtain ⟨i, d, _, _, hu, hf⟩ := und_of ht h'
    cases hf
    exact hu
  · cases h
noncomputable def cutC (n c : Nat) (lo hi mx : Option Int) : Prop :=
  0 ≤ lo.getD 0 ∧ lo.getD 0 ≤ hi.getD n ∧ hi.getD n ≤ c ∧ (match mx, hi with | none, _ => True | some m, some h => h ≤ m ∧ m ≤ c | some _, none => False)
instance (n c : Nat) (lo hi mx : Option Int) : Decidable (cutC n c lo hi mx) := by
  unfold cutC
  cases mx <;> cases hi <;> infer_instance
noncomputable def ofP (p : Option (X × Option CP)) (rd : List Nat) : Option Stp := p.map fun p => ⟨.one (.c (.d p.1)), Eff.no, rd, p.2⟩
/-- A cut of a row that isn't nil. -/
noncomputable def cutN (tab : Tab) (t : TypeId) (ev : Operand → Option V1) (lo hi mx : Option Operand) (T : K) (xs : List T.den) : Option Stp :=
  match sliceE tab t, optZ ev lo, optZ ev hi, optZ ev mx with
  | some e, some lo, some hi, some mx => match tlook tab e with
    | some ei => if 0 < T.size ∧ T.size = ei.size then some ⟨.one (.c (.nn T ((xs.take (hi.getD xs.length).toNat).drop (lo.getD 0).toNat))), Eff.no, [], cp (cutOk xs.length lo hi mx)⟩ else none
    | none => none
  | _, _, _, _ => none
noncomputable def hdVal (tab : Tab) (bx : Nat → Option (List Z1)) (ev : Operand → Option V1) (op : Op) : Option (Option Stp) :=
  match op with
  | .indexAddr t x ix => match ev x with
    | some (.c (.hd id off n c)) => some (match sliceE tab t, (ev ix).bind intZ with
      | some e, some i => (one1 tab e).map fun _ => ⟨.one (.c (.ptr id (off + i.toNat))), Eff.no, [], cp (0 ≤ i ∧ i < n)⟩
      | _, _ => none)
    | _ => none
  | .slice t x lo hi mx => match ev x with
    | some (.c (.hd id off n c)) => some (match sliceE tab t, optZ ev lo, optZ ev hi, optZ ev mx with
      | some e, some lo, some hi, some mx => (one1 tab e).map fun _ =>
        let l := (lo.getD 0).toNat
        let h := (hi.getD n).toNat
        let m := (mx.getD c).toNat
        ⟨.one (.c (if h - l = 0 ∧ m ≤ l then .d (.sl (.int .u8) []) else .hd id (off + l) (h - l) (m - l))), Eff.no, [], cp (cutC n (max n c) lo hi mx)⟩
      | _, _, _, _ => none)
    | some (.c (.own _ T (z :: zs))) => some (cutN tab t ev lo hi mx T (z :: zs))
    | some (.c (.d (.sl T (z :: zs)))) => some (cutN tab t ev lo hi mx T (z :: zs))
    | some (.c (.nn T zs)) => some (cutN tab t ev lo hi mx T zs)
    | _ => none
  | .binOp b t x y _ => match ev x, ev y with
    | some (.c (.ptr i o)), some (.c (.ptr j q)) => some (match ptrE tab t with
      | some e => match (tlook tab e).map TyI.size, bx i, bx j with
        | some (_ + 1), some ci, some cj => if plainB ci = true ∧ plainB cj = true then ofP (binP b (Nat.beq i j && Nat.beq o q)) [i, j] else none
        | _, _, _ => none
      | none => none)
    | some (.c (.hd _ _ _ _)), some (.c (.d (.sl .unit _))) => some ((sliceE tab t).bind fun _ => ofP (binP b false) [])
    | some (.c (.own _ _ (_ :: _))), some (.c (.d (.sl .unit _))) => some ((sliceE tab t).bind fun _ => ofP (binP b false) [])
    | some (.c (.d (.sl .unit _))), _ => none
    | some (.c (.d (.sl _ (_ :: _)))), some (.c (.d (.sl .unit _))) => some ((sliceE tab t).bind fun _ => ofP (binP b false) [])
    | _, _ => none
  | .nilCheck x => match ev x with
    | some (.c (.mref m)) => some (some ⟨.one (.c (.mref m)), Eff.no, [], none⟩)
    | some (.c (.fn f ps)) => some (some ⟨.one (.c (.fn f ps)), Eff.no, [], none⟩)
    | _ => none
  | .call ⟨.builtin .len, args, ats⟩ => match args.toList, ats.toList with
    | [x], [t] => match ev x with
      | some (.c (.hd id off n c)) => some ((sliceE tab t).map fun _ => ⟨.one (.c (.d (.int .i64 n))), Eff.no, [], none⟩)
      | _ => none
    | _, _ => none
  | .call ⟨.builtin .min, args, _⟩ => match args.toList.map ev with
    | [some (.c (.d (.int k x))), some (.c (.d (.int _ y))), some (.c (.d (.int _ z)))] => some (some ⟨.one (.c (.d (.int k (if z < (if y < x then y else x) then z else (if y < x then y else x))))), Eff.no, [], none⟩)
    | _ => none
  | .call ⟨.builtin .max, args, _⟩ => match args.toList.map ev with
    | [some (.c (.d (.int k x))), some (.c (.d (.int _ y))), some (.c (.d (.int _ z)))] => some (some ⟨.one (.c (.d (.int k (if (if x < y then y else x) < z then z else (if x < y then y else x))))), Eff.no, [], none⟩)
    | _ => none
  | _ => none

theorem equalIn_ptr {t e : TypeId} (hu : P.underlying t = some (.pointer e)) {m : Nat} (hs : (Go.sizeOf e).run P W = .ok (m + 1) W) (a b : Addr) (n : Nat) {c : Bool} (hr : (sameAddr a b).run P W = .ok c W) : (Op.equalIn (n + 1) t (.pointer (some a)) (.pointer (some b))).run P W = .ok c W := by
  simp only [Op.equalIn]
  simp [run_underlying hu, hs, hr]
theorem notNil_eql {t e : TypeId} (hu : P.underlying t = some (.slice e)) {v w : Value} (hv : ∃ a n c, v = .slice (some a) n c) (hw : w = .slice none 0 0) : (Op.equal t v w).run P W = .ok false W := by
  obtain ⟨a, n, c, rfl⟩ := hv
  subst hw
  exact equal_sl_nil hu a n c
theorem cons_notNil {v : Value} {sz : Nat} {r : List D} {rs : List (List D)} (h : RD W F v (.sl sz (r :: rs))) : ∃ a n c, v = .slice (some a) n c := by
  cases h with
  | sl => exact ⟨_, _, _, rfl⟩
theorem ints3 (h : AI P E g s a W) {xs : List Operand} {k k2 k3 : IntKind} {x y z : Int} (hx : xs.map s.ev = [some (.c (.d (.int k x))), some (.c (.d (.int k2 y))), some (.c (.d (.int k3 z)))]) : xs.map a.eval = [.int k x, .int k2 y, .int k3 z] := by
  have int1 : ∀ {o : Operand} {k : IntKind} {n : Int}, s.ev o = some (.c (.d (.int k n))) → a.eval o = .int k n := fun {o k n} q => by
    have : RD W g.F (a.eval o) (.int k n) := (h.ev q).1
    generalize a.eval o = v at *
    cases this; rfl
  obtain ⟨o1, r1, rfl⟩ : ∃ o1 r1, xs = o1 :: r1 := by cases xs with
    | nil => cases hx
    | cons o r => exact ⟨o, r, rfl⟩
  simp only [List.map_cons, List.cons.injEq] at hx
  obtain ⟨h1, hx⟩ := hx
  obtain ⟨o2, r2, rfl⟩ : ∃ o1 r, r1 = o1 :: r := by cases r1 with
    | nil => cases hx
    | cons o r => exact ⟨o, r, rfl⟩
  simp only [List.map_cons, List.cons.injEq] at hx
  obtain ⟨h2, hx⟩ := hx
  obtain ⟨o3, r3, rfl⟩ : ∃ o1 r, r2 = o1 :: r := by cases r2 with
    | nil => cases hx
    | cons o r => exact ⟨o, r, rfl⟩
  simp only [List.map_cons, List.cons.injEq, List.map_eq_nil_iff] at hx
  obtain ⟨h3, rfl⟩ := hx
  simp [int1 h1, int1 h2, int1 h3]

/-- A cut of a slice, wherever it points. -/
theorem sliceV_run {t e : TypeId} (hu : P.underlying t = some (.slice e)) {ei : TyI} (he : TyOk P e ei) {A : Option Addr} {n c m : Nat} (hnc : n ≤ c) (hmc : m ≤ c) {vlo vhi vmx : Option Value} {lo hi mx : Option Int}
    (hlo : ∀ n, lo = some n ↔ ∃ k, vlo = some (.int k n)) (hhi : ∀ n, hi = some n ↔ ∃ k, vhi = some (.int k n)) (hmx : ∀ n, mx = some n ↔ ∃ k, vmx = some (.int k n))
    (nlo : lo = none ↔ vlo = none) (nhi : hi = none ↔ vhi = none) (nmx : mx = none ↔ vmx = none) (hc : cutC n m lo hi mx) :
    (Instr.sliceAt t (.slice A n c) vlo vhi vmx).run P W = .ok (sliced A (lo.getD 0).toNat (hi.getD n).toNat (mx.getD c).toNat ei.size) W := by
  have hu' : P.underlying t = some (.slice (P.elem t)) := by rw [elem_eq hu]; exact hu
  rw [run_sliceAt_slice W t _ _ _ _ hu']
  have hsz : (Go.sizeOf (P.elem t)).run P W = .ok ei.size W := by rw [elem_eq hu]; exact he.size W
  obtain ⟨c1, c2, c3, c4⟩ := hc
  cases mx with
  | none =>
    have hm := nmx.1 rfl
    subst hm
    cases lo with
    | none =>
      have hl := nlo.1 rfl
      subst hl
      cases hi with
      | none =>
        have hh := nhi.1 rfl
        subst hh
        rw [run_slice_all W t A _ _ hu', hsz]; simp
      | some hi =>
        obtain ⟨k, rfl⟩ := (hhi hi).1 rfl
        simp only [Option.getD_none, Option.getD_some] at c1 c2 c3 ⊢
        rw [run_slice_h W t A _ _ hu' k hi (by omega) (by omega), hsz]; simp
    | some lo =>
      obtain ⟨k, rfl⟩ := (hlo lo).1 rfl
      cases hi with
      | none =>
        have hh := nhi.1 rfl
        subst hh
        simp only [Option.getD_none, Option.getD_some] at c1 c2 c3 ⊢
        rw [run_slice_l W t A _ _ hu' k lo (by omega) (by omega), hsz]; simp
      | some hi =>
        obtain ⟨k', rfl⟩ := (hhi hi).1 rfl
        simp only [Option.getD_some] at c1 c2 c3 ⊢
        rw [run_slice_lh W t A _ _ hu' k k' lo hi (by omega) (by omega) (by omega), hsz]; simp
  | some mx =>
    obtain ⟨km, rfl⟩ := (hmx mx).1 rfl
    cases hi with
    | none => exact c4.elim
    | some hi =>
      obtain ⟨kh, rfl⟩ := (hhi hi).1 rfl
      obtain ⟨c5, c6⟩ := c4
      cases lo with
      | none =>
        have hl := nlo.1 rfl
        subst hl
        simp only [Option.getD_none, Option.getD_some] at c1 c2 c3 ⊢
        rw [run_slice_hm W t A _ _ hu' kh km hi mx (by omega) (by omega) (by omega), hsz]; simp
      | some lo =>
        obtain ⟨k, rfl⟩ := (hlo lo).1 rfl
        simp only [Option.getD_some] at c1 c2 c3 ⊢
        rw [run_slice_lhm W t A _ _ hu' k kh km lo hi mx (by omega) (by omega) (by omega) (by omega), hsz]; simp

theorem hdVal_wp (ht : TabOk P tab) (h : AI P E g s a W) {o : Oper} {st : Stp} {n' : Nat → Prop} (hz : hdVal tab s.bx s.ev o.op = some (some st)) (hC : holds st.C)
    (hd : ∀ d, o.dst = some d → d < E.nt) (hm : ∀ k, s.us k → n' k) {Q : Exit → Act → World → Prop} :
    o.wp P a W (fun a' W' => ∃ g', AI P E g' (s.go o.dst st.z st.e n') a' W') Q := by
  have bin : ∀ {b : BinOp} {t : TypeId} {x y : Operand} {rt : TypeId} {c : Bool} {rd : List Nat}, (∃ ty, o.op = .binOp b t x y ty) → (Op.equal t (a.eval x) (a.eval y)).run P W = .ok c W → ((∃ p, a.eval x = .pointer p) ∨ (∃ q n c, a.eval x = .slice q n c)) → ofP (binP b c) rd = some st →
      o.wp P a W (fun a' W' => ∃ g', AI P E g' (s.go o.dst st.z st.e n') a' W') Q := by
    rintro b t x y rt c rd ⟨ty, ho⟩ he hv hof
    obtain ⟨p, hp, rfl⟩ := omap hof
    obtain ⟨d, C⟩ := p
    obtain ⟨r, q1, q2⟩ := binP_run (F := g.F) he (by rcases hv with q | q; exact .inr (.inl q); exact .inr (.inr (.inl q))) hp
    have hg : (eqGuard b t x y (a.eval x) (a.eval y)).run P W = .ok () W := eqGuard_none (by rcases hv with ⟨_, q⟩ | ⟨_, _, _, q⟩ <;> rw [q] <;> simp) (by rcases hv with ⟨_, q⟩ | ⟨_, _, _, q⟩ <;> intro c' <;> rw [q] <;> simp)
    unfold Oper.wp execOp
    simp [ho, hg, q1]
    exact ⟨g, h.val hd hm q2 trivial⟩
  have cut : ∀ {t : TypeId} {x : Operand} {lo hi mx : Option Operand} {T : K} {xs : List T.den}, (∃ t' lo' hi' mx', (t, lo, hi, mx) = (t', lo', hi', mx')) → o.op = .slice t x lo hi mx → cutN tab t s.ev lo hi mx T xs = some st → RD W g.F (a.eval x) (X.sl T xs).raw → (∃ b n c, a.eval x = .slice (some b) n c) →
      o.wp P a W (fun a' W' => ∃ g', AI P E g' (s.go o.dst st.z st.e n') a' W') Q := by
    intro t x lo hi mx T xs _ ho hz hr hn
    unfold cutN at hz
    split at hz
    · rename_i e lo' hi' mx' hty hlo hhi hmx
      split at hz
      · rename_i ei he
        split at hz
        · rename_i hs
          cases hz
          have hu := sliceE_und ht hty
          have hr : RD W g.F (a.eval x) (.sl T.size (xs.map T.rrow)) := hr
          have hC : cutOk xs.length lo' hi' mx' := hC
          obtain ⟨r, q1, q2⟩ := slice_run hu (ht _ _ he) hr (h.opt hlo).1 (h.opt hhi).1 (h.opt hmx).1 (h.opt hlo).2 (h.opt hhi).2 (h.opt hmx).2 (by rw [List.length_map]; exact hC) (.inl hs.2)
          have hrn : ∃ b n c, r = .slice (some b) n c := by
            obtain ⟨b, n, c, hx⟩ := hn
            have hl : n = xs.length ∧ n ≤ c := by
              rw [hx] at hr
              generalize hys : xs.map T.rrow = ys at hr
              have hyl : ys.length = xs.length := by rw [← hys, List.length_map]
              cases hr with
              | slZ => exact ⟨by rw [← hyl]; rfl, Nat.le_refl _⟩
              | sl b o len cap sz xs' vs q q' => exact ⟨by rw [← hyl, q], q'⟩
            have hC' : cutC n n lo' hi' mx' := by rw [hl.1]; exact hC
            have hq := sliceV_run (W := W) hu (ht _ _ he) (A := some b) (n := n) (c := c) (m := n) hl.2 hl.2 (h.opt hlo).1 (h.opt hhi).1 (h.opt hmx).1 (h.opt hlo).2 (h.opt hhi).2 (h.opt hmx).2 hC'
            rw [hx, hq] at q1
            cases q1
            unfold sliced
            split <;> exact ⟨_, _, _, rfl⟩
          rw [List.length_map] at q2
          unfold Oper.wp execOp
          simp only [ho, Sem.run_bind, q1, Sem.run_pure, Result.andThen_ok]
          refine ⟨g, h.val (z := .one (.c (.nn T ((xs.take (hi'.getD xs.length).toNat).drop (lo'.getD 0).toNat)))) hd hm ⟨?_, hrn⟩ trivial⟩
          show RD W g.F r (.sl T.size (List.map T.rrow _))
          rw [List.map_drop, List.map_take]; exact q2
        · cases hz
      · cases hz
    · cases hz
  unfold hdVal at hz
  split at hz
  · -- indexAddr
    rename_i t x ix ho
    split at hz
    · rename_i id off n c hx
      simp only [Option.some.injEq] at hz
      split at hz
      · rename_i e i hty hix
        obtain ⟨zb, h1, rfl⟩ := omap hz
        obtain ⟨ei, j, v, hi, hTy, hj, hjs, hjb, his, hna, hv, hcells, hcv⟩ := one1_spec (z := zb.1) (b := zb.2) ht h1
        have hu := sliceE_und ht hty
        obtain ⟨h0, hlt⟩ := (hC : 0 ≤ i ∧ i < n)
        obtain ⟨k, hk⟩ := h.int hix
        obtain ⟨q1, q2⟩ := h.ev hx
        obtain ⟨cap, hxv, _, _⟩ := (q1 : ∃ cap, _)
        unfold Oper.wp execOp
        simp [ho, Instr.indexAt, hxv, hk, run_underlying hu, asIntOf, h0, hlt, hTy.size, his, addr_add]
        exact ⟨g, h.val (z := .one (.c (.ptr id (off + i.toNat)))) hd hm rfl q2⟩
      · cases hz
    · cases hz
  · -- slice
    rename_i t x lo hi mx ho
    split at hz
    · rename_i id off n c hx
      simp only [Option.some.injEq] at hz
      split at hz
      · rename_i e lo' hi' mx' hty hlo hhi hmx
        obtain ⟨zb, h1, rfl⟩ := omap hz
        obtain ⟨ei, j, v, hi0, hTy, hj, hjs, hjb, his, hna, hv, hcells, hcv⟩ := one1_spec (z := zb.1) (b := zb.2) ht h1
        have hu := sliceE_und ht hty
        have hC : cutC n (max n c) lo' hi' mx' := hC
        obtain ⟨q1, q2⟩ := h.ev hx
        obtain ⟨cap, hxv, hnc, hcc⟩ := (q1 : ∃ cap, _)
        have hrun := sliceV_run (W := W) hu hTy (A := some ⟨g.ρ id, off, none⟩) hnc (show max n c ≤ cap by omega) (h.opt hlo).1 (h.opt hhi).1 (h.opt hmx).1 (h.opt hlo).2 (h.opt hhi).2 (h.opt hmx).2 hC
        rw [← hxv, his] at hrun
        obtain ⟨c1, c2, c3, c4⟩ := hC
        have hmc : (mx'.getD c).toNat ≤ (mx'.getD cap).toNat := by
          cases mx' with
          | none => simp; exact hcc
          | some m => simp
        have hhm : (hi'.getD n).toNat ≤ (mx'.getD cap).toNat := by
          cases mx' with
          | none => simp only [Option.getD_none, Int.toNat_natCast]; omega
          | some m => cases hi' with
            | none => exact c4.elim
            | some hh => simp only [Option.getD_some]; have := c4.1; omega
        have hlh : (lo'.getD 0).toNat ≤ (hi'.getD n).toNat := by omega
        generalize (lo'.getD 0).toNat = l at *
        generalize (hi'.getD n).toNat = hh at *
        generalize (mx'.getD c).toNat = m at *
        generalize (mx'.getD cap).toNat = m' at *
        have hv : RZ W g (sliced (some ⟨g.ρ id, off, none⟩) l hh m' 1) (.one (.c (if hh - l = 0 ∧ m ≤ l then .d (.sl (.int .u8) []) else .hd id (off + l) (hh - l) (m - l)))) := by
          split
          · rename_i hz0
            have hz0 : hh = l := by omega
            subst hz0
            show RD W g.F _ (.sl 1 [])
            unfold sliced
            split
            · exact .sl _ _ _ _ 1 [] (fun _ _ => .nilIface) (by simp) (by omega) Nat.one_pos (by simp) (by simp) (by simp)
            · simp only [Option.map_some, addr_add]
              exact .sl _ _ _ _ 1 [] (fun _ _ => .nilIface) (by simp) (by omega) Nat.one_pos (by simp) (by simp) (by simp)
          · rename_i hz0
            unfold sliced
            rw [if_neg (by omega)]
            simp only [Option.map_some, addr_add, Nat.mul_one]
            exact ⟨_, rfl, by omega, by omega⟩
        have hb' : (Z.one (.c (if hh - l = 0 ∧ m ≤ l then .d (.sl (.int .u8) []) else .hd id (off + l) (hh - l) (m - l)))).below s.us := by
          split
          · trivial
          · exact q2
        unfold Oper.wp execOp
        simp only [ho, Sem.run_bind, hrun, Sem.run_pure, Result.andThen_ok]
        exact ⟨g, h.val hd hm hv hb'⟩
      · cases hz
    · rename_i l T z1 zs hx
      simp only [Option.some.injEq] at hz
      have q : RD W g.F (a.eval x) (X.sl T (z1 :: zs)).raw := (h.ev hx).1.1
      exact cut (x := x) ⟨_, _, _, _, rfl⟩ ho hz q (cons_notNil (show RD W g.F (a.eval x) (.sl T.size (T.rrow z1 :: zs.map T.rrow)) from q))
    · rename_i T z1 zs hx
      simp only [Option.some.injEq] at hz
      have q : RD W g.F (a.eval x) (X.sl T (z1 :: zs)).raw := (h.ev hx).1
      exact cut (x := x) ⟨_, _, _, _, rfl⟩ ho hz q (cons_notNil (show RD W g.F (a.eval x) (.sl T.size (T.rrow z1 :: zs.map T.rrow)) from q))
    · rename_i T zs hx
      simp only [Option.some.injEq] at hz
      exact cut (x := x) ⟨_, _, _, _, rfl⟩ ho hz (h.ev hx).1.1 (h.ev hx).1.2
    · cases hz
  · -- binOp
    rename_i b t x y rt ho
    split at hz
    · rename_i i o1 j q hx hy
      simp only [Option.some.injEq] at hz
      split at hz
      · rename_i e hty
        split at hz
        · rename_i m ci cj hsz hci hcj
          split at hz
          · rename_i hp
            have hu := ptrE_und ht hty
            obtain ⟨i1, h1, h2⟩ := omap hsz
            have hTy := ht e i1 h1
            have ex : a.eval x = .pointer (some ⟨g.ρ i, o1, none⟩) := (h.ev hx).1
            have ey : a.eval y = .pointer (some ⟨g.ρ j, q, none⟩) := (h.ev hy).1
            refine bin (rt := rt) ⟨rt, ho⟩ ?_ (.inl ⟨_, ex⟩) hz
            rw [ex, ey]
            have hs := hTy.size W
            rw [h2] at hs
            refine equalIn_ptr hu hs _ _ 9999 ?_
            by_cases hsame : i = j ∧ o1 = q
            · obtain ⟨rfl, rfl⟩ := hsame
              rw [run_sameAddr_same]; simp
            · obtain ⟨vi, ti, hi1, _, _⟩ := (h.h.box i ci (bc_of hci (plain_run hp.1))).1.plain hp.1
              obtain ⟨vj, tj, hj1, _, _⟩ := (h.h.box j cj (bc_of hcj (plain_run hp.2))).1.plain hp.2
              have hne : (⟨g.ρ i, o1, none⟩ : Addr) ≠ ⟨g.ρ j, q, none⟩ := by
                intro hq
                simp only [Addr.mk.injEq, and_true] at hq
                by_cases hij : i = j
                · exact hsame ⟨hij, hq.2⟩
                · exact h.h.boxNe i j ci cj (bc_of hci (plain_run hp.1)) (bc_of hcj (plain_run hp.2)) hij hq.1
              rw [run_sameAddr_other W hne hi1 hj1]
              congr 1
              cases hb : (Nat.beq i j && Nat.beq o1 q) with
              | false => rfl
              | true =>
                simp only [Bool.and_eq_true, Nat.beq_eq] at hb
                exact absurd hb hsame
          · cases hz
        · cases hz
      · cases hz
    · rename_i id off n c xs hx hy
      simp only [Option.some.injEq] at hz
      obtain ⟨e, hty, hz⟩ := obind hz
      obtain ⟨cap, ex, _⟩ := ((h.ev hx).1 : ∃ cap, _)
      exact bin (rt := rt) ⟨rt, ho⟩ (notNil_eql (sliceE_und ht hty) ⟨_, _, _, ex⟩ (RD.unit_nil (h.ev hy).1)) (.inr ⟨_, _, _, ex⟩) hz
    · rename_i l T z1 zs xs hx hy
      simp only [Option.some.injEq] at hz
      obtain ⟨e, hty, hz⟩ := obind hz
      have q : RD W g.F (a.eval x) (.sl T.size (T.rrow z1 :: zs.map T.rrow)) := (h.ev hx).1.1
      obtain ⟨a1, n1, c1, ex⟩ := cons_notNil q
      exact bin (rt := rt) ⟨rt, ho⟩ (notNil_eql (sliceE_und ht hty) ⟨_, _, _, ex⟩ (RD.unit_nil (h.ev hy).1)) (.inr ⟨_, _, _, ex⟩) hz
    · cases hz
    · rename_i T z1 zs xs _ hx hy
      simp only [Option.some.injEq] at hz
      obtain ⟨e, hty, hz⟩ := obind hz
      have q : RD W g.F (a.eval x) (.sl T.size (T.rrow z1 :: zs.map T.rrow)) := (h.ev hx).1
      obtain ⟨a1, n1, c1, ex⟩ := cons_notNil q
      exact bin (rt := rt) ⟨rt, ho⟩ (notNil_eql (sliceE_und ht hty) ⟨_, _, _, ex⟩ (RD.unit_nil (h.ev hy).1)) (.inr ⟨_, _, _, ex⟩) hz
    · cases hz
  · -- nilCheck
    rename_i x ho
    split at hz
    · rename_i m hx
      cases hz
      have ex : a.eval x = .map (some (g.ρ m)) := (h.ev hx).1
      unfold Oper.wp execOp
      simp only [ho, ex, Sem.run_pure]
      exact ⟨g, h.val (z := .one (.c (.mref m))) hd hm rfl (h.ev hx).2⟩
    · rename_i f ps hx
      cases hz
      have ex : a.eval x = .func (.func f) #[] _ := (h.ev hx).1
      unfold Oper.wp execOp
      simp only [ho, ex, Sem.run_pure]
      exact ⟨g, h.val (z := .one (.c (.fn f ps))) hd hm rfl (h.ev hx).2⟩
    · cases hz
  · -- len
    rename_i args ats ho
    obtain ⟨args⟩ := args
    obtain ⟨ats⟩ := ats
    simp only at hz
    split at hz
    · rename_i x t
      split at hz
      · rename_i id off n c hx
        simp only [Option.some.injEq] at hz
        obtain ⟨e, hty, rfl⟩ := omap hz
        have hu := sliceE_und ht hty
        obtain ⟨cap, ex, _⟩ := ((h.ev hx).1 : ∃ cap, _)
        unfold Oper.wp execOp
        simp [ho, resolve, invoke, builtin, Builtin.len_, ex, run_underlying hu, goInt]
        exact ⟨g, h.val hd hm (.int _ _) trivial⟩
      · cases hz
    · cases hz
  · -- min
    rename_i args ats ho
    obtain ⟨args⟩ := args
    simp only at hz
    split at hz
    · rename_i k x k2 y k3 z hx
      cases hz
      have e := ints3 h hx
      unfold Oper.wp execOp
      simp [ho, resolve, invoke, builtin, Builtin.min_, e, Builtin.min2]
      exact ⟨g, h.val hd hm (.int _ _) trivial⟩
    · cases hz
  · -- max
    rename_i args ats ho
    obtain ⟨args⟩ := args
    simp only at hz
    split at hz
    · rename_i k x k2 y k3 z hx
      cases hz
      have e := ints3 h hx
      unfold Oper.wp execOp
      simp [ho, resolve, invoke, builtin, Builtin.max_, e, Builtin.max2]
      exact ⟨g, h.val hd hm (.int _ _) trivial⟩
    · cases hz
  · cases hz

/-! Rows that are written. -/
theorem run_clear_row (t e ty : TypeId) (z : Value) (ht : P.underlying t = some (.slice e)) (hv : ∀ w, (zeroValue e).run P w = .ok z w) (hz : z.cells = #[z]) (h1 : z.oneCell' = true) (b o n c : Nat) (hn : 0 < n) {cur : Array Value} {tt : TypeId}
    (hg : W.heap[b]? = some (.cells cur tt (0, 0))) (hfit : o + n ≤ cur.size) :
    (Builtin.clear_ #[t] ty #[.slice (some ⟨b, o, none⟩) n c]).run P W = .ok (.tuple #[]) (W.setRow b (cur.toList.take o ++ List.replicate n z ++ cur.toList.drop (o + n)).toArray) := by
  have hzc : (Builtin.zeroCells z.cells n).toList = List.replicate n z := by
    rw [hz]
    simp [Builtin.zeroCells]
    apply List.ext_getElem
    · simp
    · intro i h1 h2
      simp [Nat.mod_one]
  have hst := run_storeCells_at P b o tt (List.replicate n z) 0 cur W hg (by simpa using hfit) (by intro v hv'; rw [List.eq_of_mem_replicate hv']; exact h1)
  simp only [Nat.add_zero, List.length_replicate] at hst
  obtain ⟨m, rfl⟩ : ∃ m, n = m + 1 := ⟨n - 1, by omega⟩
  simp [Builtin.clear_, run_underlying ht, hv, hzc, hst]
theorem run_append_at (t ty e : TypeId) (i : TypeInfo) (ht : P.underlying t = some (.slice e)) (hi : P.info? e = some i) (hs : i.size = 1) (b o sLen sCap : Nat) {cur : Array Value} {tt : TypeId} (hg : W.heap[b]? = some (.cells cur tt (0, 0)))
    (x : Addr) (m c : Nat) (news : List Value) (hl : news.length = m) (hnews : ∀ j u, news[j]? = some u → W.cell? (x.add j) = some u) (h1 : ∀ u ∈ news, u.oneCell' = true) (hroom : sLen + m ≤ sCap) (hfit : o + sLen + m ≤ cur.size) :
    (Builtin.append_ #[t, t] ty #[.slice (some ⟨b, o, none⟩) sLen sCap, .slice (some x) m c]).run P W = .ok (.slice (some ⟨b, o, none⟩) (sLen + m) sCap) (W.setRow b (cur.toList.take (o + sLen) ++ news ++ cur.toList.drop (o + sLen + m)).toArray) := by
  have hf := run_firstCells_some (w := W) (P := P) i.size m x m c news (by rw [hs, hl, Nat.mul_one]) hnews
  have hst := run_storeCells_at P b (o + sLen) tt news 0 cur W hg (by rw [hl]; simpa using hfit) h1
  simp only [Nat.add_zero, hl] at hst
  rw [hs] at hf
  rw [List.append_assoc] at hst
  simp [Builtin.append_, run_underlying ht, Go.sizeOf, typeInfo, hi, hs, Builtin.lenOf, hroom, hf, addr_add, hst]
theorem run_append_nothing (t ty e : TypeId) (i : TypeInfo) (ht : P.underlying t = some (.slice e)) (hi : P.info? e = some i) (A B : Option Addr) (n c c' : Nat) (hn : n ≤ c) :
    (Builtin.append_ #[t, t] ty #[.slice A n c, .slice B 0 c']).run P W = .ok (.slice A n c) W := by
  have hl : ∀ (x : Addr), (loadCells x 0).run P W = .ok #[] W := fun x => by simpa using run_loadCells_list (P := P) W x [] (by simp)
  cases A <;> cases B <;> simp [Builtin.append_, run_underlying ht, Go.sizeOf, typeInfo, hi, Builtin.lenOf, Builtin.firstCells, hn, storeCells, hl]

theorem AI.putHd (h : AI P E g s a W) {dst : Option Nat} {id o : Nat} {cs ys : List Z1} {vals : List Value} {z : Z} {v : Value} {n' : Nat → Prop} {vs : Array Value} {ty : TypeId} (hd : ∀ d, dst = some d → d < E.nt) (hm : ∀ k, s.us k → n' k)
    (hpl : plainB cs = true) (hid : s.bx id = some cs) (hle : o + ys.length ≤ cs.length) (hpl' : plainB (cs.take o ++ ys ++ cs.drop (o + ys.length)) = true) (hr : RCs W g vals ys) (hlow : ∀ z ∈ ys, z.below s.us)
    (hh : W.heap[g.ρ id]? = some (.cells vs ty (0, 0))) (hz : ∀ W', RZ W' g v z) (hzb : z.below s.us) :
    AI P E g (s.go dst z ⟨[], [], [(id, cs.take o ++ ys ++ cs.drop (o + ys.length))]⟩ n') (a.put dst v) (W.setRow (g.ρ id) (vs.toList.take o ++ vals ++ vs.toList.drop (o + vals.length)).toArray) := by
  obtain ⟨vs0, ty0, hh0, hls, hrb⟩ := (h.h.box id cs (bc_of hid (plain_run hpl))).1.plain hpl
  rw [hh] at hh0; cases hh0
  have hvl := hr.1
  have hg : Goes W (W.setRow (g.ρ id) (vs.toList.take o ++ vals ++ vs.toList.drop (o + vals.length)).toArray) (fun b => b = g.ρ id) :=
    ⟨rfl, rfl, rfl, by simp [World.setRow], fun b hb hne => by simp [World.setRow, Array.getElem?_modify, Ne.symm hne]⟩
  have hnew := setRow_heap W (g.ρ id) vs (vs.toList.take o ++ vals ++ vs.toList.drop (o + vals.length)).toArray ty (0, 0) hh
  have hlow' : ∀ z ∈ cs.take o ++ ys ++ cs.drop (o + ys.length), z.below s.us := fun z hz => by
    rcases List.mem_append.1 hz with h1 | h1
    · rcases List.mem_append.1 h1 with h1 | h1
      · exact (h.boxLow id cs hid).2 z (List.mem_of_mem_take h1)
      · exact hlow z h1
    · exact (h.boxLow id cs hid).2 z (List.mem_of_mem_drop h1)
  refine h.writeO (plain_run hpl) (plain_run hpl') hd hm hid hg (fun hk => ?_) hlow' (fun _ => hz _) hzb
  have hpre : (cs.take o ++ ys ++ cs.drop (o + ys.length)).length ≤ (vs.toList.take o ++ vals ++ vs.toList.drop (o + vals.length)).toArray.size ∧ RCs W g ((vs.toList.take o ++ vals ++ vs.toList.drop (o + vals.length)).toArray.toList.take (cs.take o ++ ys ++ cs.drop (o + ys.length)).length) (cs.take o ++ ys ++ cs.drop (o + ys.length)) := by
    have e9 : vs.toList.take o ++ vals ++ vs.toList.drop (o + vals.length) = ((vs.toList.take cs.length).take o ++ vals ++ (vs.toList.take cs.length).drop (o + vals.length)) ++ vs.toList.drop cs.length := by
      rw [List.take_take, Nat.min_eq_left (by omega), List.append_assoc (vs.toList.take o ++ vals), ← List.drop_append_of_le_length (by simp; omega), List.take_append_drop]
    rw [e9]
    have hps : (vs.toList.take cs.length).length = cs.length := by simp; omega
    generalize vs.toList.take cs.length = pre at *
    refine RCs.pre_of ⟨by simp; omega, fun j u d hj hd => ?_⟩
    by_cases h1 : j < o
    · rw [List.append_assoc, List.getElem?_append_left (by simp; omega), List.getElem?_take_of_lt h1] at hj
      rw [List.append_assoc, List.getElem?_append_left (by simp; omega), List.getElem?_take_of_lt h1] at hd
      exact hrb.2 j u d hj hd
    · by_cases h2 : j < o + ys.length
      · rw [List.append_assoc, List.getElem?_append_right (by simp; omega), List.getElem?_append_left (by simp; omega)] at hj
        rw [List.append_assoc, List.getElem?_append_right (by simp; omega), List.getElem?_append_left (by simp; omega)] at hd
        have e1 : j - (List.take o pre).length = j - o := by simp; omega
        have e2 : j - (List.take o cs).length = j - o := by simp; omega
        rw [e1] at hj
        rw [e2] at hd
        exact hr.2 _ u d hj hd
      · rw [List.getElem?_append_right (by simp; omega), List.getElem?_drop] at hj
        rw [List.getElem?_append_right (by simp; omega), List.getElem?_drop] at hd
        have e1 : o + vals.length + (j - (List.take o pre ++ vals).length) = j := by simp; omega
        have e2 : o + ys.length + (j - (List.take o cs ++ ys).length) = j := by simp; omega
        rw [e1] at hj
        rw [e2] at hd
        exact hrb.2 j u d hj hd
  exact .inl ⟨_, ty, hnew, hpre.1, hpre.2.keep (n := s.us) hk hlow' (fun _ _ => rfl) (fun _ _ => rfl)⟩

noncomputable def hdSet (tab : Tab) (base : Nat) (live : Nat → Option Ow) (bx : Nat → Option (List Z1)) (ev : Operand → Option V1) (op : Op) : Option (Option Stp) :=
  match op with
  | .call ⟨.builtin .copy, args, ats⟩ => match args.toList, ats.toList with
    | [x, y], [t, _] => match ev x with
      | some (.c (.hd id off n _)) => some (match sliceE tab t, bx id, (ev y).bind (srcZ bx) with
        | some e, some cs, some (ys, rd) => match one1 tab e with
          | some _ => if (off + min n ys.length ≤ cs.length ∧ plainB cs = true) ∧ plainB (cs.take off ++ ys.take n ++ cs.drop (off + (ys.take n).length)) = true then
              some ⟨.one (.c (.d (.int .i64 (min n ys.length : Nat)))), ⟨[], [], [(id, cs.take off ++ ys.take n ++ cs.drop (off + (ys.take n).length))]⟩, id :: rd, none⟩ else none
          | none => none
        | _, _, _ => none)
      | some (.c (.d (.sl (.int .u8) []))) => some (match sliceE tab t, (ev y).bind (srcZ bx) with
        | some e, some (_, rd) => (one1 tab e).map fun _ => ⟨.one (.c (.d (.int .i64 0))), Eff.no, rd, none⟩
        | _, _ => none)
      | _ => none
    | _, _ => none
  | .call ⟨.builtin .clear, args, ats⟩ => match args.toList, ats.toList with
    | [x], [t] => match ev x with
      | some (.c (.hd id off n _)) => some (match sliceE tab t, bx id with
        | some e, some cs => match one1 tab e with
          | some (z, _) => if (off + n ≤ cs.length ∧ plainB cs = true) ∧ plainB (cs.take off ++ List.replicate n (.d z) ++ cs.drop (off + (List.replicate n (Z1.d z)).length)) = true then
              some ⟨.tup [], ⟨[], [], [(id, cs.take off ++ List.replicate n (.d z) ++ cs.drop (off + (List.replicate n (Z1.d z)).length))]⟩, [id], none⟩ else none
          | none => none
        | _, _ => none)
      | some (.c (.d (.sl (.int .u8) []))) => some ((sliceE tab t).map fun _ => ⟨.tup [], Eff.no, [], none⟩)
      | _ => none
    | _, _ => none
  | .call ⟨.builtin .append, args, ats⟩ => match args.toList, ats.toList with
    | [x, y], [t, t'] => match ev x with
      | some (.c (.hd id off n c)) => some (if t = t' then match sliceE tab t, bx id, (ev y).bind (srcZ bx) with
        | some e, some cs, some (ys, rd) => match one1 tab e with
          | some _ => if (n + ys.length ≤ c ∧ off + n + ys.length ≤ cs.length) ∧ plainB cs = true ∧ plainB (cs.take (off + n) ++ ys ++ cs.drop (off + n + ys.length)) = true then
              some ⟨.one (.c (.hd id off (n + ys.length) c)), ⟨[], [], [(id, cs.take (off + n) ++ ys ++ cs.drop (off + n + ys.length))]⟩, id :: rd, none⟩ else none
          | none => none
        | _, _, _ => none else none)
      | some (.c (.own l (.int .u8) xs)) => match ev y with
        | some (.c (.hd id off n c)) => some (if t = t' then match sliceE tab t, srcZ bx (.c (.hd id off n c)), live l with
          | some e, some (zs, rd), some ⟨e', kk⟩ => match tlook tab e, bytesC zs with
            | some i, some ys => if i.size = 1 ∧ e' = e then some ⟨.one (.c (.own base (.int .u8) (xs ++ (show List (K.int .u8).den from ys)))), ⟨[l], [(base, ⟨e, 0⟩)], []⟩, l :: rd, cp (xs.length + ys.length ≤ maxLen ∧ (xs.length + ys.length) * i.bytes ≤ 140737488355328)⟩ else none
            | some _, none => match one1 tab e, xs with
              | some (_, b), [] => if (kk = 1 ∧ e' = e) ∧ plainB zs = true ∧ zs.isEmpty = false then some ⟨.one (.c (.hd base 0 zs.length zs.length)), ⟨[], [], [(base, zs)]⟩, l :: rd, cp (zs.length ≤ maxLen ∧ zs.length * b ≤ 140737488355328)⟩ else none
              | _, _ => none
            | _, _ => none
          | _, _, _ => none else none)
        | _ => none
      | some (.c (.d (.sl .unit _))) => match ev y with
        | some (.c (.hd id off n c)) => some (if t = t' then match sliceE tab t, srcZ bx (.c (.hd id off n c)) with
          | some e, some (ys, rd) => match one1 tab e with
            | some (_, b) => if plainB ys = true ∧ ys.isEmpty = false then some ⟨.one (.c (.hd base 0 ys.length ys.length)), ⟨[], [], [(base, ys)]⟩, rd, cp (ys.length ≤ maxLen ∧ ys.length * b ≤ 140737488355328)⟩ else none
            | none => none
          | _, _ => none else none)
        | _ => none
      | _ => none
    | _, _ => none
  | _ => none

theorem bytesC_rd : ∀ {zs : List Z1} {ns : List Int}, bytesC zs = some ns → ns.length = zs.length ∧ zs = ns.map fun n => .d (.int .u8 n)
  | [], ns, h => by simp [bytesC] at h; subst h; simp
  | z :: r, ns, h => by
    unfold bytesC at h
    split at h
    · rename_i heq; cases heq
    · rename_i n r' heq
      cases heq
      obtain ⟨l, hl, rfl⟩ := omap h
      obtain ⟨q1, q2⟩ := bytesC_rd hl
      exact ⟨by simp [q1], by rw [List.map_cons, ← q2]⟩
    · cases h
theorem bytes_rel {vals : List Value} {zs : List Z1} {ns : List Int} (h : RCs W g vals zs) (hb : bytesC zs = some ns) : Rel2 (RD W g.F) vals ((show List (K.int .u8).den from ns).flatMap (K.int .u8).rrow) := by
  obtain ⟨q1, q2⟩ := bytesC_rd hb
  have e : (show List (K.int .u8).den from ns).flatMap (K.int .u8).rrow = ns.map fun n => D.int .u8 n := by
    show ns.flatMap (fun n => [D.int .u8 n]) = _
    clear hb q1 q2
    induction ns with
    | nil => rfl
    | cons n r ih => simp [ih]
  rw [e]
  refine ⟨by rw [h.1, List.length_map, q1], fun j v d hv hd => ?_⟩
  rw [List.getElem?_map] at hd
  obtain ⟨n, hn, rfl⟩ := omap hd
  exact h.2 j v (.d (.int .u8 n)) hv (by rw [q2, List.getElem?_map, hn]; rfl)

theorem hdSet_wp (ht : TabOk P tab) (h : AI P E g s a W) {o : Oper} {st : Stp} {base : Nat} {n' : Nat → Prop} (hz : hdSet tab base s.live s.bx s.ev o.op = some (some st)) (hC : holds st.C)
    (hd : ∀ d, o.dst = some d → d < E.nt) (hb : ¬ s.us base) (hm : ∀ k, s.us k → n' k) (hn : n' base) {Q : Exit → Act → World → Prop} :
    o.wp P a W (fun a' W' => ∃ g', AI P E g' (s.go o.dst st.z st.e n') a' W') Q := by
  unfold hdSet at hz
  split at hz
  · -- copy
    rename_i args ats ho
    obtain ⟨args⟩ := args
    obtain ⟨ats⟩ := ats
    simp only at hz
    split at hz
    · rename_i x y t t'
      have fin : ∀ {z : Z} {ef : Eff} {v' : Value} {W' : World}, (Builtin.copy_ #[t, t'] o.type #[a.eval x, a.eval y]).run P W = .ok v' W' → (∃ g', AI P E g' (s.go o.dst z ef n') (a.put o.dst v') W') →
          o.wp P a W (fun a' W' => ∃ g', AI P E g' (s.go o.dst z ef n') a' W') Q := by
        rintro z ef v' W' r1 r2
        unfold Oper.wp execOp
        simp [ho, resolve, invoke, builtin, r1]
        exact r2
      split at hz
      · rename_i id off n c hx
        simp only [Option.some.injEq] at hz
        split at hz
        · rename_i e cs ys rd hty hcs hys
          split at hz
          · rename_i zb h1
            split at hz
            · rename_i hc
              cases hz
              obtain ⟨⟨hle, hpl⟩, hpl'⟩ := hc
              obtain ⟨ei, j, v, hi, hTy, hj, hjs, hjb, his, hna, hv, hcells, hcv⟩ := one1_spec (z := zb.1) (b := zb.2) ht h1
              have hu := sliceE_und ht hty
              obtain ⟨zy, hy, hsrc⟩ := obind hys
              obtain ⟨⟨A, cy, hyv⟩, q2, q3⟩ := src_rd h (h.ev hy).1 (h.ev hy).2 hsrc
              obtain ⟨p1, p2⟩ := h.ev hx
              obtain ⟨cap, hxv, hnc, hcc⟩ := (p1 : ∃ cap, _)
              obtain ⟨vs, ty, hh, hls, hr⟩ := (h.h.box id cs (bc_of hcs (plain_run hpl))).1.plain hpl
              have hmin : (ys.take n).length = min n ys.length := by simp
              by_cases h0 : min n ys.length = 0
              · have he : ys.take n = [] := List.eq_nil_of_length_eq_zero (by rw [hmin]; exact h0)
                have hrun := run_copy_none (P := P) W t t' o.type e (some ⟨g.ρ id, off, none⟩) A n cap ys.length cy hu (by rw [hj]; simp [hjs]) (by rw [Nat.min_comm] at h0; exact h0)
                have e3 : cs.take off ++ ys.take n ++ cs.drop (off + (ys.take n).length) = cs := by rw [he]; simp
                have hput := h.writeO (dst := o.dst) (n' := n') (id := id) (cs := cs) (cs' := cs.take off ++ ys.take n ++ cs.drop (off + (ys.take n).length)) (z := .one (.c (.d (.int .i64 (min n ys.length : Nat))))) (v := goInt 0) (W' := W) (plain_run hpl) (plain_run hpl') hd hm hcs ⟨rfl, rfl, rfl, Nat.le_refl _, fun _ _ _ => rfl⟩
                  (fun _ => by rw [e3]; exact (h.h.box id cs (bc_of hcs (plain_run hpl))).1) (by rw [e3]; exact (h.boxLow id cs hcs).2) (fun _ => by rw [h0]; exact .int _ _) trivial
                exact fin (by rw [hxv, hyv]; exact hrun) ⟨g, hput⟩
              · have hne : ys ≠ [] := fun q => h0 (by rw [q]; simp)
                obtain ⟨b, oo, cy', vals, hyv', s1, s2⟩ := q2 hne
                have hvt : RCs W g (vals.take n) (ys.take n) := ⟨by rw [List.length_take, List.length_take, s2.1], fun q u d hu hd => by
                  have hqn : q < n := by
                    rcases Nat.lt_or_ge q n with h1 | h1
                    · exact h1
                    · simp [List.getElem?_eq_none (show (vals.take n).length ≤ q by simp; omega)] at hu
                  rw [List.getElem?_take_of_lt hqn] at hu hd
                  exact s2.2 q u d hu hd⟩
                have hvl : (vals.take n).length = min n ys.length := by rw [hvt.1, hmin]
                have hrun := run_copy_row (P := P) W t t' o.type e (g.ρ id) off n cap ⟨b, oo, none⟩ ys.length cy' vs ty (vals.take n) hu (by rw [hj]; simp [hjs]) hh (by rw [hvl, Nat.min_comm]) (fun q u hq => by
                  have hqn : q < n := by
                    rcases Nat.lt_or_ge q n with h1 | h1
                    · exact h1
                    · simp [List.getElem?_eq_none (show (vals.take n).length ≤ q by simp; omega)] at hq
                  rw [List.getElem?_take_of_lt hqn] at hq
                  rw [addr_add]; exact s1 q u hq) (by rw [hvl]; omega) (ones_of hvt)
                have hput := h.putHd (dst := o.dst) (o := off) (ys := ys.take n) (vals := vals.take n) (z := .one (.c (.d (.int .i64 (min n ys.length : Nat))))) (v := goInt (vals.take n).length) (n' := n') hd hm hpl hcs (by rw [hmin]; exact hle) hpl' hvt (fun z hz => q3 z (List.mem_of_mem_take hz)) hh (fun W' => by rw [hvl]; exact .int _ _) trivial
                exact fin (by rw [hxv, hyv']; exact hrun) ⟨g, hput⟩
            · cases hz
          · cases hz
        · cases hz
      · rename_i hx
        simp only [Option.some.injEq] at hz
        split at hz
        · rename_i e zs rd hty hys
          obtain ⟨zb, h1, rfl⟩ := omap hz
          obtain ⟨ei, j, v, hi, hTy, hj, hjs, hjb, his, hna, hv, hcells, hcv⟩ := one1_spec (z := zb.1) (b := zb.2) ht h1
          have hu := sliceE_und ht hty
          obtain ⟨zy, hy, hsrc⟩ := obind hys
          obtain ⟨⟨A, cy, hyv⟩, q2, q3⟩ := src_rd h (h.ev hy).1 (h.ev hy).2 hsrc
          have hxr : RD W g.F (a.eval x) (.sl 1 []) := (h.ev hx).1
          obtain ⟨B, cb, hxv⟩ : ∃ B c, a.eval x = .slice B 0 c := by
            generalize a.eval x = vx at hxr
            cases hxr with
            | slNil => exact ⟨_, _, rfl⟩
            | slZ a => exact ⟨_, _, rfl⟩
            | sl b o len cap sz xs vs hl => have : len = 0 := by simpa using hl.symm
                                            subst this; exact ⟨_, _, rfl⟩
          have hrun := run_copy_none (P := P) W t t' o.type e B A 0 cb zs.length cy hu (by rw [hj]; simp [hjs]) (Nat.min_zero _)
          exact fin (by rw [hxv, hyv]; exact hrun) ⟨g, h.val hd hm (.int _ _) trivial⟩
        · cases hz
      · cases hz
    · cases hz
  · -- clear
    rename_i args ats ho
    obtain ⟨args⟩ := args
    obtain ⟨ats⟩ := ats
    simp only at hz
    split at hz
    · rename_i x t
      have fin : ∀ {z : Z} {ef : Eff} {v' : Value} {W' : World}, (Builtin.clear_ #[t] o.type #[a.eval x]).run P W = .ok v' W' → (∃ g', AI P E g' (s.go o.dst z ef n') (a.put o.dst v') W') →
          o.wp P a W (fun a' W' => ∃ g', AI P E g' (s.go o.dst z ef n') a' W') Q := by
        rintro z ef v' W' r1 r2
        unfold Oper.wp execOp
        simp [ho, resolve, invoke, builtin, r1]
        exact r2
      have tup0 : ∀ W', RZ W' g (.tuple #[]) (.tup []) := fun W' => ⟨#[], rfl, rfl, by simp⟩
      split at hz
      · rename_i id off n c hx
        simp only [Option.some.injEq] at hz
        split at hz
        · rename_i e cs hty hcs
          split at hz
          · rename_i z b h1
            split at hz
            · rename_i hc
              cases hz
              obtain ⟨⟨hle, hpl⟩, hpl'⟩ := hc
              obtain ⟨ei, j, v, hi, hTy, hj, hjs, hjb, his, hna, hv, hcells, hcv⟩ := one1_spec ht h1
              have hu := sliceE_und ht hty
              obtain ⟨p1, p2⟩ := h.ev hx
              obtain ⟨cap, hxv, hnc, hcc⟩ := (p1 : ∃ cap, _)
              obtain ⟨vs, ty, hh, hls, hr⟩ := (h.h.box id cs (bc_of hcs (plain_run hpl))).1.plain hpl
              by_cases h0 : n = 0
              · subst h0
                have e3 : cs.take off ++ List.replicate 0 (.d z) ++ cs.drop (off + (List.replicate 0 (Z1.d z)).length) = cs := by simp
                have hrun : (Builtin.clear_ #[t] o.type #[a.eval x]).run P W = .ok (.tuple #[]) W := by rw [hxv]; simp [Builtin.clear_, run_underlying hu]
                have hput := h.writeO (dst := o.dst) (n' := n') (id := id) (cs := cs) (cs' := cs.take off ++ List.replicate 0 (.d z) ++ cs.drop (off + (List.replicate 0 (Z1.d z)).length)) (z := .tup []) (v := .tuple #[]) (W' := W) (plain_run hpl) (plain_run hpl') hd hm hcs ⟨rfl, rfl, rfl, Nat.le_refl _, fun _ _ _ => rfl⟩
                  (fun _ => by rw [e3]; exact (h.h.box id cs (bc_of hcs (plain_run hpl))).1) (by rw [e3]; exact (h.boxLow id cs hcs).2) (fun _ => tup0 _) (fun v hv => by cases hv)
                exact fin hrun ⟨g, hput⟩
              · have hone : v.oneCell' = true := one_of (W := W) (g := g) (z := .d z) (constD_rd hcv)
                have hrun := run_clear_row (P := P) (W := W) t e o.type v hu (fun w => by simp [zeroValue, typeInfo, hj, hv]) hcells hone (g.ρ id) off n cap (by omega) hh (by omega)
                have hput := h.putHd (dst := o.dst) (o := off) (ys := List.replicate n (.d z)) (vals := List.replicate n v) (z := .tup []) (v := .tuple #[]) (n' := n') hd hm hpl hcs (by simpa using hle) hpl' (zeros_rc hcv n) (fun z hz => by rw [List.eq_of_mem_replicate hz]; trivial) hh tup0 (fun v hv => by cases hv)
                rw [List.length_replicate] at hput
                exact fin (by rw [hxv]; exact hrun) ⟨g, by simpa using hput⟩
            · cases hz
          · cases hz
        · cases hz
      · rename_i hx
        simp only [Option.some.injEq] at hz
        obtain ⟨e, hty, rfl⟩ := omap hz
        have hu := sliceE_und ht hty
        have hxr : RD W g.F (a.eval x) (.sl 1 []) := (h.ev hx).1
        have hrun : (Builtin.clear_ #[t] o.type #[a.eval x]).run P W = .ok (.tuple #[]) W := by
          generalize a.eval x = vx at hxr
          cases hxr with
          | slNil => simp [Builtin.clear_, run_underlying hu]
          | slZ a => simp [Builtin.clear_, run_underlying hu]
          | sl b o len cap sz xs vs hl => have : len = 0 := by simpa using hl.symm
                                          subst this; simp [Builtin.clear_, run_underlying hu]
        exact fin hrun ⟨g, h.val hd hm (tup0 W) (fun v hv => by cases hv)⟩
      · cases hz
    · cases hz
  · -- append
    rename_i args ats ho
    obtain ⟨args⟩ := args
    obtain ⟨ats⟩ := ats
    simp only at hz
    split at hz
    · rename_i x y t t'
      have fin : ∀ {z : Z} {ef : Eff} {v' : Value} {W' : World}, (Builtin.append_ #[t, t'] o.type #[a.eval x, a.eval y]).run P W = .ok v' W' → (∃ g', AI P E g' (s.go o.dst z ef n') (a.put o.dst v') W') →
          o.wp P a W (fun a' W' => ∃ g', AI P E g' (s.go o.dst z ef n') a' W') Q := by
        rintro z ef v' W' r1 r2
        unfold Oper.wp execOp
        simp [ho, resolve, invoke, builtin, r1]
        exact r2
      split at hz
      · rename_i id off n c hx
        simp only [Option.some.injEq] at hz
        split at hz
        case isFalse => cases hz
        rename_i htt
        subst htt
        split at hz
        · rename_i e cs ys rd hty hcs hys
          split at hz
          · rename_i zb h1
            split at hz
            · rename_i hc
              cases hz
              obtain ⟨⟨hle1, hle2⟩, hpl, hpl'⟩ := hc
              obtain ⟨ei, j, v, hi, hTy, hj, hjs, hjb, his, hna, hv, hcells, hcv⟩ := one1_spec (z := zb.1) (b := zb.2) ht h1
              have hu := sliceE_und ht hty
              obtain ⟨zy, hy, hsrc⟩ := obind hys
              obtain ⟨⟨A, cy, hyv⟩, q2, q3⟩ := src_rd h (h.ev hy).1 (h.ev hy).2 hsrc
              obtain ⟨p1, p2⟩ := h.ev hx
              obtain ⟨cap, hxv, hnc, hcc⟩ := (p1 : ∃ cap, _)
              obtain ⟨vs, ty, hh, hls, hr⟩ := (h.h.box id cs (bc_of hcs (plain_run hpl))).1.plain hpl
              have hres : ∀ W', RZ W' g (.slice (some ⟨g.ρ id, off, none⟩) (n + ys.length) cap) (.one (.c (.hd id off (n + ys.length) c))) := fun W' => ⟨cap, rfl, by omega, hcc⟩
              by_cases h0 : ys = []
              · subst h0
                have e3 : cs.take (off + n) ++ [] ++ cs.drop (off + n + ([] : List Z1).length) = cs := by simp
                have hrun := run_append_nothing (P := P) (W := W) t o.type e j hu hj (some ⟨g.ρ id, off, none⟩) A n cap cy hnc
                have hput := h.writeO (dst := o.dst) (n' := n') (id := id) (cs := cs) (cs' := cs.take (off + n) ++ [] ++ cs.drop (off + n + ([] : List Z1).length)) (z := .one (.c (.hd id off (n + 0) c))) (v := .slice (some ⟨g.ρ id, off, none⟩) n cap) (W' := W) (plain_run hpl) (plain_run hpl') hd hm hcs ⟨rfl, rfl, rfl, Nat.le_refl _, fun _ _ _ => rfl⟩
                  (fun _ => by rw [e3]; exact (h.h.box id cs (bc_of hcs (plain_run hpl))).1) (by rw [e3]; exact (h.boxLow id cs hcs).2) (fun _ => ⟨cap, rfl, hnc, hcc⟩) p2
                exact fin (by rw [hxv, hyv]; exact hrun) ⟨g, hput⟩
              · obtain ⟨b, oo, cy', vals, hyv', s1, s2⟩ := q2 h0
                have hrun := run_append_at (P := P) (W := W) t o.type e j hu hj hjs (g.ρ id) off n cap hh ⟨b, oo, none⟩ ys.length cy' vals s2.1 (fun q u hq => by rw [addr_add]; exact s1 q u hq) (ones_of s2) (by omega) (by omega)
                have hput := h.putHd (dst := o.dst) (o := off + n) (ys := ys) (vals := vals) (z := .one (.c (.hd id off (n + ys.length) c))) (v := .slice (some ⟨g.ρ id, off, none⟩) (n + ys.length) cap) (n' := n') hd hm hpl hcs hle2 hpl' s2 q3 hh hres p2
                rw [s2.1] at hput
                exact fin (by rw [hxv, hyv']; exact hrun) ⟨g, hput⟩
            · cases hz
          · cases hz
        · cases hz
      · rename_i l xs hx
        split at hz
        · rename_i id off n c hy
          simp only [Option.some.injEq] at hz
          split at hz
          case isFalse => cases hz
          rename_i htt
          subst htt
          split at hz
          · rename_i e zs rd e' k hty hsrc hlv
            split at hz
            · rename_i i ys hi hys
              split at hz
              · rename_i hc
                obtain ⟨his, he'⟩ := hc
                subst he'
                cases hz
                have hC : xs.length + ys.length ≤ maxLen ∧ (xs.length + ys.length) * i.bytes ≤ 140737488355328 := hC
                have hu := sliceE_und ht hty
                have hTy := ht _ _ hi
                obtain ⟨j, hj, hjs, hjb, z, hz0, hzs, _⟩ := hTy.info
                have hT1 : 0 < (K.int .u8).size ∧ (K.int .u8).size = i.size := ⟨Nat.one_pos, his.symm⟩
                obtain ⟨q1, q2⟩ := (h.ev hx).1
                have hown := h.h.own l _ hlv
                rw [q2] at hown
                obtain ⟨old, o1, o2⟩ := own_shape hTy hT1 hown q1
                obtain ⟨⟨A, cy, hyv⟩, s1, s3⟩ := src_rd h (h.ev hy).1 (h.ev hy).2 hsrc
                obtain ⟨b1, b2⟩ := bytesC_rd hys
                have hold : old.length = xs.length * j.size := by rw [o2.1, flat_len, hT1.2, hjs]
                have hrun : ∃ v' W' news, (Builtin.append_ #[t, t] o.type #[a.eval x, a.eval y]).run P W = .ok v' W' ∧ Apps W W' e' i.size (a.eval x) v' xs.length (show List (K.int .u8).den from ys).length old news ∧ Rel2 (RD W g.F) news ((show List (K.int .u8).den from ys).flatMap (K.int .u8).rrow) := by
                  by_cases h0 : zs = []
                  · have hy0 : ys = [] := List.eq_nil_of_length_eq_zero (by rw [b1, h0]; rfl)
                    obtain ⟨A', c', hxv, hnc⟩ := o1.slice
                    refine ⟨a.eval x, W, [], ?_, .inl ⟨by rw [hy0]; rfl, rfl, rfl⟩, by rw [hy0]; exact ⟨rfl, by simp⟩⟩
                    rw [hyv, h0, hxv]
                    exact run_append_nothing (P := P) (W := W) t o.type e' j hu hj A' A xs.length c' cy hnc
                  · obtain ⟨b, oo, cy', vals, hyv', r1, r2⟩ := s1 h0
                    have hlen : ys.length ≠ 0 := fun q => h0 (List.eq_nil_of_length_eq_zero (by omega))
                    obtain ⟨v', W', t1, t2, t3⟩ := append_run (P := P) (W := W) t o.type e' j z hu hj hz0 (by omega) (a.eval x) xs.length old hold (by rw [hjs]; exact o1) ⟨b, oo, none⟩ ys.length cy' vals (by rw [r2.1, hjs, his, ← b1, Nat.mul_one])
                      (fun q u hq => by rw [addr_add]; exact r1 q u hq) (ones_of r2) hlen hC.1 (by rw [hjb]; exact hC.2)
                    rw [hjs] at t3
                    refine ⟨v', W', vals, ?_, .inr ⟨t2, t3⟩, bytes_rel r2 hys⟩
                    rw [hyv', ← b1]; exact t1
                obtain ⟨v', W', news, r1, r2, r3⟩ := hrun
                exact fin r1 (h.appOwn (kill := some l) hTy hd hb hm hn hT1 hown q1 (fun b hb1 => ⟨l, _, rfl, hlv, by rw [q2]; exact hb1⟩) o1 o2 r3 r2)
              · cases hz
            · split at hz
              · rename_i zz b h1
                split at hz
                · rename_i hc
                  cases hz
                  obtain ⟨⟨hk1, he⟩, hpl, hne⟩ := hc
                  subst hk1; subst he
                  have hC : zs.length ≤ maxLen ∧ zs.length * b ≤ 140737488355328 := hC
                  obtain ⟨ei, j, v, hi, hTy, hj, hjs, hjb, his, hna, hv, hcells, hcv⟩ := one1_spec ht h1
                  have hu := sliceE_und ht hty
                  obtain ⟨⟨A, cy, hyv⟩, s1, s3⟩ := src_rd h (h.ev hy).1 (h.ev hy).2 hsrc
                  obtain ⟨q1, q2⟩ := (h.ev hx).1
                  have hown := h.h.own l _ hlv
                  rw [q2] at hown
                  obtain ⟨A', hxv⟩ : ∃ A', a.eval x = .slice (some A') 0 0 := by
                    rcases hown with ⟨_, hk⟩ | ⟨g0, n0, cap, cur, fr, hv0, _, _, _, _, _, hk, _⟩
                    · exact absurd rfl hk
                    · have hnc : n0 = cap := hk rfl
                      have hr' : RD W g.F _ (.sl 1 []) := q1
                      obtain ⟨A2, m, c2, e2, hm2⟩ := hr'.sl_len
                      rw [hv0] at e2
                      simp only [Value.slice.injEq] at e2
                      have hm0 : m = 0 := by simpa using hm2
                      have hn0 : n0 = 0 := by omega
                      exact ⟨_, by rw [hv0, ← hnc, hn0]⟩
                  have hne' : zs ≠ [] := fun q => by rw [q] at hne; cases hne
                  have hpos : 0 < zs.length := List.length_pos_iff.2 hne'
                  obtain ⟨b', oo, cy', vals, hyv', r1, r2⟩ := s1 hne'
                  have hrun := run_append_grow (P := P) (w := W) t o.type e' j v hu hj hv A' 0 0 [] (by simp) (by simp) ⟨b', oo, none⟩ zs.length cy' vals (by rw [r2.1, hjs, Nat.mul_one]) (fun q u hq => by rw [addr_add]; exact r1 q u hq) (by omega) (by have := hC.1; simp only [maxLen] at this; omega) (by rw [hjb]; exact growslice_fits (by omega) (by rw [Nat.zero_add]; omega))
                  rw [Nat.zero_add] at hrun
                  have hge := grownCap_ge W zs.length 0 e'
                  have h2 := World.drew_ai h
                  obtain ⟨g', h'⟩ := h2.newHd (dst := o.dst) (cs := zs) (vs := ([] : List Value).toArray ++ vals.toArray ++ Builtin.zeroCells v.cells (grownCap W zs.length 0 e' - zs.length)) (ty := e') (n := zs.length) (cap := grownCap W zs.length 0 e') (c := zs.length) (base := base) (n' := n') hpl hd hb hm hn
                    (by simp only [Array.size_append, List.size_toArray, List.length_nil, r2.1]; omega) (by
                      simp only [Array.toList_append, List.toList_toArray, List.nil_append]
                      rw [List.take_append_of_le_length (by rw [r2.1]; exact Nat.le_refl _), List.take_of_length_le (by rw [r2.1]; exact Nat.le_refl _)]
                      exact r2.keep (n := s.us) (Keeps.drawn W _ _) s3 (fun _ _ => rfl) (fun _ _ => rfl)) s3 hge hge
                  exact fin (by rw [hxv, hyv']; exact hrun) ⟨g', h'⟩
                · cases hz
              · cases hz
            · cases hz
          · cases hz
        · cases hz
      · rename_i xs hx
        split at hz
        · rename_i id off n c hy
          simp only [Option.some.injEq] at hz
          split at hz
          case isFalse => cases hz
          rename_i htt
          subst htt
          split at hz
          · rename_i e ys rd hty hsrc
            split at hz
            · rename_i z b h1
              split at hz
              · rename_i hc
                cases hz
                obtain ⟨hpl, hne⟩ := hc
                have hC : ys.length ≤ maxLen ∧ ys.length * b ≤ 140737488355328 := hC
                obtain ⟨ei, j, v, hi, hTy, hj, hjs, hjb, his, hna, hv, hcells, hcv⟩ := one1_spec ht h1
                have hu := sliceE_und ht hty
                obtain ⟨⟨A, cy, hyv⟩, s1, s3⟩ := src_rd h (h.ev hy).1 (h.ev hy).2 hsrc
                have hn0 : a.eval x = .slice none 0 0 := RD.unit_nil (h.ev hx).1
                have hne' : ys ≠ [] := fun q => by rw [q] at hne; cases hne
                have hpos : 0 < ys.length := List.length_pos_iff.2 hne'
                obtain ⟨b', oo, cy', vals, hyv', r1, r2⟩ := s1 hne'
                have hrun := run_append_nil (P := P) (w := W) t o.type e j v hu hj hv ⟨b', oo, none⟩ ys.length cy' vals (by rw [r2.1, hjs, Nat.mul_one]) (fun q u hq => by rw [addr_add]; exact r1 q u hq) hpos (by have := hC.1; simp only [maxLen] at this; omega) (by rw [hjb]; omega)
                have hge := grownCap_ge W ys.length 0 e
                have h2 := World.drew_ai h
                obtain ⟨g', h'⟩ := h2.newHd (dst := o.dst) (cs := ys) (vs := vals.toArray ++ Builtin.zeroCells v.cells (grownCap W ys.length 0 e - ys.length)) (ty := e) (n := ys.length) (cap := grownCap W ys.length 0 e) (c := ys.length) (base := base) (n' := n') hpl hd hb hm hn
                  (by rw [Array.size_append, List.size_toArray, r2.1]; omega) (by
                    rw [Array.toList_append, List.toList_toArray, List.take_append_of_le_length (by rw [r2.1]; exact Nat.le_refl _), List.take_of_length_le (by rw [r2.1]; exact Nat.le_refl _)]
                    exact r2.keep (n := s.us) (Keeps.drawn W _ _) s3 (fun _ _ => rfl) (fun _ _ => rfl)) s3 hge hge
                exact fin (by rw [hn0, hyv']; exact hrun) ⟨g', h'⟩
              · cases hz
            · cases hz
          · cases hz
        · cases hz
      · cases hz
    · cases hz
  · cases hz
end
end Zed
