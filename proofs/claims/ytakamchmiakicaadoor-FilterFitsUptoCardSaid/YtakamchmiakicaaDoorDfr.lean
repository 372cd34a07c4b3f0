/- filter's reader.one defers a closure that adds one to the reader's level: walked. -/
import Derived.Test.YtakamchmiakicaaDoorShelf
import Derived.Test.YtakamchmiakicaaDoorZedYb
import Derived.WalkKit
import Derived.BigCall
import Derived.Tactics
import Derived.Tactics2
import Derived.Laws.Pointers
namespace Go.Proofs.YtakamchmiakicaaDoorDfr
open Go Zed Go.RowKit
set_option linter.unusedVariables false
set_option linter.unusedSimpArgs false

theorem wr (n : Int) : Go.RowKit.wrap64 n = IntKind.wrap .i64 n := by
  simp [Go.RowKit.wrap64, IntKind.wrap, IntKind.signed, IntKind.bits]
  split <;> omega
theorem closure (l : Int) (W : World) (b0 b1 : Nat) (u0 u2 : Value) (ty ty1 : TypeId) (h1 : W.heap[b1]? = some (.cells #[.pointer (some ⟨b0, 0, none⟩)] ty1 (0, 0))) (h0 : W.heap[b0]? = some (.cells #[u0, .int .i64 l, u2] ty (0, 0))) :
    CallsD Tryd.prog 111 #[.pointer (some ⟨b1, 0, none⟩)] .returning W fun e u' W' => e = .returned (.tuple #[]) ∧ u' = .returning ∧ W' = W.setCell ⟨b0, 1, none⟩ (.int .i64 (IntKind.wrap .i64 (l + 1))) := by
  have hc1 : W.cell? ⟨b1, 0, none⟩ = some (.pointer (some ⟨b0, 0, none⟩)) := by simp [World.cell?, h1]
  have hc0 : W.cell? ⟨b0, 1, none⟩ = some (.int .i64 l) := by simp [World.cell?, h0]
  have hf0 : W.frozen? ⟨b0, 1, none⟩ = false := by simp [World.frozen?, h0]
  refine (?_ : CallsD Tryd.prog 111 #[.pointer (some ⟨b1, 0, none⟩)] .returning W fun e u' W' => u' = .returning ∧ (e = .returned (.tuple #[]) ∧ W' = W.setCell ⟨b0, 1, none⟩ (.int .i64 (IntKind.wrap .i64 (l + 1))))).mono ?_
  · go_enter_d Tryd.func111, Tryd.ntmps111
    go_wp2
    go_end0
    exact ⟨rfl, by rw [wr]⟩
  · rintro e u' W' ⟨h1, h2, h3⟩
    exact ⟨h2, h1, h3⟩
theorem dfr {s : St} {ov x0 x2 : X} {l : Int} (hs1 : Zed.look s.sl 1 = some (.one (.c (.ptr 1 0)))) (hst : Zed.look s.sl 19 = none) (hnx : s.nx = 2)
    (hr : At Tryd.prog Tryd.f99 2 6 s ⟨.one (.c (.d ov)), [], [(0, [.d x0, .d (.int .i64 l), .d x2]), (1, [.ptr 0 0])], 2⟩) :
    At0 Tryd.prog Tryd.f99 1 5 s ⟨.one (.c (.d ov)), [], [(0, [.d x0, .d (.int .i64 (IntKind.wrap .i64 (l + 1))), .d x2])], 1⟩ := by
  obtain ⟨k', hk, hk'⟩ : ∃ k', ptOf Tryd.f99 5 = .code (.region 5 #[{ dst := some 19, op := .makeFunc (.func 111) #[] #[.tmp 1], type := 1, pos := "parse.go:64", after := #[], guard := none }, { dst := none, op := .defer { callee := .value (.tmp 19), args := #[], argTypes := #[] }, type := 0, pos := "parse.go:64", after := #[{ on := 0, ground := .data }], guard := none }] false) :: k' ∧ Zed.adm 1000 k' = ptOf Tryd.f99 6 := ⟨(ptOf Tryd.f99 5).tail, by kernel_rfl, by kernel_rfl⟩
  unfold At0
  rw [hk]
  have hr2 : Runs Tryd.prog Tryd.f99.results Tryd.f99.ntmps 2 k' s ⟨.one (.c (.d ov)), [], [(0, [.d x0, .d (.int .i64 l), .d x2]), (1, [.ptr 0 0])], 2⟩ := Runs.adm (n := 1000) (by rw [hk']; exact hr)
  refine Runs0.dfr (t := 19) (fc := 111) (nt := Tryd.f99.ntmps) ?_ ?_ (fun W b0 b1 u0 u2 ty ty1 h1 h0 => closure l W b0 b1 u0 u2 ty ty1 h1 h0) ?_ hs1 hst hnx hr2
  · intro a W p hd hsz hp
    have hmf : ∀ (fn : Fn) (first cap : Array Value) (w : World), (Instr.makeFunc fn first cap).run Tryd.prog w = .ok (.func fn first cap) w := fun _ _ _ _ => rfl
    have hn : Tryd.f99.ntmps = 47 := by kernel_rfl
    have he : a.tmps.getD 1 undef = p := by rw [Array.getD_eq_getD_getElem?, hp]; rfl
    have h19 : 19 < a.tmps.size := by omega
    obtain ⟨tm, df⟩ := a
    simp only at hd hsz hp he h19
    subst hd
    apply wp_region
    have hj : ∀ j : Nat, j ≠ 19 → (tm.setIfInBounds 19 (Value.func (Fn.func 111) #[] #[p]))[j]? = tm[j]? := by
      intro j hj
      rw [Array.getElem?_setIfInBounds_ne (by omega)]
    simp [wpOps, go_sem, hmf, he, h19]
    refine .inl (.inl ?_)
    exact hj
  · intro p W
    simp [go_sem]
  · intro r hr
    have e : Tryd.f99.results.toList = [.tmp 2] := by kernel_rfl
    rw [e] at hr
    simp only [List.mem_singleton] at hr
    exact ⟨2, hr⟩
end Go.Proofs.YtakamchmiakicaaDoorDfr
