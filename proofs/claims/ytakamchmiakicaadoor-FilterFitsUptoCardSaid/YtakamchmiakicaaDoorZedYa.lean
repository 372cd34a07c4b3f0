/- ZED, text 25a: a row that may be nil, told in two ways. -/
import Derived.Test.YtakamchmiakicaaDoorZedY
namespace Zed
open Go
set_option linter.unusedVariables false
set_option linter.unusedSimpArgs false
section
variable {P : Program} {E : Ent} {g : G} {a : Act} {W : World}

theorem AI.retell {s : St} (h : AI P E g s.den a W) {t : Nat} {z z' : Z} (hz : look s.sl t = some z) (hr : ∀ v, a.tmps[t]? = some v → RZ W g v z → RZ W g v z') (hb : z'.below s.den.us) :
    AI P E g (St.den ⟨(t, z') :: s.sl, s.live, s.bx, s.nx⟩) a W := by
  refine { defers := h.defers, tsz := h.tsz, slots := fun u y hu => ?_, low := fun u y hu => ?_, liveLow := h.liveLow, boxLow := h.boxLow, pkLow := h.pkLow, pin := h.pin, b := h.b, h := h.h, r := h.r }
  · have hu' : (if t = u then some z' else look s.sl u) = some y := hu
    by_cases hh : t = u
    · rw [if_pos hh] at hu'; subst hh; cases hu'
      obtain ⟨x, q1, q2⟩ := h.slots t z hz
      exact ⟨x, q1, hr x q1 q2⟩
    · rw [if_neg hh] at hu'; exact h.slots u y hu'
  · have hu' : (if t = u then some z' else look s.sl u) = some y := hu
    by_cases hh : t = u
    · rw [if_pos hh] at hu'; cases hu'; exact hb
    · rw [if_neg hh] at hu'; exact h.low u y hu'

theorem At.nilS {fn : Func} {pk r : Nat} {s : St} {o : Out} (t : Nat) (T : K) (xs : List T.den) (hz : look s.sl t = some (.one (.c (.d (.sl T xs)))))
    (h1 : xs = [] → At P fn pk r ⟨(t, .one (.c (.d (.sl .unit [])))) :: s.sl, s.live, s.bx, s.nx⟩ o)
    (h2 : At P fn pk r ⟨(t, .one (.c (.nn T xs))) :: s.sl, s.live, s.bx, s.nx⟩ o) : At P fn pk r s o := by
  intro E g a W hpk hnt h b cs
  obtain ⟨v, hv, hr⟩ := h.slots t _ hz
  have hr' : RD W g.F v (.sl T.size (xs.map T.rrow)) := hr
  by_cases hn : v = .slice none 0 0
  · have hx : xs = [] := by
      subst hn
      cases hx : xs.map T.rrow with
      | nil => exact List.map_eq_nil_iff.1 hx
      | cons c l => rw [hx] at hr'; cases hr'
    exact h1 hx E g a W hpk hnt (h.retell hz (fun u hu _ => by rw [hv] at hu; cases hu; rw [hn]; exact (RD.slNil 0 : RD W g.F _ (.sl 0 []))) trivial) b cs
  · refine h2 E g a W hpk hnt (h.retell hz (fun u hu _ => ?_) trivial) b cs
    rw [hv] at hu; cases hu
    refine ⟨hr', ?_⟩
    generalize xs.map T.rrow = rows at hr'
    cases hr' with
    | slNil => exact absurd rfl hn
    | slZ a => exact ⟨_, _, _, rfl⟩
    | sl => exact ⟨_, _, _, rfl⟩
end
end Zed
