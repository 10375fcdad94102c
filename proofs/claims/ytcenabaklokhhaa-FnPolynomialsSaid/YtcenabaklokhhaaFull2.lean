/- Walks: FullArray of both sides. -/
import Derived.Test.YtcenabaklokhhaaFull
namespace Go.Proofs.Ytcenabaklokhhaa
set_option linter.unusedSimpArgs false
set_option linter.unusedVariables false
open Go.RowKit

theorem MakesA.no {w w' : World} {A : AV} {c c' : Int} {L : List Ent} (hA : A = noA) (hc : c = c') (h : St w.heap.size w w' L) :
    MakesA w A c (.returned (.tuple #[.agg #[.int .i64 0, .int .i64 0, .slice none 0 0], .int .i64 c'])) w' := by
  subst hA; subst hc
  exact ⟨.slice none 0 0, [], rfl, rfl, (h.out).nilrow _⟩
theorem MakesA.yes {w w' : World} {A : AV} {c c' : Int} {lv co : Int} {v : Value} {us : List Value} {xss : List (List Int)} {L : List Ent} (hA : A = ⟨lv, co, xss⟩) (hc : c = c') (hl : us.length = xss.length) (hs : (own2 v us xss).Sublist L) (h : St w.heap.size w w' L) :
    MakesA w A c (.returned (.tuple #[.agg #[.int .i64 lv, .int .i64 co, v], .int .i64 c'])) w' := by
  subst hA; subst hc
  exact ⟨v, us, rfl, hl, h.sub hs⟩

end Go.Proofs.Ytcenabaklokhhaa
