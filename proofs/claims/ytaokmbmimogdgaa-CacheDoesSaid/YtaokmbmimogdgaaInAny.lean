/- linkboyref01.In, whatever the world. -/
import Derived.Test.YtaokmbmimogdgaaCacheGet
namespace Go.Proofs.Ytaokmbmimogdgaa
open Go.RowKit
theorem rin_any (x lo hi : Int) (hl : lo ≤ hi) (w : World) : Calls Try.prog 24 #[.int .i64 x, .int .i64 lo, .int .i64 hi] w fun e w' => e = .returned (.int .i64 (clamp x lo hi)) ∧ w = w' := by
  unfold clamp
  by_cases h1 : x < lo
  · rw [if_pos h1]
    go_enter Try.func24, Try.ntmps24
    go_wp2
    go_returns
    exact ⟨rfl, rfl⟩
  · rw [if_neg h1]
    by_cases h2 : hi < x
    · rw [if_pos h2]
      go_enter Try.func24, Try.ntmps24
      go_wp2
      go_returns
      exact ⟨rfl, rfl⟩
    · rw [if_neg h2]
      go_enter Try.func24, Try.ntmps24
      go_wp2
      go_returns
      exact ⟨rfl, rfl⟩
end Go.Proofs.Ytaokmbmimogdgaa
