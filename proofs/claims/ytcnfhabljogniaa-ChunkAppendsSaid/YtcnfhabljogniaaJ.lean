/- The law's own helpers over bits: lent. -/
import Derived.Test.YtcnfhabljogniaaI
namespace Go.Proofs.Ytcnfhabljogniaa
open Go.RowKit

theorem own_cap {w : World} {base : Nat} {e : TypeId} {size : Nat} {ao : Option Addr} {n cap : Nat} {xs : List Value} (h : w.ownsRow base e size (.slice ao n cap) n xs) : n ≤ cap := by
  obtain ⟨_, c', hv, hc, _⟩ := (Sl.own h).shape
  simp only [Value.slice.injEq] at hv
  omega

end Go.Proofs.Ytcnfhabljogniaa
