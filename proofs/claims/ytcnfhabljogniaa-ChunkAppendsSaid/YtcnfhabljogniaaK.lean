/- The law's own helpers over bits: kept, spoil; gaugeref01.Same. -/
import Derived.Test.YtcnfhabljogniaaJ
import Derived.Laws.Concat
namespace Go.Proofs.Ytcnfhabljogniaa
open Go.RowKit

theorem str_snoc (l : List UInt8) (b : UInt8) : (ByteArray.mk l.toArray ++ ByteArray.mk #[b]) = ByteArray.mk (l ++ [b]).toArray := by
  have := ByteArray.mk_append_mk l [b]
  simpa using this



end Go.Proofs.Ytcnfhabljogniaa
