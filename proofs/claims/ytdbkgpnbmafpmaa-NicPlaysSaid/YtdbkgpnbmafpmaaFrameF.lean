/- The law FrameParses: its walk. -/
import Derived.Test.YtdbkgpnbmafpmaaFrameE
namespace Go.Proofs.Ytdbkgpnbmafpmaa
open Go.RowKit
attribute [local go_sem] Bw.and255 Bw.and65535
namespace Fr
open Sm Bi
open PlainAid (bt get_bt bt_nonneg bt_le)
attribute [local irreducible] prOut prErr pE dat forV
theorem same_data {r t : ByteArray} {l : List UInt8} (h : r.data.toList = l) (h' : t.data.toList = l) : (r.toList == t.toList) = true := seq_true (h.trans h'.symm)
end Fr
end Go.Proofs.Ytdbkgpnbmafpmaa
