import Derived.Test.YthekpkamedjloaaKl
import Derived.Test.YthekpkamedjloaaProg
namespace Go.Proofs.Ythekpkamedjloaa
open Go.RowKit
noncomputable abbrev PR : Program := Try.prog
theorem hmx : PR.follows .mixedOrders = true := by kernel_rfl
end Go.Proofs.Ythekpkamedjloaa
