import Derived.Test.YthekpkamedjloaaGreatKl
import Derived.Test.YthekpkamedjloaaGreatProg
namespace Go.Proofs.YthekpkamedjloaaGreat
open Go.RowKit
noncomputable abbrev PR : Program := Tryz.prog
theorem hmx : PR.follows .mixedOrders = true := by kernel_rfl
end Go.Proofs.YthekpkamedjloaaGreat
