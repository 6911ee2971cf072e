/-
  undo.Net's contract as the word NetSays.
-/
import Derived.Test.YtnjenggijmbhcaaVK11
import Derived.Test.YtnjenggijmbhcaaVK37
namespace Go.Proofs.Ytnjenggijmbhcaa
open Go.RowKit
theorem netSays28 : NetSays := fun p A n c ws w h1 h2 h3 h4 h5 h6 => NetUn p A n c ws w h1 h2 h3 h4 h5 h6
end Go.Proofs.Ytnjenggijmbhcaa
