/- The reference: whole of any cells. No condition but that the strings are not too long for a cut. -/
import Derived.Test.YtjkajojjehgmdaaGreatRE02
import Derived.Test.YtjkajojjehgmdaaGreatRE04
import Derived.Test.YtjkajojjehgmdaaGreatRE13
import Derived.Test.YtjkajojjehgmdaaGreatRE14
import Derived.Test.YtjkajojjehgmdaaGreatRE17
import Derived.Test.YtjkajojjehgmdaaGreatRE20
set_option linter.unusedVariables false
set_option linter.unusedSimpArgs false
namespace Go.Proofs.YtjkajojjehgmdaaGreat
open Go.RowKit Go.Shelf Go.Maps
theorem isEmpty_iff (s : ByteArray) : s.toList.isEmpty = decide (s = ⟨#[]⟩) := by
 rw [Bool.eq_iff_iff, List.isEmpty_iff, decide_eq_true_eq]
 have h := toList_inj s ⟨#[]⟩
 have h0 : (⟨#[]⟩ : ByteArray).toList = [] := by kernel_rfl
 constructor
 ·intro h1; rw [← h, h1, h0]
 ·intro h1; rw [h1, h0]
end Go.Proofs.YtjkajojjehgmdaaGreat
