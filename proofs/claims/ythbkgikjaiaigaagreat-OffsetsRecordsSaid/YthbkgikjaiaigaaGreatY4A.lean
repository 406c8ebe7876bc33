import Derived.Test.YthbkgikjaiaigaaGreatY4More
import Derived.Test.YthbkgikjaiaigaaGreatY4H
import Derived.Test.YthbkgikjaiaigaaGreatAmGg
namespace Go.AM.P
set_option linter.all false
open Go Go.Proofs Go.AM
def intr0 : Trie Intr := Trie.set ranged N.frame_More (some moreI)
theorem intr0_ok : TAll (IntrOk Tryz.prog) intr0 := intr_set ranged_ok (moreI_ok has)
def calls0 : Calls' := callD intr0 tab 1000 200
theorem calls0_sound : SoundC Tryz.prog calls0 := callD_sound intr0_ok tab_ok 200
theorem awake_true : isTrue (calls0 N.towpathlaw14_awake [] St.empty) = true := by decide +kernel
end Go.AM.P
