/- slices.Sort at texts, over its chunk. -/
import Derived.Test.YtcpmmojpgngaaaaMix
import Derived.Test.YtcpmmojpgngaaaaSortHp
import Derived.Test.YtcpmmojpgngaaaaShelf
set_option linter.unusedVariables false
set_option linter.unusedSimpArgs false
set_option linter.unnecessarySimpa false
set_option linter.unusedSectionVars false
namespace Go.Proofs.Ytcpmmojpgngaaaa
open Go.Hb
theorem sort_at {W w : World} {L : List HP} {F : HP → List HP} {s : Sl} {keys : List ByteArray} (h : Sat W w L) [hA : AtS L s (recs Rec.str s keys) F] (hk : keys.length < 4611686018427387904) :
    Calls Try.prog id_slices_Sort_s_string_string #[.slice s.a s.n s.c] w fun e w' => e = .returned (.tuple #[]) ∧ Sat W w' (F (recs Rec.str s (sortK keys))) :=
  sort_wrap (hA := hA) (fun blk off cap ss w hH hb hs => Try.slices_Sort_string blk off cap ss w hH hb hs) (fun cap w => Try.slices_Sort_string_none none cap w) h hk
end Go.Proofs.Ytcpmmojpgngaaaa
