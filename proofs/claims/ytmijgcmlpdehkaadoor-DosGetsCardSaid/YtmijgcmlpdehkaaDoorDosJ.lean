/- From what the row lists to what the walks of DosGets and DosTexts want. -/
import Derived.Test.YtmijgcmlpdehkaaDoorDosS
import Derived.Stop.LaidErr
namespace Go.Proofs.YtmijgcmlpdehkaaDoor
theorem tab_of {W : World} (h : laidMet Tryd.prog [("math/bits.deBruijn32tab", Rows.laid_math_bits_deBruijn32tab), ("math/bits.deBruijn64tab", Rows.laid_math_bits_deBruijn64tab), ("internal/strconv.uint64pow10", Rows.laid_internal_strconv_uint64pow10)] W) : Tab W.heap.size W :=
  Lib.tabBelow_of_tabIs (Lib.tabIs_of_head (g := 0) (e := 65) (n := 20) (by kernel_rfl) (t := 79) (by kernel_rfl) Tryd.underlying79 Tryd.underlying65 (by kernel_rfl) (by kernel_rfl) (rest := []) h.tail.tail)
theorem dosGets_laid (W : World) (h : laidMet Tryd.prog Rows.dosGetsRow.laid W) : Tab W.heap.size W := tab_of h
theorem dosTexts_laid (W : World) (h : laidMet Tryd.prog Rows.dosTextsRow.laid W) : Tab W.heap.size W := tab_of h
end Go.Proofs.YtmijgcmlpdehkaaDoor
