/- the closed answers of awake. -/
import Derived.Test.YtmmlnnbnbgaogaaDoorRuQ
namespace Go.Proofs.YtmmlnnbnbgaogaaDoor.Ru

def x21 : Opr := { I := [50, 49], V := 0, W := 0, F := [48], T := [48], E := 0 }
def xNo : Opr := { I := [], V := 0, W := 0, F := [], T := [], E := 0 }
set_option maxRecDepth 100000
theorem aw1 : pickAns [111, 110, 101, 58, 32, 110, 32, 37, 32, 49, 48, 32, 61, 32, 49, 32, 97, 110, 100, 32, 110, 32, 37, 32, 49, 48, 48, 32, 33, 61, 32, 49, 49] x21 = (1, 0) := by decide +kernel
theorem aw2 : pickAns [111, 110, 101, 58, 32, 110, 32, 61, 32, 49] xNo = (0, 92) := by decide +kernel
theorem aw3 : rangeAns [111, 110, 101, 43, 111, 116, 104, 101, 114, 58, 32, 102, 101, 119] 1 5 = (3, 0) := by decide +kernel
theorem aw4 : rangeAns [] 6 0 = (0, 1) := by decide +kernel
theorem aw5 : (pickedT [111, 116, 104, 101, 114, 58, 32, 110, 32, 61, 32, 49] zeroX).2 = 90 := by decide +kernel
theorem aw6 : (pickedT [] zeroX).2 = 0 := by decide +kernel
theorem aw7 : (entAns [111, 110, 101, 58, 32, 111, 110, 101]).1 = 90 := by decide +kernel
theorem aw8 : (entAns []).1 = 0 := by decide +kernel
end Go.Proofs.YtmmlnnbnbgaogaaDoor.Ru
