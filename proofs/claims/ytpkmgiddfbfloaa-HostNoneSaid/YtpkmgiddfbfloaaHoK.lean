/- What the least chip tells of itself, reckoned out: numbers alone; no condition. -/
import Derived.Test.YtpkmgiddfbfloaaXHox
import Derived.Test.YtpkmgiddfbfloaaHoF
namespace Go.Proofs.Ytpkmgiddfbfloaa.XHo
open Go.RowKit Go.Proofs.YtpkmgiddfbfloaaX.PrintWords
/-- What it tells. -/
def leastP : ByteArray := ⟨#[84, 66, 1, 8, 0, 0, 0, 4, 0, 0, 0, 64, 0, 0, 0, 32, 0, 0, 0, 0, 250, 116, 122, 179, 84, 66, 1, 8, 0, 0, 0, 4, 0, 0, 0, 64, 0, 0, 0, 32, 0, 0, 0, 0, 250, 116, 122, 179, 84, 66, 1, 8, 0, 0, 0, 4, 0, 0, 0, 64, 0, 0, 0, 32, 0, 0, 0, 0, 250, 116, 122, 179]⟩
theorem least_param : bus_Param.f 1000 8 4 64 = some leastP := by decide +kernel
theorem least_size : leastP.size = 72 := by decide +kernel
theorem least_copy : Copy 1000 (leastP.extract 0 24) 8 4 64 true := ⟨
  ⟨#[84, 66, 1]⟩, ⟨#[8, 0, 0, 0, 4, 0, 0, 0, 64, 0, 0, 0, 32, 0, 0, 0, 0, 250, 116, 122, 179]⟩, 0, 8, ⟨#[4, 0, 0, 0, 64, 0, 0, 0, 32, 0, 0, 0, 0, 250, 116, 122, 179]⟩, 0, 4, ⟨#[64, 0, 0, 0, 32, 0, 0, 0, 0, 250, 116, 122, 179]⟩, 0, 64, ⟨#[32, 0, 0, 0, 0, 250, 116, 122, 179]⟩, 0, 32, ⟨#[0, 0, 0, 250, 116, 122, 179]⟩, 0, 3011147002, 3011147002, ⟨#[]⟩, 0,
  by decide +kernel, by decide +kernel, by decide +kernel, by decide +kernel, by decide +kernel, by decide +kernel, by decide +kernel, by decide +kernel, by decide +kernel, by decide +kernel, by decide +kernel⟩
end Go.Proofs.Ytpkmgiddfbfloaa.XHo
