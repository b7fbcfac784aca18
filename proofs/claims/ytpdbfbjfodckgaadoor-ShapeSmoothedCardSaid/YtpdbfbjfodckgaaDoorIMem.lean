/- Words for memory: a slice of numbers that is read (for a seat without sets of variables). -/
import Derived.Test.YtpdbfbjfodckgaaDoorVWalk4
namespace Go.Proofs.YtpdbfbjfodckgaaDoor
end Go.Proofs.YtpdbfbjfodckgaaDoor
