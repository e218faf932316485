/- A version, in plain words. -/
import Derived.Test.YtpdbdobckjolkaaDoorRefTab
namespace Go.Proofs.YtpdbdobckjolkaaDoor
structure Ver where
  e : Int
  n : Int
  l : Int
  g : Int
  ts : List Tab
end Go.Proofs.YtpdbdobckjolkaaDoor
