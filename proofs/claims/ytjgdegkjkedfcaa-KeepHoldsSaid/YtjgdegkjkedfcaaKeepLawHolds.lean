/- KeepHolds: of every case. (Written by wip/genholds.py.) -/
import Derived.Test.YtjgdegkjkedfcaaKeepHoldsUp
import Derived.Test.YtjgdegkjkedfcaaKeepHoldsBack
namespace Go.Proofs.Ytjgdegkjkedfcaa
open Go.RowKit

theorem holds_walk (r : R4) (now later at0 : Int) (a : Option Addr) (c : Nat) (l : List P3) (w : World) (hn : l.length ≤ 9223372036854775807) (hcap : l.length ≤ c) (hp : PcsAt w a l) :
    Calls Try.prog 5 #[.agg (caseV r now later at0 a l.length c)] w fun e w' => e = .returned (.bool true) ∧ Below w.heap.size w w' := by
  by_cases h60 : 60 < l.length
  · exact holds_big r now later at0 a c l w hn hp h60
  · have h60 : l.length ≤ 60 := by omega
    cases h1 : chkB r with
    | false => exact holds_chk r now later at0 a c l w hn hp h60 h1
    | true =>
      by_cases h2 : ordE l = 0
      · cases h3 : inB now 9007199254740992 with
        | false => exact holds_now r now later at0 a c l w hn hp h60 h1 h2 h3
        | true => cases h4 : inB later 9007199254740992 with
          | false => exact holds_later r now later at0 a c l w hn hp h60 h1 h2 h3 h4
          | true =>
            by_cases hle : now ≤ later
            · exact holds_up r now later at0 a c l w hn hp hcap h60 h1 h2 h3 h4 hle
            · exact holds_back r now later at0 a c l w hn hp hcap h60 h1 h2 h3 h4 hle
      · exact holds_ord r now later at0 a c l w hn hp h60 h1 h2
end Go.Proofs.Ytjgdegkjkedfcaa
