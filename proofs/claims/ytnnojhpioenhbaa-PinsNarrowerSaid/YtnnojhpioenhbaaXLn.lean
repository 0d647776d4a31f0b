/- The law PinsNarrower. -/
import Derived.Test.YtnnojhpioenhbaaXLmt
import Derived.Test.YtnnojhpioenhbaaXLmf
namespace Go.Proofs.Ytnnojhpioenhbaa
open Go.RowKit Go.Shelf

theorem pinsNarrower_c (pa : Option Addr) (pc : Nat) (ya : Option Addr) (yc : Nat) (la : Option Addr) (lc : Nat) (sa : Option Addr) (sc : Nat) (B : Bd) (R : Rd) (pl : Bool) (n3 n4 n5 n6 : Nat) (w : World) (hworks : WorksC) (hb : BdAt w pa ya B) (hr : RdAt w la sa R) (hln : la = none → lc = 0) (hlm : R.plumbs.length ≤ lc) (hsn : sa = none → sc = 0) (hsm : R.slots.length ≤ sc) (w3 : n3 < 256) (w4 : n4 < 256) (w5 : n5 < 65536) (w6 : n6 < 65536) :
    Calls Try.prog 10 #[.agg #[.slice pa B.pins.length pc, .slice ya B.pays.length yc], .agg #[.slice la R.plumbs.length lc, .slice sa R.slots.length sc], .bool pl, .int .u8 (n3 : Int), .int .u8 (n4 : Int), .int .u16 (n5 : Int), .int .u16 (n6 : Int)] w (TellB w true) := by
  cases pl
  · exact pinsNarrower_f pa pc ya yc la lc sa sc B R n3 n4 n5 n6 w hworks hb hr hln hlm hsn hsm w3 w4 w5 w6
  · exact pinsNarrower_t pa pc ya yc la lc sa sc B R n3 n4 n5 n6 w hworks hb hr hln hlm hsn hsm w3 w4 w5 w6

end Go.Proofs.Ytnnojhpioenhbaa
