/- The driver: small steps as far as they go; what it leaves is told in one proposition. -/
import Derived.Test.YtmoppmfbfpjdnaaGreatEncs
import Derived.Test.YtmoppmfbfpjdnaaGreatEq
import Derived.Test.YtmoppmfbfpjdnaaGreatOwn4
namespace Go.Proofs.YtmoppmfbfpjdnaaGreat
open Go.RowKit
open R (In64 InU64 lo64)
theorem R.ohm {P : Prop} (h : P := by first | assumption | exact R.Own.drew (by assumption)) : P := h
theorem R.upds {P : Prop} (h : P := by ((repeat (first | exact R.Upd.head | apply R.Upd.tail)); (first | done | fail))) : P := h
theorem R.memb {P : Prop} (h : P := by ((repeat (first | exact List.Mem.head _ | apply List.Mem.tail)); (first | done | fail))) : P := h
theorem R.rdd {P : Prop} (h : P := by first | exact R.Own.rd R.ohm R.memb | exact R.Own.rdIn R.ohm (by assumption) | assumption) : P := h
theorem R.om {P : Prop} (h : P := by first | omega | (simp; done) | (simp; omega)) : P := h
theorem R.prem {P : Prop} (h : P := by ((try dsimp only); (repeat' (first | exact True.intro | (with_reducible refine And.intro ?_ ?_) | (with_reducible assumption) | exact R.Own.inp R.ohm R.memb | exact R.Own.inpIn R.ohm (by assumption) | omega | (unfold R.In64; omega) | (unfold R.InU64; omega) | rfl | (simp; done))); done)) : P := h
end Go.Proofs.YtmoppmfbfpjdnaaGreat
