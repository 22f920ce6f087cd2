import Derived.Test.YteidabibgjokkaaGreatDoorMQ
import Derived.Test.YteidabibgjokkaaGreatDoorML
import Derived.Test.YteidabibgjokkaaGreatDoorCoY
import Derived.Test.YteidabibgjokkaaGreatDoorMO
import Derived.Test.YteidabibgjokkaaGreatDoorRows
import Derived.Lib.LaidTab
import Derived.MakeChecks
import Derived.Stop.LaidErr
set_option maxRecDepth 20000
set_option linter.all false
namespace Go.Proofs.YteidabibgjokkaaGreatDoor
open Go Go.RowKit Go.Proofs.YteidabibgjokkaaGreatDoor.Lift
theorem coinJust_ok (l:List Int)(hl:l.length<2 ^ 62)(hw:bW l):PCallT TabP Tryz.prog 9 [.sl (wl l)] (.b true):=by
 refine coinJust_walk tabP_st l hl ?_
 cases h:isO l
 ·exact (make_bad l h hl hw).toT
 ·exact makeT_ok l h
theorem gateT {Φ:World→Prop} {f:FuncId} {args:List V} {xs:Array Value} {w:World} (h:PCallT Φ Tryz.prog f args (.b true)) (hΦ:Φ w) (hsz:xs.size=args.length) (hr:∀ k,k<args.length→Rep (fun _=>False) w (fun _=>none) (fun _=>False) (xs.getD k undef) (args.getD k .junk)) :
  Calls Tryz.prog f xs w fun e w'=>e=.returned (.bool true)∧Below w.heap.size w w':=by
 refine (h.2 (fun _=>False) w xs hΦ (fun b hb=>hb.elim) hsz hr).mono ?_
 rintro e w' ⟨x,rfl,hst,env,_,_,_,hx⟩
 refine ⟨by rw [hx.b_inv],hst.os,hst.tape,hst.output,hst.size,fun k hk=>hst.keep k hk (fun f=>f)⟩
set_option maxRecDepth 100000 in
theorem tabP_of {W:World} (h:laidMetH Tryz.prog Rows.coinJustRow.laid W):TabP W:=by
 rw [Go.MakeChecks.laidMetH_plain _ _ _ (by kernel_rfl)] at h
 have h2:=laidMet.tail (laidMet.tail h)
 exact Lib.tabIs_of_head (g:=0) (t:=197) (e:=106) (n:=20) (by kernel_rfl) (by kernel_rfl) (by kernel_rfl) (by kernel_rfl) (by kernel_rfl) (by kernel_rfl) h2
end Go.Proofs.YteidabibgjokkaaGreatDoor
