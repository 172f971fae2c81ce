/- Laid together from: DrL9, Bar. -/
import Derived.Test.YtiafchefbehfbaaGreatDoorRows
import Derived.Test.YtiafchefbehfbaaGreatDoorDriveTellsB46
import Derived.Lib.LaidTab
import Derived.MakeChecks
import Derived.Stop.LaidErr
import Derived.LaidLaws
import Derived.Shelf.Vars
import Derived.Deep.DeepHandedRow
import Derived.Lay
import Derived.JoinedOf

namespace Go.Proofs.YtiafchefbehfbaaGreatDoor
open Go.ChangeShapes Go.WideShapes Go.ChangeAt Go.RowKit
theorem Qgb : "*" ++ "errors.errorString" = "*errors.errorString" := by decide
theorem Qki (u : TypeId) (h : Tryz.prog.typeName? 3 u = some "*errors.errorString") : u = 214 :=
 typeName_ptr_named (nm := "errors.errorString") (by rw [Qgb]; kernel_rfl) (by kernel_rfl) (by decide) u (by rw [Qgb]; exact h)
set_option maxRecDepth 100000 in
theorem Qmd {W:World} (h:laidMetH Tryz.prog Rows.driveTellsUptoRow.laid W) (hs:W.ShapedOpen Tryz.prog):Tab9 W:=by
 rw [MakeChecks.laidMetH_plain _ _ _ (by kernel_rfl)] at h
 have h3:=h.tail.tail
 have h5:=h3.tail.tail
 have h6:=h5.tail
 have h8:=h6.tail.tail
 refine ⟨⟨?_,?_⟩,?_,?_,?_⟩
 ·exact Lib.tabIs_of_head (g:=1) (t:=193) (by kernel_rfl) (by kernel_rfl) Tryz.underlying193 Tryz.underlying5 (by kernel_rfl) (by kernel_rfl) h8
 ·exact Lib.tabIs_of_head (g:=6) (t:=206) (by kernel_rfl) (by kernel_rfl) Tryz.underlying206 Tryz.underlying149 (by kernel_rfl) (by kernel_rfl) h3
 ·exact cell_of_shapedOpen_int (zero:=#[.int .i64 0]) (t:=3) hs (of_decide_eq_true (by kernel_rfl)) (by kernel_rfl) rfl (by kernel_rfl) (by kernel_rfl) Tryz.underlying3
 ·obtain ⟨a,s,hv,-,-,-⟩:=laid_sentinel (g:=4) h6 (by kernel_rfl) (by kernel_rfl) Tryz.underlying129 Qki Tryz.underlying214 Tryz.underlying216 rfl rfl Tryz.underlying9 (by kernel_rfl) (by kernel_rfl)
  exact ⟨_,by simpa using World.var?_cell (by kernel_rfl) hv 0,.inr ⟨_,_,rfl⟩⟩
 ·obtain ⟨a,s,hv,-,-,-⟩:=laid_sentinel (g:=5) h5 (by kernel_rfl) (by kernel_rfl) Tryz.underlying129 Qki Tryz.underlying214 Tryz.underlying216 rfl rfl Tryz.underlying9 (by kernel_rfl) (by kernel_rfl)
  exact ⟨_,by simpa using World.var?_cell (by kernel_rfl) hv 0,.inr ⟨_,_,rfl⟩⟩
theorem Qls {H:Type} {enc:TypeId × Value→H} {C:Checked} {os:Os} {f:FuncId} {fn:Func} {s:OpenSpec} {conds:List PathCond} {apart:Bool} {laid:List (String × DataW Unit)} (modest:Bool) (args:Array Value)
  (hsh:((World.laidAll C.prog os laid).forCall (fun _ _=>0) ⟨#[],args,[]⟩).Shaped C.prog)
  (hok:Input.okWideB C.prog ((World.laidAll C.prog os laid).forCall (fun _ _=>0) ⟨#[],args,[]⟩) f ⟨#[],args,[]⟩=true)
  (hrow:s.preRow enc C.prog fn conds apart laid ((World.laidAll C.prog os laid).forCall (fun _ _=>0) ⟨#[],args,[]⟩).memory args) :
  ∃ (w:World) (tape:Tape) (i:Input),w.os=os∧(w.forCall tape i).Shaped C.prog∧i.vars=[]∧Input.okWide C.prog (w.forCall tape i) .any w.heap.size f i ∧
   s.preRow enc C.prog fn conds apart laid (w.forCall tape i).memory i.args∧({ modest:=modest }:Assume).holds C.prog (lone (Frame.enter C.prog f i.args .normal) [] (w.forCall tape i)) :=
 ⟨World.laidAll C.prog os laid,fun _ _=>0,⟨#[],args,[]⟩,World.laidAll_os _ _ _,hsh,(Input.okWide_of_okWideB (base:=0) hok).1,(Input.okWide_of_okWideB hok).2,hrow,by
  simp only [Assume.holds]
  exact ⟨by simp,by simp,fun _=>Modest.zero,by simp,by simp⟩⟩
end Go.Proofs.YtiafchefbehfbaaGreatDoor

namespace Go.Proofs.YtiafchefbehfbaaGreatDoor
open Go
theorem Qvt:Tryz.pinned.checked.prog.mayEnter=true:=by decide +kernel
theorem Qvs:Tryz.pinned.checked.prog.liftsFinal=false:=by decide +kernel
theorem Qvr:(Tryz.pinned.checked.prog.make == some Make.cut)=true:=by decide +kernel
end Go.Proofs.YtiafchefbehfbaaGreatDoor
