/-
  The statement CondPlaces: for every input it returns true and leaves the input alone. Conditions: none beyond the statement's own: the listed variables of Go's library are as their text lays them (the card ties them).
-/
import Derived.Test.YtjnafjgonoficaaGreatDoorCards
import Derived.Test.YtjnafjgonoficaaGreatDoorF26
set_option linter.unusedVariables false
set_option linter.unusedSimpArgs false
namespace Go.Proofs.YtjnafjgonoficaaGreatDoor
open Go.ChangeShapes Go.WideShapes Go.ChangeAt Go.RowKit Go.WideMaps Go.WideElems
theorem condPlaces_holds:Rows.CondPlacesCardSaid :=
  Claim7.holds_tied_plain_at .later [] [.data, .data, .data, .data, .sentinel, .sentinel, .listed, .data, .pinned, .pinned] true (true, "3701fa35b9ff7a4da1d0b1a1f2e64c3bcc3a15dc6c70763b18016c7e3e30a701") true
    condPlaces_row (fun _ h=>by cases h) (by kernel_rfl) (fun _ h=>by cases h) condPlaces_row_tie rfl ⟨rfl,rfl⟩ (by kernel_rfl) rfl
    (fun f fn hf hfn=>by
      obtain rfl : f = 8 := Option.some.inj ((show Tryz.prog.funcNamed "smocking/smockinglaw03.CondPlaces" = some 8 by kernel_rfl).symm.trans hf) |>.symm
      obtain rfl:fn=Tryz.f8:=(Option.some.inj (Tryz.func8.symm.trans hfn)).symm
      exact ⟨by kernel_rfl,fun j t ht=>by
        rw [Tryz.params8] at ht
        have hm:t ∈ [9,3]:=by simpa using Array.mem_of_getElem? ht
        have hall:([9,3].all fun u => !Tryz.prog.wantsStandIn u)=true:=by kernel_rfl
        exact (show Tryz.prog.wantsStandIn t=false by simpa using List.all_eq_true.1 hall t hm)⟩)
    (by kernel_rfl)
end Go.Proofs.YtjnafjgonoficaaGreatDoor
