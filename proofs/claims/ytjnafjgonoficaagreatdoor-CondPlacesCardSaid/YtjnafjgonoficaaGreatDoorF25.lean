/-
  The contract of CondPlaces as the row asks it. Conditions: the listed variables of Go's library are as listed.
-/
import Derived.Test.YtjnafjgonoficaaGreatDoorF07
import Derived.Test.YtjnafjgonoficaaGreatDoorF24
import Derived.Test.YtjnafjgonoficaaGreatDoorF18
set_option linter.unusedVariables false
set_option linter.unusedSimpArgs false
namespace Go.Proofs.YtjnafjgonoficaaGreatDoor
open Go.ChangeShapes Go.WideShapes Go.ChangeAt Go.RowKit Go.WideMaps Go.WideElems
set_option maxRecDepth 100000 in
theorem condPlaces_lifted (os:Os) (started:os.Started) (H:Type) (enc:TypeId × Value → H) :
    ReturnsInHanded {} Tryz.checked os 8 .any (fun w args=>(Rows.condPlacesSpec.pre enc Tryz.prog Tryz.f8 Rows.condPlacesRow.domain false w args∧laidMetH Tryz.prog laidL w)∧sizedMet enc Tryz.prog Tryz.f8 (OpenSpec.ofChange Rows.condPlacesSpec) false w args)
      (Rows.condPlacesSpec.post enc Tryz.prog Tryz.f8 false true false false):=by
  refine returns_and_shaped (C:=Tryz.checked) (X:=fun w _=>laidMetH Tryz.prog laidL w) (fun _ _ _ hh h=>h.of_heap hh) own started (by kernel_rfl) Tryz.func8
    (ChangeSpec.witness_shaped (enc:=enc) (C:=Tryz.checked) (os:=os) (X:=fun w _=>laidMetH Tryz.prog laidL w) false (startW os) #[.string ⟨#[]⟩,.int .i64 0] 8 (World.laidAll_os _ _ _)
      (start_shaped os _) (by kernel_rfl) (by kernel_rfl) (by kernel_rfl) (start_met os _)) ?_
  intro W base args ds gs before hval0 hW hwt hL hsh
  have hval:∀ (j:Nat) t v,Tryz.f8.params[j]? = some t → args[j]? = some v → Value.okWide Tryz.prog W .any base t v:=hval0
  have hW':=hW
  obtain ⟨p,q,hA0,hV,rfl,_,_⟩:=hW
  have hA:DataW.TrodAll enc Tryz.prog W 0 (fun _=>true) true Tryz.f8.params.toList args.toList ds p:=hA0
  rw [Tryz.params8] at hA hval
  obtain ⟨v0,v1,d0,d1,p0,p1,rfl,rfl,rfl,h0,h1⟩:=trodAll_two hA
  obtain ⟨rfl,rfl⟩:=trodVars_none hV
  obtain ⟨s0,rfl,rfl,rfl,ws0⟩:=Go.ChangeMaps.open_string Tryz.underlying9 (hval 0 9 v0 rfl rfl) h0
  obtain ⟨x1,rfl,rfl,rfl,wx1⟩:=open_int Tryz.underlying3 (hval 1 3 v1 rfl rfl) h1
  clear hA0 hval0
  refine (condPlaces_calls s0 x1 W (laid_of hsh hL) aw_calls).mono fun e W' ⟨he,hb⟩ => ?_
  subst he
  exact ⟨_,rfl,_,_,_,[],[] ++ [],[],hW',trodAll_mk1 (shut_bool Tryz.underlying4 _),trodAll_mk2 (Go.ChangeMaps.shut_string Tryz.underlying9 ws0) (shut_int Tryz.underlying3 wx1),rfl,hb.frame _,fun h=>by cases h⟩
end Go.Proofs.YtjnafjgonoficaaGreatDoor
