/- The contract of the law, and the law for every argument; the statement itself: the text behind this one. -/
import Derived.Test.YtbnmdlnkhghbpaaGreatDoorRows
import Derived.Test.YtbnmdlnkhghbpaaGreatDoorTab
import Derived.Test.YtbnmdlnkhghbpaaGreatDoorG36
import Derived.Test.YtbnmdlnkhghbpaaGreatDoorG37
import Derived.Test.YtbnmdlnkhghbpaaGreatDoorCards
import Derived.Test.YtbnmdlnkhghbpaaGreatDoorTie
import Derived.ProofKit
import Derived.Lay
import Derived.LaidOnce
import Derived.SevenTiedAt
namespace Go.Proofs.YtbnmdlnkhghbpaaGreatDoor
open Go.Dr Go.Dr.T

theorem own:ownKnob Tryz.prog.godebug=none:=by kernel_rfl
theorem Qty:laidOutB Tryz.prog=true:=by kernel_rfl

theorem Qtx (av:List V) (h:Ty.vals [T6.TyEls,T6.TyInts,TyRst] av) (hs:∀ v∈av,v.short):∃ n,Qj8 T.FB1 T.md n 3 av=some (.bool true):=by
  simp only [Ty.vals] at h
  obtain ⟨f,_,rfl,hf,g,_,rfl,hg,k,_,rfl,hk,rfl⟩:=h
  obtain ⟨l,rfl⟩:=T6.els_val hf
  obtain ⟨s,rfl⟩:=T6.ints_val hg
  obtain ⟨wd,hg,px,ss,rfl,h1,h2,h3⟩:=Qt3 hk
  have hl:s.length≤9223372036854775807:=hs (.sl false s.length (Q00 s)) (by simp)
  exact Qqn rfl rfl (Qes hl h1 h2 h3) (.inl rfl)

def Qrh (H:Type):Bulk H:={ bk:=fun d=>Q6p d,bks:=fun l=>Qad l,one:=Qqr,str:=Qqq,slice:=Qj9,agg:=Qqs,nil:=rfl,cons:=fun _ _=>rfl }

def Qm6 : List (String × DataW Unit) := [("math/bits.deBruijn32tab", Rows.laid_math_bits_deBruijn32tab), ("math/bits.deBruijn64tab", Rows.laid_math_bits_deBruijn64tab), ("internal/strconv.uint64pow10", Rows.laid_internal_strconv_uint64pow10), ("unicode/utf8.acceptRanges", Rows.laid_unicode_utf8_acceptRanges), ("unicode/utf8.first", Rows.laid_unicode_utf8_first)]
theorem Qsw {W:World} (h:laidMetH Tryz.prog Qm6 W):Lib.TabIs Tryz.prog W tabN .u64 Lib.pow10Tab:=by
  rw [MakeChecks.laidMetH_plain _ _ _ (by kernel_rfl)] at h
  obtain ⟨ps,hv,_⟩:=h
  exact Qr9 (g:=3) (t:=238) (e:=193) (n:=20) (by kernel_rfl) (by kernel_rfl) (by kernel_rfl) (by kernel_rfl) (by kernel_rfl) (by kernel_rfl) hv (List.mem_iff_get.2 ⟨⟨2,by decide⟩,rfl⟩)

set_option maxRecDepth 100000 in
theorem Qbl (H:Type) (enc:TypeId × Value→H) (W:World) (base:Nat) (args:Array Value) (ds gs:List (DataW H)) (before:List MemPlace)
    (hval:∀ (j:Nat) t v,Tryz.f3.params[j]?=some t→args[j]?=some v→Value.okWide Tryz.prog W .any base t v)
    (hT:Lib.TabIs Tryz.prog W tabN .u64 Lib.pow10Tab) (hW:DataW.Whole enc Tryz.prog Tryz.f3.params.toList Rows.topSourcedSpec.vars false W args.toList ds gs before) :
    Calls Tryz.prog 3 args W fun e W'=>∃ v,e=.returned v∧Rows.topSourcedSpec.post enc Tryz.prog Tryz.f3 false true false false W args v W' :=
  Qbj (P:=Tryz.prog) (fn:=Tryz.f3) (f:=3) (spec:=Rows.topSourcedSpec) (F:=T.FB1) (md:=T.md) (bt:=4) (N:=(Qrh H).bks ds) (Ts:=[T6.TyEls,T6.TyInts,TyRst]) Qsu Qty rfl (by kernel_rfl) (by kernel_rfl) (by decide +kernel) (by kernel_rfl) (fun av h _ hs=>Qtx av h hs)
    (fun ds h=>by
      have h3:ds.length=3:=h
      match ds,h3 with
      | [d1,d2,d3],_=>rfl) (Qrh H) hval hW (Nat.le_refl _) ⟨Qsv hT,hT⟩

set_option maxRecDepth 100000 in
theorem lifted (os:Os) (started:os.Started) (H:Type) (enc:TypeId × Value→H) :
    ReturnsInHanded {} Tryz.checked os 3 .any (fun w args=>(Rows.topSourcedSpec.pre enc Tryz.prog Tryz.f3 [] false w args∧laidMetH Tryz.prog Qm6 w)∧sizedMet enc Tryz.prog Tryz.f3 (OpenSpec.ofChange Rows.topSourcedSpec) false w args)
      (Rows.topSourcedSpec.post enc Tryz.prog Tryz.f3 false true false false):=by
  refine returnsInHanded_of_change_and (C:=Tryz.checked) (X:=fun w _=>laidMetH Tryz.prog Qm6 w) (fun _ _ _ hh h=>h.of_heap hh) own started (by kernel_rfl) Tryz.func3
    (ChangeSpec.witness_shaped (enc:=enc) (C:=Tryz.checked) (os:=os) (X:=fun w _=>laidMetH Tryz.prog Qm6 w) false (World.laidAll Tryz.prog os Qm6) #[.slice none 0 0,.slice none 0 0,.agg #[.int .u8 0,.int .u8 0,.slice none 0 0,.int .u8 0]] 8 (World.laidAll_os _ _ _)
      (World.shaped_of_ZipB (by kernel_rfl) (by kernel_rfl)) (by kernel_rfl) (by kernel_rfl) (by kernel_rfl)
      (by rw [MakeChecks.laidMetH_plain _ _ _ (by kernel_rfl)];exact laidMet_laidAll _ (by kernel_rfl) (by kernel_rfl))) ?_
  intro W base args ds gs before hval hW _ _ hX _
  refine Qbl H enc W base args ds gs before hval (Qsw hX) hW

end Go.Proofs.YtbnmdlnkhghbpaaGreatDoor
