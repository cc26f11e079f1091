/- Chapter 08: arguments as votes. -/
import Derived.Test.YthihdpbgmhnloaaGreatDoorG2
import Derived.Test.YthihdpbgmhnloaaGreatDoorDrE
import Derived.Test.YthihdpbgmhnloaaGreatDoorR08Fb
import Derived.Test.YthihdpbgmhnloaaGreatDoorG0
import Derived.Lib.LaidTab
namespace Go.Dr.T
theorem hasInt {l:List V} (h:(Ty.int .i64).has l):∃ n:Int,l=[.int .i64 n]:=by
 simp only [Ty.has] at h
 obtain ⟨n,rfl,h1,h2⟩:=h
 exact ⟨n,rfl⟩
theorem hasStr {l:List V} (h:Ty.str.has l):∃ s,l=[.str s]:=by
 simpa only [Ty.has] using h
theorem hasBool {l:List V} (h:Ty.bool.has l):∃ b,l=[.bool b]:=by
 simpa only [Ty.has] using h
theorem int_val {v:V} (h:(Ty.int .i64).val v):∃ n,v = .int .i64 n:=by
 obtain ⟨n,e⟩:=hasInt (l:=[v]) h
 simp only [List.cons.injEq,and_true] at e
 exact ⟨n,e⟩
abbrev TyVt:Ty:=.agg [.str,.int .i64,.bool]
theorem vt_all {l:List V} (h:Ty.hasAll [.str,.int .i64,.bool] l):∃ x:Vt,l=[.str x.who,.int .i64 x.step,.bool x.yes]:=by
 simp only [Ty.hasAll] at h
 obtain ⟨a,b,rfl,ha,c,d,rfl,hc,e,f,rfl,he,rfl⟩:=h
 obtain ⟨s,rfl⟩:=hasStr ha
 obtain ⟨n,rfl⟩:=hasInt hc
 obtain ⟨y,rfl⟩:=hasBool he
 exact ⟨⟨s,n,y⟩,rfl⟩
theorem vts_cells:∀ {xs:List (List V)},(∀ x∈xs,x.length=3∧TyVt.has x)→∃ l:List Vt,xs.flatten=vtC l∧xs.length=l.length
 | [],_=>⟨[],rfl,rfl⟩
 | x :: xs,h=>by
  obtain ⟨l,h1,h2⟩:=vts_cells (xs:=xs) fun y hy=>h y (by simp [hy])
  obtain ⟨_,hx⟩:=h x (by simp)
  obtain ⟨y,rfl⟩:=vt_all (by simpa only [Ty.has] using hx)
  exact ⟨y :: l,by simp only [List.flatten_cons,h1];rfl,by simp [h2]⟩
abbrev TyVts:Ty:=.slice 3 TyVt
theorem vts_val {v:V} (h:TyVts.val v):∃ l:List Vt,v = .sl false l.length (vtC l):=by
 rw [TyVts] at h
 simp only [Ty.val] at h
 rw [Ty.has] at h
 obtain ⟨xs,e,hx⟩:=h
 simp only [List.cons.injEq,and_true] at e
 subst e
 obtain ⟨l,h1,h2⟩:=vts_cells (xs:=xs) hx
 exact ⟨l,by rw [h1,h2]⟩
theorem vts_has {l:List V} (h:TyVts.has l):∃ m:List Vt,l=[.sl false m.length (vtC m)]:=by
 rw [TyVts,Ty.has] at h
 obtain ⟨xs,e,hx⟩:=h
 obtain ⟨m,h1,h2⟩:=vts_cells (xs:=xs) hx
 exact ⟨m,by rw [e,h1,h2]⟩
theorem vt_val {v:V} (h:TyVt.val v):∃ x:Vt,v = .agg [.str x.who,.int .i64 x.step,.bool x.yes]:=by
 simp only [TyVt,Ty.val] at h
 obtain ⟨l,rfl,h⟩:=h
 obtain ⟨x,rfl⟩:=vt_all h
 exact ⟨x,rfl⟩
abbrev TyBal:Ty:=.agg [.int .i64,TyVts,.int .i64]
theorem bal_val {v:V} (h:TyBal.val v):∃ (n need:Int) (m:List Vt),v = .agg [.int .i64 n,.sl false m.length (vtC m),.int .i64 need]:=by
 simp only [TyBal,Ty.val] at h
 obtain ⟨l,rfl,h⟩:=h
 simp only [Ty.hasAll] at h
 obtain ⟨a,b,rfl,ha,c,d,rfl,hc,e,f,rfl,he,rfl⟩:=h
 obtain ⟨n,rfl⟩:=hasInt ha
 obtain ⟨m,rfl⟩:=vts_has hc
 obtain ⟨y,rfl⟩:=hasInt he
 exact ⟨n,y,m,rfl⟩
theorem u8_val {v:V} (h:(Ty.int .u8).val v):∃ n:Int,v = .int .u8 n∧0≤n∧n≤255:=by
 simp only [Ty.val,Ty.has] at h
 obtain ⟨n,e,h1,h2⟩:=h
 simp only [List.cons.injEq,and_true] at e
 exact ⟨n,e,h1,h2⟩
end Go.Dr.T
namespace Go.Dr.T
theorem bytes_cells:∀ {xs:List (List V)},(∀ x∈xs,x.length=1∧(Ty.int .u8).has x)→∃ l:List UInt8,xs.flatten=ofBytes l∧xs.length=l.length
 | [],_=>⟨[],rfl,rfl⟩
 | x :: xs,h=>by
  obtain ⟨l,h1,h2⟩:=bytes_cells (xs:=xs) fun y hy=>h y (by simp [hy])
  obtain ⟨_,hx⟩:=h x (by simp)
  simp only [Ty.has] at hx
  obtain ⟨n,rfl,h3,h4⟩:=hx
  simp only [IntKind.min,IntKind.max,IntKind.signed,IntKind.bits,Bool.false_eq_true,if_false] at h3 h4
  have h4' : n≤255:=by simpa using h4
  refine ⟨UInt8.ofNat n.toNat :: l,?_,by simp [h2]⟩
  have e:((UInt8.ofNat n.toNat).toNat:Int)=n:=by
   rw [UInt8.toNat_ofNat_of_lt' (by show n.toNat<256;omega)];omega
  simp only [List.flatten_cons,h1,ofBytes,e];rfl
theorem hasBytes {l:List V} (h:(Ty.slice 1 (.int .u8)).has l):∃ p:List UInt8,l=[.sl false p.length (ofBytes p)]:=by
 rw [Ty.has] at h
 obtain ⟨xs,rfl,hx⟩:=h
 obtain ⟨p,h1,h2⟩:=bytes_cells hx
 exact ⟨p,by rw [h1,h2]⟩
abbrev TyFm:Ty:=.agg [.int .i64,.int .i64,.slice 1 (.int .u8)]
theorem fm_all {l:List V} (h:Ty.hasAll [.int .i64,.int .i64,.slice 1 (.int .u8)] l):∃ f:Fm,l=[.int .i64 f.w,.int .i64 f.h,.sl f.c f.p.length (ofBytes f.p)]:=by
 simp only [Ty.hasAll] at h
 obtain ⟨a,b,rfl,ha,c,d,rfl,hc,e,f,rfl,he,rfl⟩:=h
 obtain ⟨w,rfl⟩:=hasInt ha
 obtain ⟨h,rfl⟩:=hasInt hc
 obtain ⟨p,rfl⟩:=hasBytes he
 exact ⟨⟨false,w,h,p⟩,rfl⟩
theorem fms_cells:∀ {xs:List (List V)},(∀ x∈xs,x.length=3∧TyFm.has x)→∃ l:List Fm,xs.flatten=fmC l∧xs.length=l.length
 | [],_=>⟨[],rfl,rfl⟩
 | x :: xs,h=>by
  obtain ⟨l,h1,h2⟩:=fms_cells (xs:=xs) fun y hy=>h y (by simp [hy])
  obtain ⟨_,hx⟩:=h x (by simp)
  obtain ⟨y,rfl⟩:=fm_all (by simpa only [Ty.has] using hx)
  exact ⟨y :: l,by simp only [List.flatten_cons,h1];rfl,by simp [h2]⟩
abbrev TyFms:Ty:=.slice 3 TyFm
theorem fms_val {v:V} (h:TyFms.val v):∃ l:List Fm,v = .sl false l.length (fmC l):=by
 rw [TyFms] at h
 simp only [Ty.val] at h
 rw [Ty.has] at h
 obtain ⟨xs,e,hx⟩:=h
 simp only [List.cons.injEq,and_true] at e
 subst e
 obtain ⟨l,h1,h2⟩:=fms_cells (xs:=xs) hx
 exact ⟨l,by rw [h1,h2]⟩
abbrev TyBx:Ty:=.agg [.int .i64,.int .i64,.int .i64,.int .i64]
theorem bx_all {l:List V} (h:Ty.hasAll [.int .i64,.int .i64,.int .i64,.int .i64] l):∃ x:Bx,l=bxV x:=by
 simp only [Ty.hasAll] at h
 obtain ⟨a,b,rfl,ha,c,d,rfl,hc,e,f,rfl,he,g,i,rfl,hg,rfl⟩:=h
 obtain ⟨w,rfl⟩:=hasInt ha
 obtain ⟨h,rfl⟩:=hasInt hc
 obtain ⟨p,rfl⟩:=hasInt he
 obtain ⟨q,rfl⟩:=hasInt hg
 exact ⟨⟨w,h,p,q⟩,rfl⟩
theorem bxs_cells:∀ {xs:List (List V)},(∀ x∈xs,x.length=4∧TyBx.has x)→∃ l:List Bx,xs.flatten=bxC l∧xs.length=l.length
 | [],_=>⟨[],rfl,rfl⟩
 | x :: xs,h=>by
  obtain ⟨l,h1,h2⟩:=bxs_cells (xs:=xs) fun y hy=>h y (by simp [hy])
  obtain ⟨_,hx⟩:=h x (by simp)
  obtain ⟨y,rfl⟩:=bx_all (by simpa only [Ty.has] using hx)
  exact ⟨y :: l,by simp only [List.flatten_cons,h1];rfl,by simp [h2]⟩
theorem hasBxs {l:List V} (h:(Ty.slice 4 TyBx).has l):∃ p:List Bx,l=[.sl false p.length (bxC p)]:=by
 rw [Ty.has] at h
 obtain ⟨xs,rfl,hx⟩:=h
 obtain ⟨p,h1,h2⟩:=bxs_cells hx
 exact ⟨p,by rw [h1,h2]⟩
abbrev TySp:Ty:=.agg [.int .i64,.int .i64,.int .i64,.slice 4 TyBx,.int .i64,.int .i64,.int .i64,.slice 1 (.int .u8)]
theorem sp_all {l:List V} (h:Ty.hasAll [.int .i64,.int .i64,.int .i64,.slice 4 TyBx,.int .i64,.int .i64,.int .i64,.slice 1 (.int .u8)] l):∃ s:Sp,l=spV s:=by
 simp only [Ty.hasAll] at h
 obtain ⟨a1,b1,rfl,h1,a2,b2,rfl,h2,a3,b3,rfl,h3,a4,b4,rfl,h4,a5,b5,rfl,h5,a6,b6,rfl,h6,a7,b7,rfl,h7,a8,b8,rfl,h8,rfl⟩:=h
 obtain ⟨n1,rfl⟩:=hasInt h1
 obtain ⟨n2,rfl⟩:=hasInt h2
 obtain ⟨n3,rfl⟩:=hasInt h3
 obtain ⟨n4,rfl⟩:=hasBxs h4
 obtain ⟨n5,rfl⟩:=hasInt h5
 obtain ⟨n6,rfl⟩:=hasInt h6
 obtain ⟨n7,rfl⟩:=hasInt h7
 obtain ⟨n8,rfl⟩:=hasBytes h8
 exact ⟨⟨n1,n2,n3,false,n4,n5,n6,n7,false,n8⟩,rfl⟩
theorem sp_val {v:V} (h:TySp.val v):∃ s:Sp,v = .agg (spV s):=by
 rw [TySp] at h
 simp only [Ty.val] at h
 obtain ⟨l,rfl,h⟩:=h
 obtain ⟨s,rfl⟩:=sp_all h
 exact ⟨s,rfl⟩
end Go.Dr.T
namespace Go.Dr.T
theorem tab_mono {P:Program} {name:String} {kk:IntKind} {zs:List Int} {g:Nat} (hg:P.globalNamed name=some g) {w w' : World} (h:Go.RowKit.Below (g+1) w w') (t:Lib.TabIs P w name kk zs):Lib.TabIs P w' name kk zs:=by
 unfold Lib.TabIs World.var? at t ⊢
 rw [hg] at t ⊢
 simp only [Option.bind_some] at t ⊢
 rw [h.block g (Nat.lt_succ_self g)]
 exact t
theorem tab_size {P:Program} {name:String} {kk:IntKind} {zs:List Int} {g:Nat} (hg:P.globalNamed name=some g) {w:World} (t:Lib.TabIs P w name kk zs):g+1≤w.heap.size:=by
 unfold Lib.TabIs World.var? at t
 rw [hg] at t
 simp only [Option.bind_some] at t
 split at t
 ·rename_i h
  exact (Array.getElem?_eq_some_iff.1 h).1
 ·cases t
theorem tab_in {P:Program} {W:World} {name:String} {kk:IntKind} {zs:List Int} {g t e n:Nat}
  (hg:P.globalNamed name=some g) (hty:(P.globals[g]?).map (·.type)=some t) (ht:P.underlying t=some (.array n e)) (he:P.underlying e=some (.int kk)) (hce:P.cellsOf e=1) (hct:P.cellsOf t=n) :
  ∀ {l:List (String × DataW Unit)} {ps:List MemPlace},DataW.LaidVars P W l ps→(name,Lib.tabData kk zs)∈l→Lib.TabIs P W name kk zs
 | [],_,_,hm=>by cases hm
 | (n', d) :: l,ps,h,hm=>by
  obtain ⟨g', t', cs,fuel,p,q,hg', ht', hvar,hd,hr,_⟩:=h
  rcases List.mem_cons.1 hm with e0 | hm
  ·cases e0
   obtain rfl:=Option.some.inj (hg.symm.trans hg')
   obtain rfl:=Option.some.inj (hty.symm.trans ht')
   unfold Lib.TabIs
   rw [hvar, ← Lib.cells_of_tab ht he hce hct hd]
  ·exact tab_in hg hty ht he hce hct hr hm
end Go.Dr.T
