/- Top, of chapter 07: Check, Same. -/
import Derived.Test.YthoefcibbdfakaaGreatDoorG18
namespace Go.Dr.T7
abbrev frV (w h:Int) (c:Bool) (l:List UInt8):V:=.agg [.int .i64 w,.int .i64 h,.sl c l.length (ofBytes l)]
def checkL (w h:Int) (n:Nat):Int:=if w<1∨48<w∨h<1∨48<h then 7 else if (n:Int)=w * h then 0 else 2
theorem Ql2 {w h:Int}:1≤w→w≤48→1≤h→h≤48→1≤w * h∧w * h≤2304:=by
 intro h1 h2 h3 h4
 have a:=Int.mul_le_mul h2 h4 (by omega) (by omega)
 have b:=Int.mul_le_mul h1 h3 (by omega) (by omega)
 omega
theorem Q2c (w h:Int) (c:Bool) (l:List UInt8):Fun F md 26 [frV w h c l] (.int .i64 (checkL w h l.length)):=by
 have hm := @Ql2 w h
 refine Q07 rfl rfl ?_
 repeat' (first
 | (conv=>whnf)
   first
   | refine Br.t ?_
   | (refine Br.decT ?_ ?_;(focus first | assumption | omega))
   | (refine Br.decF ?_ ?_;(focus first | assumption | omega))
   | refine Br.dec (fun _ => ?_) (fun _ => ?_)
   | refine Br.not ?_
   | refine Br.or ?_
   | (refine Bnd.i64 ?_ ?_ ?_;(focus omega);(focus omega))
   | refine Q00 rfl rfl (Q6t _ _ _) (.inl rfl) ?_
   | refine Get.mk _ rfl ?_
   | refine Leaves.of ?_
   | refine Vw.int ?_
   | (refine Req.mk ?_ ?_;(focus first | rfl | decide | exact ⟨rfl,rfl⟩ | exact ⟨rfl,by decide⟩ | exact (fun _=>rfl) | exact (fun h=>nomatch h) | (simp;done) | omega | (simp [big];done) | exact Q02 (by omega) | exact Q01 (by omega))))
 all_goals (unfold checkL;split <;> (try omega) <;> (try split) <;> omega)
theorem checkR_any (w h:Int) (c:Bool) (l:List UInt8):Fun F md 4 [frV w h c l] (.int .i64 (checkL w h l.length)):=by
 have hm := @Ql2 w h
 refine Q07 rfl rfl ?_
 repeat' (first
 | (conv=>whnf)
   first
   | refine Br.t ?_
   | (refine Br.decT ?_ ?_;(focus first | assumption | omega))
   | (refine Br.decF ?_ ?_;(focus first | assumption | omega))
   | refine Br.dec (fun _ => ?_) (fun _ => ?_)
   | refine Br.not ?_
   | refine Br.and ?_
   | (refine Bnd.i64 ?_ ?_ ?_;(focus omega);(focus omega))
   | refine Q00 rfl rfl (Qjf _ _ _) (.inl rfl) ?_
   | refine Get.mk _ rfl ?_
   | refine Leaves.of ?_
   | refine Vw.int ?_
   | (refine Req.mk ?_ ?_;(focus first | rfl | decide | exact ⟨rfl,rfl⟩ | exact ⟨rfl,by decide⟩ | exact (fun _=>rfl) | exact (fun h=>nomatch h) | (simp;done) | omega | (simp [big];done) | exact Q02 (by omega) | exact Q01 (by omega))))
 all_goals (unfold checkL;split <;> (try omega) <;> (try split) <;> omega)
theorem sameR_any (w h:Int) (c:Bool) (l:List UInt8) (w' h' : Int) (c' : Bool) (l' : List UInt8):Fun F md 9 [frV w h c l,frV w' h' c' l'] (.bool (decide (w=w') && decide (h=h') && (l == l'))):=by
 refine Q07 rfl rfl ?_
 repeat' (first
 | (conv=>whnf)
   first
   | refine Br.f ?_
   | (refine Br.decT ?_ ?_;(focus first | assumption | omega))
   | (refine Br.decF ?_ ?_;(focus first | assumption | omega))
   | refine Br.dec (fun _ => ?_) (fun _ => ?_)
   | (refine Req.mk ?_ ?_;(focus rw [Q0f,Nat.mul_one]))
   | refine Get.mk _ (Q3m _) ?_
   | refine Get.mk _ rfl ?_
   | refine Leaves.of ?_
   | refine Vw.bool ?_
   | (refine Req.mk ?_ ?_;(focus first | rfl | decide | exact ⟨rfl,rfl⟩ | exact ⟨rfl,by decide⟩ | exact (fun _=>rfl) | exact (fun h=>nomatch h) | (simp;done) | omega | (simp [big];done) | exact Q02 (by omega) | exact Q01 (by omega))))
 all_goals simp_all
end Go.Dr.T7
namespace Go.Dr.T7
theorem Qr2 {l:List UInt8} {i:Nat} (h:i<l.length):Q0h (ofBytes l) (i * 1)=some (.int .u8 l[i].toNat):=by rw [Nat.mul_one];exact Q2j h
theorem Q6i {e:Int} (h1:0≤e) (h2:e≤255):IntKind.u8.wrap e=e:=by
 unfold IntKind.wrap
 simp only [IntKind.bits,IntKind.signed,Bool.false_and,Bool.false_eq_true,if_false]
 omega
theorem Bnd.u8 {e:Int} {P:Int→Prop} (h1:0≤e) (h2:e≤255) (h:P e):Bnd (IntKind.u8.wrap e) P:=Bnd.eq (Q6i h1 h2) h
theorem Qm1 {W H:Nat} {c:Bool} {l:List UInt8} {x y:Nat} (hW:W≤48) (hH:H≤48) (hx:x<W) (hy:y<H) (hl:l.length=W * H) (hil:y * W+x<l.length) :
  Fun F md 12 [frV W H c l,.int .i64 x,.int .i64 y] (.tup [.int .i64 l[y * W+x].toNat,.bool true]):=by
 have hm:(0:Int)≤(y:Int) * W∧(y:Int) * W≤2304:=by
  have:=Nat.mul_le_mul (show y≤48 by omega) hW
  omega
 have hb:=l[y * W+x].toNat_lt
 refine Q07 rfl rfl ?_
 repeat' (first
 | (conv=>whnf)
   first
   | (refine Br.decT ?_ ?_;(focus first | assumption | omega))
   | refine Br.not ?_
   | (refine Bnd.i64 ?_ ?_ ?_;(focus omega);(focus omega))
   | refine Q00 rfl rfl (Qjf _ _ _) (.inl rfl) ?_
   | refine Get.mk _ (Qr2 hil) ?_
   | (refine Idx.nat ?_ ?_;(focus omega))
   | refine Get.mk _ rfl ?_
   | refine Leaves.of ?_
   | refine Vw.bool ?_
   | refine Vw.int ?_
   | refine Vw.tup ?_
   | refine VwL.cons ?_ ?_
   | refine VwL.nil
   | (refine Req.mk ?_ ?_;(focus first | rfl | decide | exact ⟨rfl,rfl⟩ | exact ⟨rfl,by decide⟩ | exact (fun _=>rfl) | exact (fun h=>nomatch h) | (simp;done) | omega | (simp [big];done) | exact Q02 (by omega) | exact Q01 (by omega))))
 all_goals rfl
theorem Qia {w h:Int} {c:Bool} {l:List UInt8} {x y:Int} (hw:0≤w∧w≤48) (hh:0≤h∧h≤48) (ho:¬ (0≤x∧x<w∧0≤y∧y<h)) :
  Fun F md 12 [frV w h c l,.int .i64 x,.int .i64 y] (.tup [.int .i64 0,.bool false]):=by
 refine Q07 rfl rfl ?_
 repeat' (first
 | (conv=>whnf)
   first
   | refine Br.t ?_
   | (refine Br.decT ?_ ?_;(focus first | assumption | omega))
   | (refine Br.decF ?_ ?_;(focus first | assumption | omega))
   | refine Br.dec (fun _ => ?_) (fun _ => ?_)
   | refine Br.not ?_
   | refine Br.and ?_
   | (refine Bnd.i64 ?_ ?_ ?_;(focus omega);(focus omega))
   | refine Q00 rfl rfl (Qjf _ _ _) (.inl rfl) ?_
   | refine Get.mk _ rfl ?_
   | refine Leaves.of ?_
   | refine Vw.bool ?_
   | refine Vw.int ?_
   | refine Vw.tup ?_
   | refine VwL.cons ?_ ?_
   | refine VwL.nil
   | (refine Req.mk ?_ ?_;(focus first | rfl | decide | exact ⟨rfl,rfl⟩ | exact ⟨rfl,by decide⟩ | exact (fun _=>rfl) | exact (fun h=>nomatch h) | (simp;done) | omega | (simp [big];done) | exact Q02 (by omega) | exact Q01 (by omega))))
 all_goals (first | omega | rfl | (exfalso;simp_all;omega) | (simp_all <;> omega))
end Go.Dr.T7
namespace Go.Dr.T7
def pixB (W H:Nat) (x y:Int):Prop:=0≤x∧x<W∧0≤y∧y<H
instance (W H:Nat) (x y:Int):Decidable (pixB W H x y):=by unfold pixB;infer_instance
def pixV (W H:Nat) (l:List UInt8) (x y:Int):Int:=if pixB W H x y then ((l.getD (y * W+x).toNat 0).toNat:Int) else 0
theorem Q22 (W H:Nat) (l:List UInt8) (x y:Int):0≤pixV W H l x y∧pixV W H l x y≤255:=by
 unfold pixV
 split
 ·have:=(l.getD (y * W+x).toNat 0).toNat_lt;omega
 ·omega
theorem Q9f {W H x y:Nat} (hx:x<W) (hy:y<H):y * W+x<W * H:=by
 have h1:(y+1) * W≤H * W:=Nat.mul_le_mul_right W hy
 rw [Nat.add_mul,Nat.one_mul,Nat.mul_comm H W] at h1
 omega
theorem pixel_any {W H:Nat} {c:Bool} {l:List UInt8} (hW:W≤48) (hH:H≤48) (hl:l.length=W * H) (x y:Int) :
  Fun F md 12 [frV W H c l,.int .i64 x,.int .i64 y] (.tup [.int .i64 (pixV W H l x y),.bool (decide (pixB W H x y))]):=by
 by_cases h:pixB W H x y
 ·have h' := h
  unfold pixB at h'
  obtain ⟨h1,h2,h3,h4⟩:=h'
  obtain ⟨a,rfl⟩:=Int.eq_ofNat_of_zero_le h1
  obtain ⟨b,rfl⟩:=Int.eq_ofNat_of_zero_le h3
  have ha:a<W:=by omega
  have hb:b<H:=by omega
  have hlt:b * W+a<l.length:=by rw [hl];exact Q9f ha hb
  have key:=Qm1 (c:=c) hW hH ha hb hl hlt
  have e1:((b:Int) * (W:Int)+(a:Int)).toNat=b * W+a:=by
   rw [show (b:Int) * (W:Int)+(a:Int)=((b * W+a:Nat):Int) by push_cast;rfl];exact Int.toNat_natCast _
  have e2:pixV W H l a b=(l[b * W+a].toNat:Int):=by
   unfold pixV
   rw [if_pos h,e1,List.getD_eq_getElem?_getD,List.getElem?_eq_getElem hlt];rfl
  rw [e2,decide_eq_true h];exact key
 ·have h' := h
  unfold pixB at h'
  have e2:pixV W H l x y=0:=by unfold pixV;rw [if_neg h]
  rw [e2,decide_eq_false h]
  exact Qia (by omega) (by omega) h'
def mvAt (W H:Nat) (l:List UInt8) (dx dy:Int) (fill:UInt8) (k:Nat):UInt8 :=
 if pixB W H ((k % W:Nat) - dx) ((k / W:Nat) - dy) then l.getD (((k / W:Nat) - dy) * W+((k % W:Nat) - dx)).toNat 0 else fill
def moveL (W H:Nat) (l:List UInt8) (dx dy:Int) (fill:UInt8) (k:Nat):List UInt8:=(List.range k).map (mvAt W H l dx dy fill)
theorem moveL_length (W H:Nat) (l:List UInt8) (dx dy:Int) (fill:UInt8) (k:Nat):(moveL W H l dx dy fill k).length=k:=by simp [moveL]
theorem Q8d {W H:Nat} {l:List UInt8} {dx dy:Int} {fill:UInt8} {k:Nat} {v:Int} (h:v=((mvAt W H l dx dy fill k).toNat:Int)):ofBytes (moveL W H l dx dy fill k)++[V.int .u8 v]=ofBytes (moveL W H l dx dy fill (k+1)):=by
 subst h
 unfold moveL
 rw [List.range_succ,List.map_append,ofBytes_append];rfl
theorem Qio {W H:Nat} {l:List UInt8} {dx dy:Int} {fill:UInt8} {x y k:Nat} (hk:k=y * W+x) (hx:x<W) (h:pixB W H (x - dx) (y - dy)):pixV W H l (x - dx) (y - dy)=((mvAt W H l dx dy fill k).toNat:Int):=by
 subst hk
 have e1:(y * W+x) % W=x:=by rw [Nat.add_comm,Nat.add_mul_mod_self_right,Nat.mod_eq_of_lt hx]
 have e2:(y * W+x) / W=y:=by rw [Nat.add_comm,Nat.add_mul_div_right _ _ (by omega),Nat.div_eq_of_lt hx];omega
 unfold mvAt pixV
 rw [e1,e2,if_pos h,if_pos h]
theorem Qeo {W H:Nat} {l:List UInt8} {dx dy:Int} {fill:UInt8} {x y k:Nat} (hk:k=y * W+x) (hx:x<W) (h:¬ pixB W H (x - dx) (y - dy)):(fill.toNat:Int)=((mvAt W H l dx dy fill k).toNat:Int):=by
 subst hk
 have e1:(y * W+x) % W=x:=by rw [Nat.add_comm,Nat.add_mul_mod_self_right,Nat.mod_eq_of_lt hx]
 have e2:(y * W+x) / W=y:=by rw [Nat.add_comm,Nat.add_mul_div_right _ _ (by omega),Nat.div_eq_of_lt hx];omega
 unfold mvAt
 rw [e1,e2,if_neg h]
theorem check_ok {W H n:Nat} (h1:1≤W) (h2:W≤48) (h3:1≤H) (h4:H≤48) (hn:n=W * H):checkL W H n=0:=by
 subst hn
 unfold checkL
 rw [if_neg (by omega),if_pos (by push_cast;rfl)]
theorem Qnn {c:List V} {n:Nat} {v:V} (h:c.length=n) (hn:n<1000000):(c.length+[v].length) * (1+1)<big:=by
 rw [h];simp [big];omega
theorem Q3j {W H:Nat} {c:Bool} {l:List UInt8} (hW:W≤48) (hH:H≤48) (x y:Int):Fun F md 30 [frV W H c l,.int .i64 x,.int .i64 y] (.bool (decide (pixB W H x y))):=by
 have key:=Qqg W H x y c l.length (ofBytes l) (by omega) (by omega)
 have e:(!(decide (x<0) || decide ((W:Int) - 1<x)) && !(decide (y<0) || decide ((H:Int) - 1<y)))=decide (pixB W H x y):=by
  rw [Bool.eq_iff_iff]
  simp only [Bool.and_eq_true,Bool.not_eq_true', Bool.or_eq_false_iff,decide_eq_false_iff_not,decide_eq_true_eq]
  unfold pixB
  omega
 rw [e] at key;exact key
theorem Q7q {W H:Nat} {c:Bool} {l:List UInt8} (hW:W≤48) (hH:H≤48) (hl:l.length=W * H) {x y:Int} (h:pixB W H x y):Fun F md 31 [frV W H c l,.int .i64 x,.int .i64 y] (.int .i64 (pixV W H l x y)):=by
 have h' := h
 unfold pixB at h'
 obtain ⟨h1,h2,h3,h4⟩:=h'
 obtain ⟨a,rfl⟩:=Int.eq_ofNat_of_zero_le h1
 obtain ⟨b,rfl⟩:=Int.eq_ofNat_of_zero_le h3
 have ha:a<W:=by omega
 have hb:b<H:=by omega
 have hlt:b * W+a<l.length:=by rw [hl];exact Q9f ha hb
 have hWH:W * H≤2304:=Nat.mul_le_mul hW hH
 have hbw:b * W≤2304:=Nat.mul_le_mul (show b≤48 by omega) hW
 have e1:((b:Int) * (W:Int)+(a:Int))=((b * W+a:Nat):Int):=by push_cast;rfl
 have e2:pixV W H l a b=(l[b * W+a].toNat:Int):=by
  unfold pixV
  rw [if_pos h,e1,Int.toNat_natCast,List.getD_eq_getElem?_getD,List.getElem?_eq_getElem hlt];rfl
 have hb2:=l[b * W+a].toNat_lt
 rw [e2]
 exact at_any W H a b c l.length (ofBytes l) (b * W+a) _ e1 hlt (by omega) (by rw [show (b:Int) * (W:Int)=((b * W:Nat):Int) by push_cast;rfl];omega) (by omega) (Q2j hlt) (by omega)
end Go.Dr.T7
namespace Go.Dr.T7
abbrev Sh3:=Int × Int × Int
def absI (n:Int):Int:=max n (-n)
def bet (a b:Sh3):Bool :=
 if a.2.2≠b.2.2 then decide (a.2.2<b.2.2) else
 if absI a.1+absI a.2.1≠absI b.1+absI b.2.1 then decide (absI a.1+absI a.2.1<absI b.1+absI b.2.1) else
 decide (a.2.1<b.2.1) || decide (a.2.1=b.2.1) && decide (a.1<b.1)
theorem Q7p (a b:Sh3):bet a b=true ↔ (a.2.2<b.2.2∨a.2.2=b.2.2∧(absI a.1+absI a.2.1<absI b.1+absI b.2.1∨absI a.1+absI a.2.1=absI b.1+absI b.2.1∧(a.2.1<b.2.1∨a.2.1=b.2.1∧a.1<b.1))):=by
 unfold bet
 split
 ·rw [decide_eq_true_eq];omega
 ·split
  ·rw [decide_eq_true_eq];omega
  ·simp only [Bool.or_eq_true,Bool.and_eq_true,decide_eq_true_eq];omega
theorem Qbv {a b:Sh3} (h1:bet a b=false) (h2:bet b a=false):a=b:=by
 have h1:=mt (Q7p a b).2 (by rw [h1];decide)
 have h2:=mt (Q7p b a).2 (by rw [h2];decide)
 obtain ⟨x,y,s⟩:=a
 obtain ⟨x', y', s'⟩:=b
 simp only [Prod.mk.injEq] at h1 h2 ⊢
 omega
theorem Qbu {a b c:Sh3} (h1:bet a b=true) (h2:bet b c=true):bet a c=true:=by
 rw [Q7p] at h1 h2 ⊢
 omega
theorem Qr4 (a:Sh3):bet a a=false:=by
 rw [← Bool.not_eq_true,Q7p];omega
def minF:Sh3→List Sh3→Sh3
 | m,[]=>m
 | m,y :: l=>minF (if bet y m then y else m) l
theorem Q9l:∀ (m:Sh3) (l:List Sh3),minF m l∈m :: l
 | m,[]=>by simp [minF]
 | m,y :: l=>by
  have h:=Q9l (if bet y m then y else m) l
  simp only [minF]
  simp only [List.mem_cons] at h ⊢
  split at h <;> rename_i hb <;> (rcases h with h | h <;> simp [h,hb])
theorem Q8e:∀ (m:Sh3) (l:List Sh3),∀ y∈m :: l,bet y (minF m l)=false
 | m,[],y,hy=>by
  obtain rfl:y=m:=by simpa using hy
  exact Qr4 _
 | m,z :: l,y,hy=>by
  have h:=Q8e (if bet z m then z else m) l
  simp only [minF]
  by_cases hb:bet z m=true
  ·simp only [hb,if_true] at h ⊢
   rcases List.mem_cons.1 hy with rfl | hy
   ·rw [← Bool.not_eq_true]
    intro hc
    have:=Qbu hb hc
    rw [h z (by simp)] at this
    cases this
   ·rcases List.mem_cons.1 hy with rfl | hy
    ·exact h _ (by simp)
    ·exact h _ (by simp [hy])
  ·simp only [hb] at h ⊢
   simp only [Bool.false_eq_true,if_false] at h ⊢
   rcases List.mem_cons.1 hy with rfl | hy
   ·exact h _ (by simp)
   ·rcases List.mem_cons.1 hy with rfl | hy
    ·have hm:=h m (by simp)
     rw [← Bool.not_eq_true]
     intro hc
     by_cases hmy:bet m y=true
     ·rw [Qbu hmy hc] at hm;cases hm
     ·have e:=Qbv (Bool.eq_false_iff.2 hmy) (Bool.eq_false_iff.2 hb)
      subst e;rw [hc] at hm;cases hm
    ·exact h _ (by simp [hy])
def ordI (a b:Sh3):Int :=
 if a.2.2 - b.2.2≠0 then a.2.2 - b.2.2 else
 if absI a.1+absI a.2.1 - absI b.1 - absI b.2.1≠0 then absI a.1+absI a.2.1 - absI b.1 - absI b.2.1 else
 if a.2.1 - b.2.1≠0 then a.2.1 - b.2.1 else
 if a.1 - b.1≠0 then a.1 - b.1 else 0
theorem Qej (a b:Sh3):decide (ordI a b<0)=bet a b:=by
 rw [Bool.eq_iff_iff,Q7p,decide_eq_true_eq]
 unfold ordI
 split
 ·omega
 ·split
  ·omega
  ·split
   ·omega
   ·split <;> omega
def orL:List Int→Int
 | []=>0
 | x :: l=>if x≠0 then x else orL l
theorem Qek {l:List Int} {i:Nat} (h:i<l.length):orL (l.drop i)=if l[i]≠0 then l[i] else orL (l.drop (i+1)):=by
 rw [List.drop_eq_getElem_cons h];rfl
def rowA (t:Nat→Int) (a:Int):Nat→Int
 | 0=>a
 | i+1=>rowA t a i+t i
def allS (t:Nat→Nat→Int) (w:Nat):Nat→Int
 | 0=>0
 | j+1=>rowA (fun i=>t i j) (allS t w j) w
theorem Q2q {t:Nat→Int} {a:Int} (ht:∀ i,0≤t i∧t i≤255):∀ i,a≤rowA t a i∧rowA t a i≤a+255 * i
 | 0=>by simp [rowA]
 | i+1=>by
  have:=Q2q ht (a:=a) i
  have:=ht i
  simp only [rowA];omega
theorem Q2z {t:Nat→Nat→Int} {w:Nat} (hw:w≤48) (ht:∀ i j,0≤t i j∧t i j≤255):∀ j,0≤allS t w j∧allS t w j≤12240 * j
 | 0=>by simp [allS]
 | j+1=>by
  have h1:=Q2z hw ht j
  have h2:=Q2q (a:=allS t w j) (fun i=>ht i j) w
  simp only [allS];omega
def tS (W H:Nat) (l l' : List UInt8) (x0 y0:Nat) (px py:Nat→Int) (i j:Nat):Int:=absI (pixV W H l ((x0+i:Nat):Int) ((y0+j:Nat):Int) - pixV W H l' (px i) (py j))
theorem Q3q (W H:Nat) (l l' : List UInt8) (x0 y0:Nat) (px py:Nat→Int) (i j:Nat):0≤tS W H l l' x0 y0 px py i j∧tS W H l l' x0 y0 px py i j≤255:=by
 have:=Q22 W H l ((x0+i:Nat):Int) ((y0+j:Nat):Int)
 have:=Q22 W H l' (px i) (py j)
 unfold tS absI;omega
abbrev sh3V (s:Sh3):V:=.agg [.int .i64 s.1,.int .i64 s.2.1,.int .i64 s.2.2]
def ofS3:List Sh3→List V
 | []=>[]
 | x :: l=>.int .i64 x.1 :: .int .i64 x.2.1 :: .int .i64 x.2.2 :: ofS3 l
theorem ofS3_length (l:List Sh3):(ofS3 l).length=3 * l.length:=by
 induction l with
 | nil=>rfl
 | cons x l ih=>simp only [ofS3,List.length_cons,ih];omega
theorem ofS3_part:∀ {l:List Sh3} {i:Nat} (h:i<l.length),part (ofS3 l) (i * 3) 3=some [.int .i64 l[i].1,.int .i64 l[i].2.1,.int .i64 l[i].2.2]
 | x :: l,0,_=>by simp [ofS3,part,Q48, Q7c]
 | x :: l,i+1,h=>by
  have h1:=ofS3_part (l:=l) (i:=i) (by simpa using h)
  rw [show (i+1) * 3=i * 3+1+1+1 by omega]
  simp only [ofS3,part,Q7c, List.getElem_cons_succ] at h1 ⊢
  exact h1
theorem Q6x (a b:List Sh3):ofS3 (a++b)=ofS3 a++ofS3 b:=by
 induction a with
 | nil=>rfl
 | cons x a ih=>simp only [List.cons_append,ofS3,ih]
theorem VwL.s3 {h:List B} {d:Nat} (l:List Sh3):VwL h (d+1) (ofS3 l) (ofS3 l):=by
 induction l with
 | nil=>exact VwL.nil
 | cons x l ih=>exact VwL.cons (Vw.int rfl) (VwL.cons (Vw.int rfl) (VwL.cons (Vw.int rfl) ih))
theorem Q2e:∀ {l:List Int} {i:Nat} (h:i<l.length),Q0h (l.map (V.int .i64)) (i * 1)=some (.int .i64 l[i])
 | x :: l,0,_=>rfl
 | x :: l,i+1,h=>by
  have:=Q2e (l:=l) (i:=i) (by simpa using h)
  rw [show (i+1) * 1=i * 1+1 by omega]
  simpa only [List.map_cons,Q0h,List.getElem_cons_succ] using this
end Go.Dr.T7
namespace Go.Dr.T7
set_option maxRecDepth 100000 in
theorem or62 (c:Bool) (l:List Int) (hl:l.length≤1000):Fun F md 32 [.sl c l.length (l.map (V.int .i64))] (.int .i64 (orL l)):=by
 refine Q07 rfl rfl ?_
 skip
 refine LoopP.by (fun i:Nat=>i≤l.length∧orL l=orL (l.drop i)) (fun i=>[(8,.int .i64 (i:Nat))]) (fun _=>[]) (fun i=>l.length - i) 0 ⟨Nat.zero_le _,rfl⟩ rfl ?_
 rintro i ⟨hi,he⟩
 by_cases hin:i<l.length
 ·rw [Qek hin] at he
  by_cases h0:l[i]=0
  ·rw [if_neg (by simpa using h0)] at he
   repeat' (first
 | (conv=>whnf)
   first
   | (refine Br.decT ?_ ?_;(focus first | assumption | omega))
   | refine Br.not ?_
   | (refine Bnd.i64 ?_ ?_ ?_;(focus omega);(focus omega))
   | refine Get.mk _ (Q2e hin) ?_
   | (refine Idx.nat ?_ ?_;(focus omega))
   | (refine Req.mk ?_ ?_;(focus first | rfl | decide | exact ⟨rfl,rfl⟩ | exact ⟨rfl,by decide⟩ | exact (fun _=>rfl) | exact (fun h=>nomatch h) | (simp;done) | omega | (simp [big];done) | exact Q02 (by omega) | exact Q01 (by omega))))
   exact NextP.mk (i+1) ⟨hin,he⟩ (by omega) rfl
  ·rw [if_pos h0] at he
   repeat' (first
 | (conv=>whnf)
   first
   | (refine Br.decT ?_ ?_;(focus first | assumption | omega))
   | (refine Br.decF ?_ ?_;(focus first | assumption | omega))
   | refine Br.not ?_
   | refine Get.mk _ (Q2e hin) ?_
   | (refine Idx.nat ?_ ?_;(focus omega))
   | refine Get.mk _ rfl ?_
   | refine Leaves.of ?_
   | refine Vw.int ?_
   | (refine Req.mk ?_ ?_;(focus first | rfl | decide | exact ⟨rfl,rfl⟩ | exact ⟨rfl,by decide⟩ | exact (fun _=>rfl) | exact (fun h=>nomatch h) | (simp;done) | omega | (simp [big];done) | exact Q02 (by omega) | exact Q01 (by omega))))
   exact he.symm
 ·rw [List.drop_of_length_le (by omega)] at he
  repeat' (first
 | (conv=>whnf)
   first
   | (refine Br.decF ?_ ?_;(focus first | assumption | omega))
   | refine Get.mk _ rfl ?_
   | refine Leaves.of ?_
   | refine Vw.int ?_)
  exact he.symm
set_option maxRecDepth 100000 in
theorem or100 (c:Bool) (l:List Int) (hl:l.length≤1000):Fun F md 81 [.sl c l.length (l.map (V.int .i64))] (.int .i64 (orL l)):=by
 refine Q07 rfl rfl ?_
 skip
 refine LoopP.by (fun i:Nat=>i≤l.length∧orL l=orL (l.drop i)) (fun i=>[(8,.int .i64 (i:Nat))]) (fun _=>[]) (fun i=>l.length - i) 0 ⟨Nat.zero_le _,rfl⟩ rfl ?_
 rintro i ⟨hi,he⟩
 by_cases hin:i<l.length
 ·rw [Qek hin] at he
  by_cases h0:l[i]=0
  ·rw [if_neg (by simpa using h0)] at he
   repeat' (first
 | (conv=>whnf)
   first
   | (refine Br.decT ?_ ?_;(focus first | assumption | omega))
   | refine Br.not ?_
   | (refine Bnd.i64 ?_ ?_ ?_;(focus omega);(focus omega))
   | refine Get.mk _ (Q2e hin) ?_
   | (refine Idx.nat ?_ ?_;(focus omega))
   | (refine Req.mk ?_ ?_;(focus first | rfl | decide | exact ⟨rfl,rfl⟩ | exact ⟨rfl,by decide⟩ | exact (fun _=>rfl) | exact (fun h=>nomatch h) | (simp;done) | omega | (simp [big];done) | exact Q02 (by omega) | exact Q01 (by omega))))
   exact NextP.mk (i+1) ⟨hin,he⟩ (by omega) rfl
  ·rw [if_pos h0] at he
   repeat' (first
 | (conv=>whnf)
   first
   | (refine Br.decT ?_ ?_;(focus first | assumption | omega))
   | (refine Br.decF ?_ ?_;(focus first | assumption | omega))
   | refine Br.not ?_
   | refine Get.mk _ (Q2e hin) ?_
   | (refine Idx.nat ?_ ?_;(focus omega))
   | refine Get.mk _ rfl ?_
   | refine Leaves.of ?_
   | refine Vw.int ?_
   | (refine Req.mk ?_ ?_;(focus first | rfl | decide | exact ⟨rfl,rfl⟩ | exact ⟨rfl,by decide⟩ | exact (fun _=>rfl) | exact (fun h=>nomatch h) | (simp;done) | omega | (simp [big];done) | exact Q02 (by omega) | exact Q01 (by omega))))
   exact he.symm
 ·rw [List.drop_of_length_le (by omega)] at he
  repeat' (first
 | (conv=>whnf)
   first
   | (refine Br.decF ?_ ?_;(focus first | assumption | omega))
   | refine Get.mk _ rfl ?_
   | refine Leaves.of ?_
   | refine Vw.int ?_)
  exact he.symm
theorem Qjw (c:Bool) (l:List Int) (hl:l.length≤1000):Fun F md 57 [.sl c l.length (l.map (V.int .i64))] (.int .i64 (orL l)):=by
 refine Q07 rfl rfl ?_
 repeat' (first
 | (conv=>whnf)
   first
   | refine Q00 rfl rfl (or100 _ _ hl) (.inl rfl) ?_
   | refine Get.mk _ rfl ?_
   | refine Leaves.of ?_
   | refine Vw.int ?_)
 all_goals rfl
theorem Qhv (n:Int) (hn : -1000000000000≤n∧n≤1000000000000):Fun F md 40 [.int .i64 n] (.int .i64 (max n (-n))):=by
 refine Q07 rfl rfl ?_
 repeat' (first
 | (conv=>whnf)
   first
   | (refine Bnd.i64 ?_ ?_ ?_;(focus omega);(focus omega))
   | refine Bnd.any ?_
   | refine Get.mk _ rfl ?_
   | refine Leaves.of ?_
   | refine Vw.int ?_)
 all_goals (simp_all <;> omega)
abbrev Q6m (s:Sh3):Prop := -12≤s.1∧s.1≤12 ∧ -12≤s.2.1∧s.2.1≤12∧0≤s.2.2∧s.2.2≤1000000
set_option maxRecDepth 100000 in
theorem Qie {ax ay s bx cy s' : Int} (ha : -12≤ax∧ax≤12 ∧ -12≤ay∧ay≤12∧0≤s∧s≤1000000) (hb : -12≤bx∧bx≤12 ∧ -12≤cy∧cy≤12∧0≤s' ∧ s' ≤ 1000000) :
  Fun F md 36 [.agg [.int .i64 ax,.int .i64 ay,.int .i64 s],.agg [.int .i64 bx,.int .i64 cy,.int .i64 s']] (.int .i64 (orL [s - s', max ax (-ax)+max ay (-ay) - max bx (-bx) - max cy (-cy),ay - cy,ax - bx])):=by
 refine Q07 rfl rfl ?_
 repeat' (first
 | (conv=>whnf)
   first
   | (refine Bnd.i64 ?_ ?_ ?_;(focus omega);(focus omega))
   | refine Q00 rfl rfl (Q65 _ (by omega)) (.inl rfl) ?_
   | refine Q00 rfl rfl (Qjw true [_,_,_,_] (show 4≤1000 by decide)) (.inl rfl) ?_
   | refine Get.mk _ rfl ?_
   | refine Leaves.of ?_
   | refine Vw.int ?_
   | (refine Req.mk ?_ ?_;(focus first | rfl | decide | exact ⟨rfl,rfl⟩ | exact ⟨rfl,by decide⟩ | exact (fun _=>rfl) | exact (fun h=>nomatch h) | (simp;done) | omega | (simp [big];done) | exact Q02 (by omega) | exact Q01 (by omega))))
 all_goals rfl
theorem Qaz {a b:Sh3} (ha:Q6m a) (hb:Q6m b):Fun F md 36 [sh3V a,sh3V b] (.int .i64 (ordI a b)):=Qie ha hb
def outA (W H:Nat) (a b c d:Int):Bool := !(decide (0≤a) && decide (a≤b) && decide (b<W) && decide (0≤c) && decide (c≤d) && decide (d<H))
set_option maxRecDepth 100000 in
theorem Q4d {W H:Nat} {c0:Bool} {l:List UInt8} (hW:W≤48) (hH:H≤48) (a b c d:Int):Fun F md 33 [frV W H c0 l,.agg [.int .i64 a,.int .i64 b,.int .i64 c,.int .i64 d]] (.bool (outA W H a b c d)):=by
 refine Q07 rfl rfl ?_
 repeat' (first
 | (conv=>whnf)
   first
   | refine Br.t ?_
   | (refine Br.decT ?_ ?_;(focus first | assumption | omega))
   | (refine Br.decF ?_ ?_;(focus first | assumption | omega))
   | refine Br.dec (fun _ => ?_) (fun _ => ?_)
   | refine Br.not ?_
   | refine Q00 rfl rfl (Q3j hW hH _ _) (.inl rfl) ?_
   | refine Get.mk _ rfl ?_
   | refine Leaves.of ?_
   | refine Vw.bool ?_
   | (refine Req.mk ?_ ?_;(focus first | rfl | decide | exact ⟨rfl,rfl⟩ | exact ⟨rfl,by decide⟩ | exact (fun _=>rfl) | exact (fun h=>nomatch h) | (simp;done) | omega | (simp [big];done) | exact Q02 (by omega) | exact Q01 (by omega))))
 all_goals (unfold outA;rw [Bool.eq_iff_iff];simp only [Bool.not_eq_true', Bool.and_eq_false_iff,decide_eq_true_eq,decide_eq_false_iff_not,true_iff,false_iff,Bool.false_eq_true];(try simp only [pixB] at *);omega)
end Go.Dr.T7
