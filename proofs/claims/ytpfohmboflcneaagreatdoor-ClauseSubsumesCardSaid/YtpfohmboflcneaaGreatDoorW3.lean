import Derived.Test.YtpfohmboflcneaaGreatDoorW2
import Derived.Shelf.Sort.Plain
import Derived.Shelf.Slices.In.SortNone
set_option linter.unusedSimpArgs false
set_option linter.unusedVariables false
set_option linter.unnecessarySimpa false
section
namespace Go.Proofs.YtpfohmboflcneaaGreatDoor
open Go Go.AL Go.RowKit
set_option maxRecDepth 10000
set_option maxHeartbeats 4000000
theorem E8 (x:AV) (w:World) (φ:al) (I:Nat->Prop) (v:Value) (h:AV.den w φ I (.aM [eL,x]) v):AV.den w φ I (.aM [cE [],x]) v:=by
 rw[AV.den]at h⊢
 obtain⟨us,hu,rfl⟩:=h
 refine⟨us,?_,rfl⟩
 rw[AV.ab]at hu⊢
 obtain⟨a,b,e,U,h2⟩:=hu
 exact⟨a,b,e,Dz 4 w φ I a U,h2⟩
theorem Li (c d:List Lt) (i:Nat) (m:Bd) (hc:cC c) (hd:cC d) (hi:i<=c.length) (lj:∀b∈m,aU b.2) (aO:m.length+bC (c.drop i)<=1000000):
  aP Tryz.prog 175 [aK c,aK d,Iv i,cE m] (.aM [cE ((bW (c.drop i) d m).getD []),Bv (bW (c.drop i) d m).isSome]):=by
 refine aP.told (r:= .aM [match bW (c.drop i) d m with|some m'=>cE m'|none=>eL,Bv (bW (c.drop i) d m).isSome]) ?_ (by
  cases bW (c.drop i) d m with
  |some m'=>exact fun _ _ _ _ h=>h
  |none=>exact E8 _)
 have qE:=hc.1
 have lY:=hd.1
 rcases Nat.eq_or_lt_of_le hi with gl|PG
 ·have hs:bW (c.drop i) d m=some m:=by rw[gl,List.drop_length,bW]
  rw[hs]
  refine aj.walk [0,1,2,3,8,9,10,11,12,13,14,15,16,17,21,26,57,66,85,95] [11,12] Tryz.func175 rfl Tryz.ntmps175 (by kernel_rfl) (by rfl) rfl fun W own I0 aq lay=>?_
  refine gE (an @aA @gl) ?_
  refine cT ?_
  refine gO ?_
  exact AE.aG rfl ⟨rfl,rfl,trivial⟩ rfl ⟨rfl,rfl⟩
 ·obtain⟨x,hx,yO⟩:=fT c i PG
  have lu:=hc.2 x (List.mem_of_getElem? hx)
  have BP:=drop_cons hx
  rw[BP]at aO⊢
  rw[iB]at aO
  have hs:=wv x (c.drop (i+1)) d m
  have CC:=wr (x:=(i:Int)+1) (by omega)
  refine aj.walk [0,1,2,3,8,9,10,11,12,13,14,15,16,17,21,26,57,66,85,95] [11,12] Tryz.func175 rfl Tryz.ntmps175 (by kernel_rfl) (by rfl) rfl fun W own I0 aq lay=>?_
  refine gE @aA ?_
  refine cF ?_
  refine gO ?_
  refine AP.loop rfl (α:=Nat) (fun k=>[(0,aK c),(1,aK d),(2,Iv i),(3,cE m),(10,Iv k)]) (fun _=>[]) (fun k=>k<=d.length/\bW (x::c.drop (i+1)) d m=(d.drop k).findSome? (fV (c.drop (i+1)) d x m)) (fun k=>d.length-k) 0 ⟨by omega,hs⟩ (sU) rfl fun k ⟨hk,hm⟩=>?_
  rcases Nat.eq_or_lt_of_le hk with aC|ag
  ·rw[aC,List.drop_length,List.findSome?_nil]at hm
   rw[hm]
   refine gE @aA ?_
   refine cF ?_
   refine gO ?_
   exact AE.aG rfl ⟨rfl,rfl,trivial⟩ rfl ⟨rfl,rfl⟩
  ·obtain⟨y,hy,aF⟩:=fT d k ag
   have pB:=hd.2 y (List.mem_of_getElem? hy)
   have hw:=wr (x:=(k:Int)+1) (by omega)
   rw[drop_cons hy,List.findSome?_cons]at hm
   refine gE @aA ?_
   refine cT ?_
   refine gO ?_
   refine AP.cut (α:=Unit) (fun _=>[(0,aK c),(1,aK d),(2,Iv i),(3,cE m),(10,Iv k),(11,.im (.pt [Bi x.ng,Si x.pd,.sl 3 (ax x.xs)])),(12,.im (.pt [Bi y.ng,Si y.pd,.sl 3 (ax y.xs)]))]) (fun _=>[]) (fun _=>True) ?_ fun _ _=>?_
   ·skip
    refine AP.cu 12 (Tree.node [] [0,1,2,3,4,5,6,7] [8,9] [Tree.node [0,1,2,3,4,5,6,7] [] [9] [Tree.node [0,1,2,3,4,5,6,7] [] [10] [Tree.node [4,5,6,7] [] [11] [Tree.node [] [] [] []]]],Tree.node [0,1,2,3,4,5,6,7] [] [8] [Tree.node [0,1,2,3,4,5,6,7] [] [10] [Tree.node [4,5,6,7] [] [11] [Tree.node [] [] [] []]]]]) (by kernel_rfl) rfl (by kernel_rfl) (by kernel_rfl) ?_
    refine cr ?_
    refine sE (an @aF (an @yO @aA)) ?_
    repeat' (first|with_reducible exact True.intro|with_reducible refine And.intro (by omega) ?_|with_reducible refine And.intro ?_ ?_|(refine AQ.nx rfl ?_;refine sE (an @aF (an @yO @aA)) ?_)|(fail)|refine AQ.done ?_|(refine AQ.go (by kernel_rfl) ?_;refine sE (an @aF (an @yO @aA)) ?_;repeat(with_reducible refine And.intro (by omega) ?_);refine AQ.nx rfl ?_;refine sE (an @aF (an @yO @aA)) ?_))
    all_goals(refine AE.fix 0 rfl rfl ?_;refine sI ?_;refine AE.fix 1 rfl rfl ?_;refine sI ?_;exact AE.meet () trivial (sU) rfl)
   have mN:((x.xs.length:Int)!=(y.xs.length:Int))=!decide (x.xs.length=y.xs.length):=by
    by_cases h3:x.xs.length=y.xs.length
    ·simp[h3]
    ·have:((x.xs.length:Int))≠(y.xs.length:Int):=fun h=>h3 (by omega)
     simp[h3,this]
   have rS:ke x y=!(x.ng !=y.ng||!(x.pd==y.pd)||((ax x.xs).length:Int)!=((ax y.xs).length:Int)):=by
    rw[ke,ah,ah,mN,bne]
    cases(x.ng==y.ng)<;>cases(x.pd==y.pd)<;>cases decide (x.xs.length=y.xs.length)<;>rfl
   refine gO ?_
   refine AP.cond rfl rfl (fun hA=>?_) (fun hA=>?_)
   ·rw[hA]at rS
    have l9:fV (c.drop (i+1)) d x m y=none:=by rw[fV,ew,rS];rfl
    rw[l9]at hm
    refine gE @hw ?_
    exact AE.round (k+1) ⟨by omega,hm⟩ (by omega) (sU) rfl
   ·rw[hA]at rS
    have lV:ke x y=true:=rS
    have ff:=(xq.1 lV).2.2
    have hF:ew x y m=b9 x.xs y.xs m:=by rw[ew,if_pos lV]
    refine gO ?_
    refine AP.loop rfl (α:=Nat×Bd×Bool) (fun q=>[(0,aK c),(1,aK d),(2,Iv i),(3,cE m),(10,Iv k),(11,.im (.pt [Bi x.ng,Si x.pd,.sl 3 (ax x.xs)])),(12,.im (.pt [Bi y.ng,Si y.pd,.sl 3 (ax y.xs)])),(13,cE q.2.1),(14,Bv q.2.2),(15,Iv q.1)]) (fun _=>[]) (fun q=>q.1<=x.xs.length/\(q.2.2=true->q.2.1.length<=m.length+aw (x.xs.take q.1))/\(q.2.2=true->∀b∈q.2.1,aU b.2)/\(q.2.2=true->ew x y m=b9 (x.xs.drop q.1) (y.xs.drop q.1) q.2.1)/\(q.2.2=false->(ew x y m).2=false)) (fun q=>x.xs.length-q.1) (0,m,true) ⟨by omega,fun _=>by simp,fun _=>lj,fun _=>hF,fun h=>by cases h⟩ (sU) rfl fun⟨q,mq,oq⟩ ⟨yJ,ss,mS,ir,HV⟩=>?_
    dsimp only at yJ ss mS ir HV⊢
    cases oq with
    |false=>
     have l9:fV (c.drop (i+1)) d x m y=none:=by rw[fV,if_neg (by rw[HV rfl];simp)]
     rw[l9]at hm
     refine gE (an @ah (an @Bool.and_false @hw)) ?_
     exact AE.round (k+1) ⟨by omega,hm⟩ (by omega) (sU) rfl
    |true=>
     have ir:=ir rfl
     have ss:=ss rfl
     have mS:=mS rfl
     have WC:=rA x.xs q
     rcases Nat.eq_or_lt_of_le yJ with u_|Cj
     ·rw[u_,List.drop_length,wb]at ir
      have ih:=Li c d (i+1) mq hc hd (by omega) mS (by omega)
      have l9:fV (c.drop (i+1)) d x m y=bW (c.drop (i+1)) d mq:=by rw[fV,ir,if_pos rfl]
      rw[l9]at hm
      refine gE @ah ?_
      refine cF ?_
      refine gE @CC ?_
      refine AQ.fn (by kernel_rfl) rfl rfl rfl (ih) rfl ?_
      refine sI ?_
      cases hk:bW (c.drop (i+1)) d mq with
      |some m2=>
       rw[hk]at hm
       rw[hm]
       refine gO ?_
       exact AE.aG rfl ⟨rfl,rfl,trivial⟩ rfl ⟨rfl,rfl⟩
      |none=>
       rw[hk]at hm
       refine gE @hw ?_
       exact AE.round (k+1) ⟨by omega,hm⟩ (by omega) (sU) rfl
     ·obtain⟨u,hu,vf⟩:=cz x.xs q Cj
      obtain⟨v,hv,cg⟩:=cz y.xs q (by omega)
      have QL:=lu.2.1
      have CE:=wr (x:=(q:Int)+1) (by omega)
      rw[Dq x.xs y.xs q u v hu hv]at ir
      have aY:aw (x.xs.take (q+1))=aw (x.xs.take q)+wT u:=by rw[c7 hu,rz,aw,aw];rfl
      have pq:=rA x.xs (q+1)
      have ih:=Jk u v mq (cA lu.2.2 hu) (cA pB.2.2 hv) mS (by omega)
      have kz:=v_ u v mq
      have qA:=v8 u v mq (cA pB.2.2 hv) mS
      obtain⟨g1,g2⟩:=Dk u v mq
      refine gE @ah ?_
      refine cT ?_
      refine gE (an @vf (an @cg @ah)) ?_
      refine AP.cu 17 (Tree.node [] [0,1,2,3,4,5,6,7,8,9,10] [11] [Tree.node [] [12,13,14] [15] [Tree.node [14] [16] [] []]]) (by kernel_rfl) rfl (by kernel_rfl) (by kernel_rfl) ?_
      refine cr ?_
      refine sE (an @vf (an @cg @ah)) ?_
      refine⟨by omega,by omega,?_⟩
      refine AQ.fn (by kernel_rfl) rfl rfl rfl (ih) rfl ?_
      refine sI ?_
      refine AQ.nx rfl ?_
      refine sI ?_
      refine AQ.go (by kernel_rfl) ?_
      refine sI ?_
      refine AQ.nx rfl ?_
      refine sI ?_
      refine AQ.done ?_
      refine gE @CE ?_
      refine AE.round (q+1,(fu u v mq).1,(fu u v mq).2) ⟨(by omega:q+1<=x.xs.length),fun h=>?_,fun h=>?_,fun h=>?_,fun h=>?_⟩ (by show x.xs.length-(q+1)<x.xs.length-q;omega) (sU) rfl
      ·show(fu u v mq).1.length<=m.length+aw (x.xs.take (q+1))
       rw[g2 h,aY];omega
      ·show∀b∈(fu u v mq).1,aU b.2
       rw[g2 h];exact qA
      ·show ew x y m=b9 (x.xs.drop (q+1)) (y.xs.drop (q+1)) (fu u v mq).1
       rw[g2 h,ir,if_pos (g1▸h)]
      ·have h:(fu u v mq).2=false:=h
       rw[ir,if_neg (by rw[<-g1,h];simp),<-g1];exact h
termination_by c.length-i
theorem y3:∀(o1 o2:Bd) (b:Int×Tm),(o1++o2).Pairwise (fun x y=>x.1<y.1)->(∀y∈o2,b.1<y.1)->(∀y,o1.getLast?=some y->y.1<=b.1)->jz b (o1++o2)=o1++b::o2
 |[],[],b,_,_,_=>rfl
 |[],y::o2,b,_,h,_=>by rw[List.nil_append,jz,if_pos (h y (by simp))];rfl
 |z::o1,o2,b,hp,h,hl=>by
  rw[List.cons_append,List.pairwise_cons]at hp
  have hz:z.1<=b.1:=by
   cases o1 with
   |nil=>exact hl z rfl
   |cons w o1=>
    have B1:∃y,(w::o1).getLast?=some y/\y∈w::o1:=
     ⟨(w::o1).getLast (by simp),List.getLast?_eq_some_getLast (by simp),List.getLast_mem (by simp)⟩
    obtain⟨y,e,hy⟩:=B1
    have U:y.1<=b.1:=hl y (by rw[List.getLast?_cons_cons];exact e)
    have:=hp.1 y (List.mem_append_left _ hy)
    omega
  rw[List.cons_append,jz,if_neg (by omega),y3 o1 o2 b hp.2 h fun y hy=>?_]
  ·rfl
  ·cases o1 with
   |nil=>cases hy
   |cons w o1=>exact hl y (by rw[List.getLast?_cons_cons];exact hy)
theorem K3 (b:Int×Tm):∀(l o:Bd),bF o (l++[b])=jz b (bF o l)
 |[],o=>by rw[List.nil_append,bF,bF,bF]
 |x::l,o=>by rw[List.cons_append,bF,bF,K3 b l]
theorem K2 (l o:Bd):(bF o l).length=o.length+l.length:=by rw[(ti l o).length_eq,List.length_append]
theorem kY (l:Bd) (n:Nat):(db l).take n=db (l.take n):=by simp[db]
theorem kX (l:Bd) (n:Nat):(db l).drop n=db (l.drop n):=by simp[db]
theorem kf (b:Int×Tm):[[Ii b.1,Si b.2.nm,Ii b.2.ix,.sl 3 (ax b.2.xs)]]=db [b]:=rfl
theorem Tq (m:Bd) (bg:cN m) (aO:m.length<=1000000):aP Tryz.prog 176 [cE m] (cE (bF [] m)):=by
 refine aj.walk [0,2,3,4,5,10,30] [] Tryz.func176 rfl Tryz.ntmps176 (by kernel_rfl) (by rfl) rfl fun W own I0 aq lay=>?_
 refine gO ?_
 refine AP.freeze 0 (el:=59) (es:=4) (rows:=[]) rfl (by simp only[go_sem,Nat.reduceAdd,Nat.reduceLeDiff,Nat.reduceSub,Int.reduceToNat,reduceCtorEq,List.length_nil];first|done|trivial|omega|(simp;done)|(simp;omega)) (by simp only[go_sem,Nat.reduceAdd,Nat.reduceLeDiff,Nat.reduceSub,Int.reduceToNat,reduceCtorEq,List.length_nil];first|done|trivial|omega|(simp;done)|(simp;omega)) ?_;simp only[go_sem,Nat.reduceAdd,Nat.reduceLeDiff,Nat.reduceSub,Int.reduceToNat,reduceCtorEq,List.length_nil]
 refine AP.loop rfl (α:=Nat) (fun k=>[(0,cE m),(3,cE (bF [] (m.take k))),(4,Iv k)]) (fun _=>[]) (fun k=>k<=m.length) (fun k=>m.length-k) 0 (by omega) (sU) rfl fun k hk=>?_
 rcases Nat.eq_or_lt_of_le hk with aC|ag
 ·subst aC
  rw[List.take_length]
  refine gE @aI ?_
  refine cF ?_
  refine gO ?_
  exact AE.aG rfl ⟨rfl,trivial⟩ rfl ⟨rfl,rfl⟩
 ·obtain⟨b,hb,jq⟩:=qj m k ag
  have hw:=wr (x:=(k:Int)+1) (by omega)
  have bc:bF [] (m.take (k+1))=jz b (bF [] (m.take k)):=by rw[c7 hb,K3]
  have hL:(bF [] (m.take k)).length=k:=by rw[K2,List.length_nil,gP (by omega)];omega
  have hS:(bF [] (m.take k)).Pairwise (fun x y=>x.1<y.1):=D2 _ _ (by rw[List.nil_append];exact bg.sublist ((List.take_sublist k m).map _)) List.Pairwise.nil
  generalize bF [] (m.take k)=l at*
  refine gE @aI ?_
  refine cT ?_
  refine gE @aI ?_
  refine AP.loop rfl (α:=Nat) (fun p=>[(0,cE m),(3,cE l),(4,Iv k),(5,Iv p)]) (fun _=>[]) (fun p=>p<=k/\∀y∈l.drop p,b.1<y.1) (fun p=>p) l.length ⟨by omega,fun y hy=>by rw[List.drop_length]at hy;cases hy⟩ (sU) rfl fun p ⟨hp,sr⟩=>?_
  cases p with
  |zero=>
   have hd:decide ((0:Int)<((0:Nat):Int))=false:=rfl
   have b8:(IntKind.i64.wrap (((0:Nat):Int)-1)).toNat=0:=by decide
   have jo:(db l).getD 0 []=[]\/∃z:Int×Tm,(db l).getD 0 []=[Ii z.1,Si z.2.nm,Ii z.2.ix,.sl 3 (ax z.2.xs)]:=by
    cases l with
    |nil=>exact .inl rfl
    |cons z l=>exact .inr ⟨z,rfl⟩
   rcases jo with jo|⟨z,jo⟩
   ·refine gE (an @hd (an @b8 (an @jo (an @jq @aI)))) ?_
    have uQ:jz b l=l.take 0++b::l.drop 0:=by
     have:=y3 (l.take 0) (l.drop 0) b (by rw[List.take_append_drop];exact hS) sr (fun y hy=>by simp at hy)
     rw[List.take_append_drop]at this;exact this
    have gY:bF [] (m.take (k+1))=b::l:=by rw[bc,uQ];rfl
    have bA:(l.take 0).length=0:=gP (by omega)
    refine AP.cu 15 (Tree.node [] [1,2,3,5,6,7,8,11,12,13] [0,9] [Tree.node [1,2,3,5,6,7,8,11,12,13] [] [4,9] [Tree.node [5,6,7,8,11,12,13] [] [9] [Tree.node [11,12,13] [] [10] [Tree.node [11,12,13] [] [14] [Tree.node [] [] [] []]]],Tree.node [1,2,3,11,12,13] [] [4] [Tree.node [11,12,13] [] [10] [Tree.node [11,12,13] [] [14] [Tree.node [] [] [] []]]]],Tree.node [1,2,3,11,12,13] [] [0] [Tree.node [1,2,3,11,12,13] [] [4] [Tree.node [11,12,13] [] [10] [Tree.node [11,12,13] [] [14] [Tree.node [] [] [] []]]]]]) (by kernel_rfl) rfl (by kernel_rfl) (by kernel_rfl) ?_
    refine cr ?_
    refine sE (an @jq (an @aI (an @kY (an @kX @Int.toNat_natCast)))) ?_
    repeat' (first|with_reducible exact True.intro|with_reducible refine And.intro (by omega) ?_|with_reducible refine And.intro ?_ ?_|(refine AQ.nx rfl ?_;simp only[go_sem,Nat.reduceAdd,Nat.reduceLeDiff,Nat.reduceSub,Int.reduceToNat,reduceCtorEq,jq,aI,kY,kX,Int.toNat_natCast,bA,gf,kf,List.nil_append,List.length_drop])|(refine AQ.append (hnb:=rfl) (rows:=[]) (es:=3) (by kernel_rfl) rfl rfl rfl (by rfl) Tryz.mr Tryz.mo (by show Option.map _ (az Tryz.prog 59)=_;rw[Tryz.mz];rfl) Tryz.lO (by first|rfl|(simp only[aI,List.length_take,List.length_cons,List.length_nil];done)|(simp only[aI,List.length_take,List.length_cons,List.length_nil];omega)) (by simp only[aI,List.length_take,List.length_cons,List.length_nil];omega) (by simp only[aI,List.length_take,List.length_cons,List.length_nil];omega) ?_;refine sE (an @List.nil_append.{0} (an @aI @bA)) ?_)|(refine AQ.append (hnb:=rfl) (rows:=db (l.take 0)) (es:=3) (by kernel_rfl) rfl rfl rfl (by rfl) Tryz.mr Tryz.mo (by show Option.map _ (az Tryz.prog 59)=_;rw[Tryz.mz];rfl) Tryz.lO (by first|rfl|(simp only[aI,bA,List.length_cons,List.length_nil];done)|(simp only[aI,bA,List.length_cons,List.length_nil];omega)) (by simp only[aI,bA,List.length_cons,List.length_nil];omega) (by simp only[aI,bA,List.length_cons,List.length_nil];omega) ?_;refine sE (an @gf (an @kf (an @aI (an @bA @List.length_append.{0})))) ?_)|(refine AQ.append (hnb:=rfl) (rows:=db (l.take 0++[b])) (es:=3) (by kernel_rfl) rfl rfl rfl (by rfl) Tryz.mr Tryz.mo (by show Option.map _ (az Tryz.prog 59)=_;rw[Tryz.mz];rfl) Tryz.lO (by first|rfl|(simp only[aI,List.length_append,List.length_drop,bA,List.length_cons,List.length_nil];done)|(simp only[aI,List.length_append,List.length_drop,bA,List.length_cons,List.length_nil];omega)) (by simp only[aI,List.length_append,List.length_drop,bA,List.length_cons,List.length_nil];omega) (by simp only[aI,List.length_append,List.length_drop,bA,List.length_cons,List.length_nil];omega) ?_;simp only[go_sem,Nat.reduceAdd,Nat.reduceLeDiff,Nat.reduceSub,Int.reduceToNat,reduceCtorEq,gf,aI,bA,List.length_drop,List.length_append])|refine AQ.done ?_|(refine AQ.go (by kernel_rfl) ?_;simp only[go_sem,Nat.reduceAdd,Nat.reduceLeDiff,Nat.reduceSub,Int.reduceToNat,reduceCtorEq,jq,aI,kY,kX,Int.toNat_natCast,bA,gf,kf,List.nil_append,List.length_drop];repeat(with_reducible refine And.intro (by omega) ?_);refine AQ.nx rfl ?_;simp only[go_sem,Nat.reduceAdd,Nat.reduceLeDiff,Nat.reduceSub,Int.reduceToNat,reduceCtorEq,jq,aI,kY,kX,Int.toNat_natCast,bA,gf,kf,List.nil_append,List.length_drop]))
    all_goals refine gE @hw ?_
    all_goals refine AE.freeze 0 (el:=59) (es:=4) (rows:=db (l.take 0++[b]++l.drop 0)) rfl (by simp only[go_sem,Nat.reduceAdd,Nat.reduceLeDiff,Nat.reduceSub,Int.reduceToNat,reduceCtorEq,aI,List.length_append,bA,List.length_drop];first|done|trivial|omega|(simp;done)|(simp;omega)) (by simp only[go_sem,Nat.reduceAdd,Nat.reduceLeDiff,Nat.reduceSub,Int.reduceToNat,reduceCtorEq,aI,List.length_append,bA,List.length_drop];first|done|trivial|omega|(simp;done)|(simp;omega)) ?_;simp only[go_sem,Nat.reduceAdd,Nat.reduceLeDiff,Nat.reduceSub,Int.reduceToNat,reduceCtorEq,aI,List.length_append,bA,List.length_drop]
    all_goals rw[tO _ _ (by simp[bA];omega),<-gY]
    all_goals exact AE.round (k+1) (by omega) (by omega) (sU) rfl
   ·refine gE (an @hd (an @b8 (an @jo (an @jq @aI)))) ?_
    have uQ:jz b l=l.take 0++b::l.drop 0:=by
     have:=y3 (l.take 0) (l.drop 0) b (by rw[List.take_append_drop];exact hS) sr (fun y hy=>by simp at hy)
     rw[List.take_append_drop]at this;exact this
    have gY:bF [] (m.take (k+1))=b::l:=by rw[bc,uQ];rfl
    have bA:(l.take 0).length=0:=gP (by omega)
    refine AP.cu 15 (Tree.node [] [1,2,3,5,6,7,8,11,12,13] [0,9] [Tree.node [1,2,3,5,6,7,8,11,12,13] [] [4,9] [Tree.node [5,6,7,8,11,12,13] [] [9] [Tree.node [11,12,13] [] [10] [Tree.node [11,12,13] [] [14] [Tree.node [] [] [] []]]],Tree.node [1,2,3,11,12,13] [] [4] [Tree.node [11,12,13] [] [10] [Tree.node [11,12,13] [] [14] [Tree.node [] [] [] []]]]],Tree.node [1,2,3,11,12,13] [] [0] [Tree.node [1,2,3,11,12,13] [] [4] [Tree.node [11,12,13] [] [10] [Tree.node [11,12,13] [] [14] [Tree.node [] [] [] []]]]]]) (by kernel_rfl) rfl (by kernel_rfl) (by kernel_rfl) ?_
    refine cr ?_
    refine sE (an @jq (an @aI (an @kY (an @kX @Int.toNat_natCast)))) ?_
    repeat' (first|with_reducible exact True.intro|with_reducible refine And.intro (by omega) ?_|with_reducible refine And.intro ?_ ?_|(refine AQ.nx rfl ?_;simp only[go_sem,Nat.reduceAdd,Nat.reduceLeDiff,Nat.reduceSub,Int.reduceToNat,reduceCtorEq,jq,aI,kY,kX,Int.toNat_natCast,bA,gf,kf,List.nil_append,List.length_drop])|(refine AQ.append (hnb:=rfl) (rows:=[]) (es:=3) (by kernel_rfl) rfl rfl rfl (by rfl) Tryz.mr Tryz.mo (by show Option.map _ (az Tryz.prog 59)=_;rw[Tryz.mz];rfl) Tryz.lO (by first|rfl|(simp only[aI,List.length_take,List.length_cons,List.length_nil];done)|(simp only[aI,List.length_take,List.length_cons,List.length_nil];omega)) (by simp only[aI,List.length_take,List.length_cons,List.length_nil];omega) (by simp only[aI,List.length_take,List.length_cons,List.length_nil];omega) ?_;refine sE (an @List.nil_append.{0} (an @aI @bA)) ?_)|(refine AQ.append (hnb:=rfl) (rows:=db (l.take 0)) (es:=3) (by kernel_rfl) rfl rfl rfl (by rfl) Tryz.mr Tryz.mo (by show Option.map _ (az Tryz.prog 59)=_;rw[Tryz.mz];rfl) Tryz.lO (by first|rfl|(simp only[aI,bA,List.length_cons,List.length_nil];done)|(simp only[aI,bA,List.length_cons,List.length_nil];omega)) (by simp only[aI,bA,List.length_cons,List.length_nil];omega) (by simp only[aI,bA,List.length_cons,List.length_nil];omega) ?_;refine sE (an @gf (an @kf (an @aI (an @bA @List.length_append.{0})))) ?_)|(refine AQ.append (hnb:=rfl) (rows:=db (l.take 0++[b])) (es:=3) (by kernel_rfl) rfl rfl rfl (by rfl) Tryz.mr Tryz.mo (by show Option.map _ (az Tryz.prog 59)=_;rw[Tryz.mz];rfl) Tryz.lO (by first|rfl|(simp only[aI,List.length_append,List.length_drop,bA,List.length_cons,List.length_nil];done)|(simp only[aI,List.length_append,List.length_drop,bA,List.length_cons,List.length_nil];omega)) (by simp only[aI,List.length_append,List.length_drop,bA,List.length_cons,List.length_nil];omega) (by simp only[aI,List.length_append,List.length_drop,bA,List.length_cons,List.length_nil];omega) ?_;simp only[go_sem,Nat.reduceAdd,Nat.reduceLeDiff,Nat.reduceSub,Int.reduceToNat,reduceCtorEq,gf,aI,bA,List.length_drop,List.length_append])|refine AQ.done ?_|(refine AQ.go (by kernel_rfl) ?_;simp only[go_sem,Nat.reduceAdd,Nat.reduceLeDiff,Nat.reduceSub,Int.reduceToNat,reduceCtorEq,jq,aI,kY,kX,Int.toNat_natCast,bA,gf,kf,List.nil_append,List.length_drop];repeat(with_reducible refine And.intro (by omega) ?_);refine AQ.nx rfl ?_;simp only[go_sem,Nat.reduceAdd,Nat.reduceLeDiff,Nat.reduceSub,Int.reduceToNat,reduceCtorEq,jq,aI,kY,kX,Int.toNat_natCast,bA,gf,kf,List.nil_append,List.length_drop]))
    all_goals refine gE @hw ?_
    all_goals refine AE.freeze 0 (el:=59) (es:=4) (rows:=db (l.take 0++[b]++l.drop 0)) rfl (by simp only[go_sem,Nat.reduceAdd,Nat.reduceLeDiff,Nat.reduceSub,Int.reduceToNat,reduceCtorEq,aI,List.length_append,bA,List.length_drop];first|done|trivial|omega|(simp;done)|(simp;omega)) (by simp only[go_sem,Nat.reduceAdd,Nat.reduceLeDiff,Nat.reduceSub,Int.reduceToNat,reduceCtorEq,aI,List.length_append,bA,List.length_drop];first|done|trivial|omega|(simp;done)|(simp;omega)) ?_;simp only[go_sem,Nat.reduceAdd,Nat.reduceLeDiff,Nat.reduceSub,Int.reduceToNat,reduceCtorEq,aI,List.length_append,bA,List.length_drop]
    all_goals rw[tO _ _ (by simp[bA];omega),<-gY]
    all_goals exact AE.round (k+1) (by omega) (by omega) (sU) rfl
  |succ q=>
   have b8:IntKind.i64.wrap (((q+1:Nat):Int)-1)=(q:Int):=by rw[wr (by omega)];omega
   have hd:decide ((0:Int)<((q+1:Nat):Int))=true:=decide_eq_true (by omega)
   obtain⟨z,hz,Qh⟩:=qj l q (by omega)
   refine gE (an @hd (an @b8 (an @Qh (an @jq @aI)))) ?_
   refine AP.cond rfl rfl (fun h5=>?_) (fun h5=>?_)
   ·have h5:b.1<z.1:=by simpa using h5
    refine gE @b8 ?_
    refine AE.round q ⟨by omega,fun y hy=>?_⟩ (by omega) (sU) rfl
    rw[drop_cons hz]at hy
    rcases List.mem_cons.1 hy with rfl|hy
    ·exact h5
    ·exact sr y hy
   ·have h5:¬b.1<z.1:=by simpa using h5
    have uQ:jz b l=l.take (q+1)++b::l.drop (q+1):=by
     have:=y3 (l.take (q+1)) (l.drop (q+1)) b (by rw[List.take_append_drop];exact hS) sr (fun y hy=>by rw[c7 hz,List.getLast?_concat]at hy;cases hy;omega)
     rw[List.take_append_drop]at this;exact this
    have gY:bF [] (m.take (k+1))=l.take (q+1)++[b]++l.drop (q+1):=by rw[bc,uQ,List.append_assoc];rfl
    have bA:(l.take (q+1)).length=(q+1):=gP (by omega)
    refine gO ?_
    refine AP.cu 15 (Tree.node [] [1,2,3,5,6,7,8,11,12,13] [0,9] [Tree.node [1,2,3,5,6,7,8,11,12,13] [] [4,9] [Tree.node [5,6,7,8,11,12,13] [] [9] [Tree.node [11,12,13] [] [10] [Tree.node [11,12,13] [] [14] [Tree.node [] [] [] []]]],Tree.node [1,2,3,11,12,13] [] [4] [Tree.node [11,12,13] [] [10] [Tree.node [11,12,13] [] [14] [Tree.node [] [] [] []]]]],Tree.node [1,2,3,11,12,13] [] [0] [Tree.node [1,2,3,11,12,13] [] [4] [Tree.node [11,12,13] [] [10] [Tree.node [11,12,13] [] [14] [Tree.node [] [] [] []]]]]]) (by kernel_rfl) rfl (by kernel_rfl) (by kernel_rfl) ?_
    refine cr ?_
    refine sE (an @jq (an @aI (an @kY (an @kX @Int.toNat_natCast)))) ?_
    repeat' (first|with_reducible exact True.intro|with_reducible refine And.intro (by omega) ?_|with_reducible refine And.intro ?_ ?_|(refine AQ.nx rfl ?_;simp only[go_sem,Nat.reduceAdd,Nat.reduceLeDiff,Nat.reduceSub,Int.reduceToNat,reduceCtorEq,jq,aI,kY,kX,Int.toNat_natCast,bA,gf,kf,List.nil_append,List.length_drop])|(refine AQ.append (hnb:=rfl) (rows:=[]) (es:=3) (by kernel_rfl) rfl rfl rfl (by rfl) Tryz.mr Tryz.mo (by show Option.map _ (az Tryz.prog 59)=_;rw[Tryz.mz];rfl) Tryz.lO (by first|rfl|(simp only[aI,List.length_take,List.length_cons,List.length_nil];done)|(simp only[aI,List.length_take,List.length_cons,List.length_nil];omega)) (by simp only[aI,List.length_take,List.length_cons,List.length_nil];omega) (by simp only[aI,List.length_take,List.length_cons,List.length_nil];omega) ?_;refine sE (an @List.nil_append.{0} (an @aI @bA)) ?_)|(refine AQ.append (hnb:=rfl) (rows:=db (l.take (q+1))) (es:=3) (by kernel_rfl) rfl rfl rfl (by rfl) Tryz.mr Tryz.mo (by show Option.map _ (az Tryz.prog 59)=_;rw[Tryz.mz];rfl) Tryz.lO (by first|rfl|(simp only[aI,bA,List.length_cons,List.length_nil];done)|(simp only[aI,bA,List.length_cons,List.length_nil];omega)) (by simp only[aI,bA,List.length_cons,List.length_nil];omega) (by simp only[aI,bA,List.length_cons,List.length_nil];omega) ?_;refine sE (an @gf (an @kf (an @aI (an @bA @List.length_append.{0})))) ?_)|(refine AQ.append (hnb:=rfl) (rows:=db (l.take (q+1)++[b])) (es:=3) (by kernel_rfl) rfl rfl rfl (by rfl) Tryz.mr Tryz.mo (by show Option.map _ (az Tryz.prog 59)=_;rw[Tryz.mz];rfl) Tryz.lO (by first|rfl|(simp only[aI,List.length_append,List.length_drop,bA,List.length_cons,List.length_nil];done)|(simp only[aI,List.length_append,List.length_drop,bA,List.length_cons,List.length_nil];omega)) (by simp only[aI,List.length_append,List.length_drop,bA,List.length_cons,List.length_nil];omega) (by simp only[aI,List.length_append,List.length_drop,bA,List.length_cons,List.length_nil];omega) ?_;simp only[go_sem,Nat.reduceAdd,Nat.reduceLeDiff,Nat.reduceSub,Int.reduceToNat,reduceCtorEq,gf,aI,bA,List.length_drop,List.length_append])|refine AQ.done ?_|(refine AQ.go (by kernel_rfl) ?_;simp only[go_sem,Nat.reduceAdd,Nat.reduceLeDiff,Nat.reduceSub,Int.reduceToNat,reduceCtorEq,jq,aI,kY,kX,Int.toNat_natCast,bA,gf,kf,List.nil_append,List.length_drop];repeat(with_reducible refine And.intro (by omega) ?_);refine AQ.nx rfl ?_;simp only[go_sem,Nat.reduceAdd,Nat.reduceLeDiff,Nat.reduceSub,Int.reduceToNat,reduceCtorEq,jq,aI,kY,kX,Int.toNat_natCast,bA,gf,kf,List.nil_append,List.length_drop]))
    all_goals refine gE @hw ?_
    all_goals refine AE.freeze 0 (el:=59) (es:=4) (rows:=db (l.take (q+1)++[b]++l.drop (q+1))) rfl (by simp only[go_sem,Nat.reduceAdd,Nat.reduceLeDiff,Nat.reduceSub,Int.reduceToNat,reduceCtorEq,aI,List.length_append,bA,List.length_drop];first|done|trivial|omega|(simp;done)|(simp;omega)) (by simp only[go_sem,Nat.reduceAdd,Nat.reduceLeDiff,Nat.reduceSub,Int.reduceToNat,reduceCtorEq,aI,List.length_append,bA,List.length_drop];first|done|trivial|omega|(simp;done)|(simp;omega)) ?_;simp only[go_sem,Nat.reduceAdd,Nat.reduceLeDiff,Nat.reduceSub,Int.reduceToNat,reduceCtorEq,aI,List.length_append,bA,List.length_drop]
    all_goals rw[tO _ _ (by simp[bA];omega),<-gY]
    all_goals exact AE.round (k+1) (by omega) (by omega) (sU) rfl
theorem zR:∀(c d:List Lt) (m m':Bd),bW c d m=some m'->m'.length<=m.length+bC c
 |[],d,m,m',h=>by rw[bW]at h;cases h;omega
 |x::c,d,m,m',h=>by
  rw[wv]at h
  obtain⟨y,_,hy⟩:=List.exists_of_findSome?_eq_some h
  rw[fV]at hy
  split at hy
  ·have U:=zR c d _ m' hy
   have h2:=A5 x y m
   rw[iB];omega
  ·cases hy
def nO (c d:List Lt):Bd:=match bW c d []with
 |some m=>bF [] m
 |none=>[]
theorem NQ (c d:List Lt) (hc:cC c) (hd:cC d) (aO:bC c<=4000):aP Tryz.prog 115 [aK c,aK d] (.aM [cE (nO c d),Bv (bW c d []).isSome]):=by
 refine aP.told (r:= .aM [match bW c d []with|some m'=>cE (bF [] m')|none=>eL,Bv (bW c d []).isSome]) ?_ (by
  rw[nO]
  cases bW c d []with
  |some m'=>exact fun _ _ _ _ h=>h
  |none=>exact E8 _)
 have U:=Li c d 0 [] hc hd (by omega) (fun b hb=>by cases hb) (by rw[List.drop_zero];simp;omega)
 rw[List.drop_zero]at U
 have U:=U.tM (xs:=[aK c,aK d,Iv 0,eL]) (bY.nM (dj.refl _) (bY.nM (dj.refl _) (bY.nM (dj.refl _) (bY.nM (dj.im (fZ.nil 4)) (bY.refl _)))))
 refine aj.walk [0,1,4,5,6,7,15] [] Tryz.func115 rfl Tryz.ntmps115 (by kernel_rfl) (by rfl) rfl fun W own I0 aq lay=>?_
 refine gO ?_
 refine AQ.fn (by kernel_rfl) rfl rfl rfl (U) rfl ?_
 refine sI ?_
 cases hk:bW c d []with
 |none=>
  refine gO ?_
  exact AE.aG rfl ⟨rfl,rfl,trivial⟩ rfl ⟨rfl,rfl⟩
 |some m=>
  have hG:=wx c d [] m hk
  have hl:=zR c d [] m hk
  have hs:=Tq m (hG.2 List.nodup_nil) (by simp at hl;omega)
  refine gO ?_
  refine AQ.fn (by kernel_rfl) rfl rfl rfl (hs) rfl ?_
  refine sI ?_
  refine gO ?_
  exact AE.aG rfl ⟨rfl,rfl,trivial⟩ rfl ⟨rfl,rfl⟩
def eM (c d:List Lt):Int:=if aW 4 9 2 3 c≠0 then aW 4 9 2 3 c else aW 4 9 2 3 d
def eo (c d:List Lt):Bool:=decide (eM c d=0)&&(bW c d []).isSome
def dY (c d:List Lt):Bd:=if eM c d=0 then nO c d else[]
theorem Lg {c d:List Lt}:eM c d=0↔aW 4 9 2 3 c=0/\aW 4 9 2 3 d=0:=by
 rw[eM]
 by_cases h:aW 4 9 2 3 c=0
 ·simp[h]
 ·simp[h]
theorem TE (c d:List Lt) (hc:cC c) (hd:cC d):aP Tryz.prog 43 [aK c,aK d] (.aM [cE (dY c d),Bv (eo c d),Iv (eM c d)]):=by
 refine aj.told (R:=fun r H'=>H'=[]/\(r= .aM [cE (dY c d),Bv (eo c d),Iv (eM c d)]\/dY c d=[]/\r= .aM [eL,Bv (eo c d),Iv (eM c d)])) ?_ (fun r H' ⟨hH,hr⟩=>⟨_,⟨hH,rfl⟩,by
  rcases hr with rfl|⟨hc,rfl⟩
  ·exact fun _ _ _ _ h=>h
  ·rw[hc]
   exact(show dj (.aM [eL,Bv (eo c d),Iv (eM c d)]) (.aM [cE [],Bv (eo c d),Iv (eM c d)]) from dj.aM (bY.nM (dj.im (fZ.nil 4)) (bY.refl _)))⟩)
 refine aj.walk [0,1,4,5,6,7,8,9,10,14,19] [] Tryz.func43 rfl Tryz.ntmps43 (by kernel_rfl) (by rfl) rfl fun W own I0 aq lay=>?_
 refine gO ?_
 refine AQ.fn (by kernel_rfl) rfl rfl rfl (AF c hc) rfl ?_
 refine sI ?_
 refine gO ?_
 refine AP.cond rfl rfl (fun U=>?_) (fun U=>?_)
 ·have U:aW 4 9 2 3 c≠0:=by simpa using U
  have hE:eM c d=aW 4 9 2 3 c:=by rw[eM,if_pos U]
  have hB:eo c d=false:=by rw[eo,hE,decide_eq_false U,Bool.false_and]
  have hR:dY c d=[]:=by rw[dY,hE,if_neg U]
  refine gO ?_
  exact AE.aG rfl ⟨rfl,rfl,rfl,trivial⟩ rfl ⟨rfl,.inr ⟨hR,by rw[hB,hE];rfl⟩⟩
 ·have U:¬aW 4 9 2 3 c≠0:=by simpa using U
  have r5:aW 4 9 2 3 c=0:=Classical.byContradiction U
  have hE:eM c d=aW 4 9 2 3 d:=by rw[eM,if_neg U]
  refine gO ?_
  refine AQ.fn (by kernel_rfl) rfl rfl rfl (AF d hd) rfl ?_
  refine sI ?_
  refine gO ?_
  refine AP.cond rfl rfl (fun h2=>?_) (fun h2=>?_)
  ·have h2:aW 4 9 2 3 d≠0:=by simpa using h2
   have hB:eo c d=false:=by rw[eo,hE,decide_eq_false h2,Bool.false_and]
   have hR:dY c d=[]:=by rw[dY,hE,if_neg h2]
   refine gO ?_
   exact AE.aG rfl ⟨rfl,rfl,rfl,trivial⟩ rfl ⟨rfl,.inr ⟨hR,by rw[hB,hE];rfl⟩⟩
  ·have kn:aW 4 9 2 3 d=0:=by simpa using h2
   have hB:eo c d=(bW c d []).isSome:=by rw[eo,hE,kn];rfl
   have hR:dY c d=nO c d:=by rw[dY,hE,kn,if_pos rfl]
   have hn:=(jO r5).2.1
   refine gO ?_
   refine AQ.fn (by kernel_rfl) rfl rfl rfl (NQ c d hc hd hn) rfl ?_
   refine sI ?_
   refine gO ?_
   exact AE.aG rfl ⟨rfl,rfl,rfl,trivial⟩ rfl ⟨rfl,.inl (by rw[hB,hE,hR,kn];rfl)⟩
abbrev E7 (b:Int×Tm):AV:= .agg [Iv b.1,Sv b.2.nm,Iv b.2.ix,.im (.sl 3 (ax b.2.xs))]
def lS (a b:Int×Tm):Bool:=a.1==b.1&&cX a.2 b.2
theorem M9 (a b:Int×Tm) (ha:aU a.2) (hb:aU b.2):aP Tryz.prog 117 [E7 a,E7 b] (Bv (lS a b)):=by
 refine aj.walk [0,1,2,3,4] [] Tryz.func117 rfl Tryz.ntmps117 (by kernel_rfl) (by rfl) rfl fun W own I0 aq lay=>?_
 refine gO ?_
 refine AP.cu 14 (Tree.node [] [0,1,2,3,4,5,6,7,9,10] [8] [Tree.node [9,10] [] [11] [Tree.node [] [12,13] [] []]]) (by kernel_rfl) rfl (by kernel_rfl) (by kernel_rfl) ?_
 refine cr ?_
 refine sI ?_
 refine AQ.mG (by kernel_rfl) rfl rfl (fun h=>by first|(simp[gs,AV.g];done)|(simp[gs,AV.g,bN];done)|(simp[gs,AV.g,bN,bw]at h⊢;done)|(simp[gs,AV.g,bN,bw]at h⊢;exact h)|(simp[gs,AV.g,bN,bw]at h⊢;simp[h];done)|(simp[bw]at h;done)|(simp[gs,AV.g,bw]at h⊢;simp[h];done)|(simp[gs,AV.g,bw]at h⊢;exact h.1)|(simp[gs,AV.g];rfl)|(simp[gs,AV.g,bw]at h⊢;rfl)|(simp[gs,AV.g,bw]at h⊢;simp[h];rfl)|(simp[gs,AV.g,bw]at h⊢;simp_all)) rfl (fun _=>An a.2 ha) rfl ?_
 refine sI ?_
 refine AQ.nx rfl ?_
 refine sI ?_
 refine AQ.mG (by kernel_rfl) rfl rfl (fun h=>by first|(simp[gs,AV.g];done)|(simp[gs,AV.g,bN];done)|(simp[gs,AV.g,bN,bw]at h⊢;done)|(simp[gs,AV.g,bN,bw]at h⊢;exact h)|(simp[gs,AV.g,bN,bw]at h⊢;simp[h];done)|(simp[bw]at h;done)|(simp[gs,AV.g,bw]at h⊢;simp[h];done)|(simp[gs,AV.g,bw]at h⊢;exact h.1)|(simp[gs,AV.g];rfl)|(simp[gs,AV.g,bw]at h⊢;rfl)|(simp[gs,AV.g,bw]at h⊢;simp[h];rfl)|(simp[gs,AV.g,bw]at h⊢;simp_all)) rfl (fun _=>zQ a.2 b.2 ha) rfl ?_
 refine sI ?_
 refine AQ.nx rfl ?_
 refine sI ?_
 refine AQ.done ?_
 refine gO ?_
 exact AE.aG rfl ⟨rfl,trivial⟩ rfl ⟨rfl,rfl⟩
theorem N0 (l m:Bd) (hl:je l) (hm:je m):aP Tryz.prog 116 [cE l,cE m,.fn 117 [] []] (Bv (dO lS l m)):=by
 have e8:=hl.1
 refine aj.walk [0,1,2,6,7,8,9,14,15,16,17,18,30] [8,9] Tryz.func116 rfl Tryz.ntmps116 (by kernel_rfl) (by rfl) rfl fun W own I0 aq lay=>?_
 refine gE @aI ?_
 refine AP.cond rfl rfl (fun U=>?_) (fun U=>?_)
 ·refine gO ?_
  exact AE.aG rfl ⟨rfl,trivial⟩ rfl ⟨rfl,by rw[tJ lS l m (by simp at U;omega)];rfl⟩
 ·have U:l.length=m.length:=by simp at U;omega
  refine gE @aI ?_
  refine AP.loop rfl (α:=Nat) (fun k=>[(1,cE m),(2,.fn 117 [] []),(15,cE l),(16,Iv l.length),(17,Iv k)]) (fun _=>[]) (fun k=>k<=l.length/\dO lS l m=dO lS (l.drop k) (m.drop k)) (fun k=>l.length-k) 0 ⟨by omega,rfl⟩ (sU) rfl fun k ⟨hk,he⟩=>?_
  rcases Nat.eq_or_lt_of_le hk with aC|ag
  ·refine gO ?_
   refine cF ?_
   refine gO ?_
   exact AE.aG rfl ⟨rfl,trivial⟩ rfl ⟨rfl,by rw[he,aC,List.drop_length,U,List.drop_length,dO];rfl⟩
  ·obtain⟨t,ht,aF⟩:=qj l k ag
   obtain⟨u,hu,cg⟩:=qj m k (by omega)
   have cK:=xr lS l m k t u ht hu
   have hw:=wr (x:=(k:Int)+1) (by omega)
   have hb:=M9 t u (hl.2 t (List.mem_of_getElem? ht)) (hm.2 u (List.mem_of_getElem? hu))
   refine gO ?_
   refine cT ?_
   refine gE @aF ?_
   refine⟨by rw[aI];omega,?_⟩
   refine gE @cg ?_
   refine⟨by rw[aI];omega,?_⟩
   refine gO ?_
   refine AQ.rK [] (by kernel_rfl) rfl rfl rfl rfl rfl rfl (fun k=>by exact trivial) (fun k=>rfl) (fun k=>rfl) (hb) ?_
   refine gO ?_
   refine AP.cond rfl rfl (fun h2=>?_) (fun h2=>?_)
   ·refine gO ?_
    refine AE.aX [1,0] rfl ⟨rfl,trivial⟩ rfl ⟨rfl,?_⟩
    rw[he,cK,show lS t u=false by simpa using h2];rfl
   ·refine gE @hw ?_
    refine AE.dq [1,0] rfl ?_
    refine sI ?_
    exact AE.round (k+1) ⟨by omega,by rw[he,cK,show lS t u=true by simpa using h2,Bool.true_and]⟩ (by omega) (sU) rfl
theorem M_ (l m:Bd) (hl:je l) (hm:je m):aP Tryz.prog 44 [cE l,cE m] (Bv (dO lS l m)):=by
 refine aj.walk [0,1,4] [] Tryz.func44 rfl Tryz.ntmps44 (by kernel_rfl) (by rfl) rfl fun W own I0 aq lay=>?_
 refine gO ?_
 refine AQ.fn (by kernel_rfl) rfl rfl rfl (N0 l m hl hm) rfl ?_
 refine sI ?_
 refine gO ?_
 exact AE.aG rfl ⟨rfl,trivial⟩ rfl ⟨rfl,rfl⟩
theorem Ge:∀l:Bd,dO lS l l=true
 |[]=>rfl
 |b::l=>by rw[dO,lS,Ge l,N1];simp
theorem S6 (l y:Lt) (hl:iZ l) (hy:iZ y):aP Tryz.prog 47 [jC y,.im (.pt (j8 l))] (Bv (dX l y)):=by
 refine aj.walk [0,1,2,3] [] Tryz.func47 rfl Tryz.ntmps47 (by kernel_rfl) (by rfl) rfl fun W own I0 aq lay=>?_
 refine gO ?_
 refine AQ.fn (by kernel_rfl) rfl rfl rfl (S7 l y hl) rfl ?_
 refine sI ?_
 refine gO ?_
 exact AE.aG rfl ⟨rfl,trivial⟩ rfl ⟨rfl,rfl⟩
theorem QY (c:List Lt) (l:Lt) (hc:cC c) (hl:iZ l):aP Tryz.prog 118 [aK c,.fn 47 [] [.im (.pt (j8 l))]] (Iv (dK (fun y=>dX l y) c 0)):=by
 have qE:=hc.1
 refine aj.walk [0,1,4,5,7,8,9,16] [] Tryz.func118 rfl Tryz.ntmps118 (by kernel_rfl) (by rfl) rfl fun W own I0 aq lay=>?_
 refine gE @aA ?_
 refine AP.loop rfl (α:=Nat) (fun k=>[(0,aK c),(1,.fn 47 [] [.im (.pt (j8 l))]),(7,Iv c.length),(8,Iv k)]) (fun _=>[]) (fun k=>k<=c.length/\dK (fun y=>dX l y) c 0=dK (fun y=>dX l y) (c.drop k) k) (fun k=>c.length-k) 0 ⟨by omega,rfl⟩ (sU) rfl fun k ⟨hk,hm⟩=>?_
 rcases Nat.eq_or_lt_of_le hk with aC|ag
 ·refine gO ?_
  refine cF ?_
  refine gO ?_
  exact AE.aG rfl ⟨rfl,trivial⟩ rfl ⟨rfl,by rw[hm,aC,List.drop_length,dK];rfl⟩
 ·obtain⟨u,hu,aF⟩:=fT c k ag
  have hw:=wr (x:=(k:Int)+1) (by omega)
  have cK:=vK (fun y=>dX l y) hu
  refine gO ?_
  refine cT ?_
  refine gE @aF ?_
  refine⟨by rw[aA];omega,?_⟩
  refine gO ?_
  refine AQ.rK [] (by kernel_rfl) rfl rfl rfl rfl rfl rfl (fun k=>by exact trivial) (fun k=>rfl) (fun k=>rfl) (S6 l u hl (hc.2 u (List.mem_of_getElem? hu))) ?_
  refine sI ?_
  refine gO ?_
  refine AP.cond rfl rfl (fun U=>?_) (fun U=>?_)
  ·refine gO ?_
   exact AE.aG rfl ⟨rfl,trivial⟩ rfl ⟨rfl,by rw[hm,cK,if_pos (by simpa using U)];rfl⟩
  ·refine gE @hw ?_
   exact AE.round (k+1) ⟨by omega,by rw[hm,cK,if_neg (by simpa using U)]⟩ (by omega) (sU) rfl
theorem MD (c:List Lt) (l:Lt) (hc:cC c) (hl:iZ l):aP Tryz.prog 46 [aK c,.fn 47 [] [.im (.pt (j8 l))]] (Bv (c.any fun y=>dX l y)):=by
 refine aj.walk [0,1,4] [] Tryz.func46 rfl Tryz.ntmps46 (by kernel_rfl) (by rfl) rfl fun W own I0 aq lay=>?_
 refine gO ?_
 refine AQ.fn (by kernel_rfl) rfl rfl rfl (QY c l hc hl) rfl ?_
 refine sI ?_
 refine gO ?_
 exact AE.aG rfl ⟨rfl,trivial⟩ rfl ⟨rfl,by rw[<-vJ (fun y=>dX l y) c 0];rfl⟩
theorem IQ:∀(m:Bd) (b:Int×Tm),(m.map (·.1)).Nodup->b∈m->dh m b.1=some b.2
 |[],b,_,h=>by cases h
 |c::m,b,hn,h=>by
  rw[List.map_cons,List.nodup_cons]at hn
  rw[dh]
  rcases List.mem_cons.1 h with rfl|h
  ·rw[if_pos rfl]
  ·rw[if_neg (show¬c.1=b.1 from fun e=>hn.1 (by rw[e];exact List.mem_map.2 ⟨b,h,rfl⟩))]
   exact IQ m b hn.2 h
theorem Fa:∀(l p:Bd),((p++l).map (·.1)).Nodup->(∀b∈l,0<=b.1/\b.1<1000/\aW 4 9 2 3 (dw b.2)=0)->fJ p l=0
 |[],p,_,_=>by rw[fJ]
 |b::l,p,hn,h=>by
  obtain⟨U,h2,h3⟩:=h b (by simp)
  rw[fJ,if_neg (by omega)]
  have h4:dh p b.1=none:=by
   cases hl:dh p b.1 with
   |none=>rfl
   |some x=>
    have:=zc hl
    rw[List.map_append,List.nodup_append]at hn
    exact absurd rfl (hn.2.2 b.1 (List.mem_map.2 ⟨_,this,rfl⟩) b.1 (by simp))
  rw[h4,if_neg (by simp),if_neg (by simpa using h3)]
  exact Fa l (p++[b]) (by rw[List.append_assoc];exact hn) fun x hx=>h x (by simp[hx])
theorem ES (l:Bd):∀(k:List Tm) (n:Int),0<=n->(∀t∈k,dE t=true)->n+(aw (bf (bo l) k):Int)<=4000->nE l k n=n+(aw (bf (bo l) k):Int)
 |[],n,_,_,_=>by rw[nE,bf,aw];simp
 |t::k,n,h0,h,hb=>by
  rw[bf,aw]at hb⊢
  have U:=DX l t (h t (by simp))
  have h2:oI l t=(wT (aB (bo l) t):Int):=by rw[U];omega
  rw[nE,if_neg (by rw[h2];omega),ES l k _ (by rw[h2];omega) (fun u hu=>h u (by simp[hu])) (by rw[h2];omega),h2]
  omega
theorem Dx {c:List Lt} {l:Lt} (h:l∈c):1+aw l.xs<=bC c:=by
 induction c with
 |nil=>cases h
 |cons x c ih=>
  rw[iB]
  rcases List.mem_cons.1 h with rfl|h
  ·omega
  ·have:=ih h;omega
theorem F8 {c:List Lt} {l:Lt} (h:l∈c):dm l.xs<=cW c:=by
 induction c with
 |nil=>cases h
 |cons x c ih=>
  rw[cW]
  rcases List.mem_cons.1 h with rfl|h
  ·omega
  ·have:=ih h;omega
def okB (b:Int×Tm):Prop:=0<=b.1/\b.1<1000/\dE b.2=true/\wT b.2<=3999/\cG b.2<=100
mutual
theorem RX:∀(p t:Tm) (m:Bd),dE p=true->dE t=true->wT t<=3999->cG t<=100->(∀b∈m,okB b)->∀b∈(bT p t m).1,okB b
 | .mk n i xs,t,m,hp,ht,hw,hd,hm=>by
  rw[bT]
  rw[dE]at hp
  by_cases hn:n=[]
  ·rw[if_pos hn]at hp⊢
   cases dh m i with
   |some x=>exact hm
   |none=>
    intro b hb
    rcases List.mem_append.1 hb with hb|hb
    ·exact hm b hb
    ·rw[List.mem_singleton]at hb
     subst hb
     simp only[Bool.and_eq_true,decide_eq_true_eq]at hp
     exact⟨hp.2.1,hp.2.2,ht,hw,hd⟩
  ·rw[if_neg hn]at hp⊢
   rw[Bool.and_eq_true]at hp
   split
   ·exact hm
   ·refine Ds xs t.xs m hp.2 ?_ ?_ ?_ hm
    ·rw[s6]at ht
     rename_i hc
     rw[if_neg (fun e=>hn (by
      have:n=t.nm:=Classical.byContradiction fun h=>hc (.inl h)
      rw[this,e])),Bool.and_eq_true]at ht
     exact ht.2
    ·have:=tv t;omega
    ·have:=F9 t;omega
theorem Ds:∀(l k:List Tm) (m:Bd),cf l=true->cf k=true->aw k<=3999->dm k<=100->(∀b∈m,okB b)->∀b∈(b9 l k m).1,okB b
 |[],k,m,_,_,_,_,hm=>by rw[wb];exact hm
 |a::l,[],m,_,_,_,_,hm=>by
  have h2:b9 (a::l) [] m=(m,true):=by rw[b9]<;>simp
  rw[h2];exact hm
 |a::l,b::k,m,hl,hk,hw,hd,hm=>by
  rw[cf,Bool.and_eq_true]at hl hk
  rw[aw]at hw
  rw[dm]at hd
  have U:=RX a b m hl.1 hk.1 (by omega) (by omega) hm
  rw[b9]
  split
  ·exact Ds l k _ hl.2 hk.2 (by omega) (by omega) U
  ·exact U
end
theorem DW:∀(c d:List Lt) (m m':Bd),c.all ej=true->d.all ej=true->bC d<=4000->cW d<=100->(∀b∈m,okB b)->bW c d m=some m'->∀b∈m',okB b
 |[],d,m,m',_,_,_,_,hm,h=>by rw[bW]at h;cases h;exact hm
 |x::c,d,m,m',hc,hd,hw,hp,hm,h=>by
  rw[List.all_cons,Bool.and_eq_true]at hc
  rw[wv]at h
  obtain⟨y,fg,hy⟩:=List.exists_of_findSome?_eq_some h
  rw[fV]at hy
  split at hy
  ·refine DW c d _ m' hc.2 hd hw hp ?_ hy
   rw[ew]
   split
   ·have sF:=List.all_eq_true.1 hd y fg
    have U:1+aw y.xs<=bC d:=Dx fg
    exact Ds x.xs y.xs m (wg hc.1) (wg sF) (by omega) (Nat.le_trans (F8 fg) hp) hm
   ·exact hm
  ·cases hy
theorem Nr (f:Int->Tm) (x:Lt):(ec f x).xs=bf f x.xs:=rfl
theorem LS:∀a b:List Tm,aw (a++b)=aw a+aw b
 |[],b=>by rw[List.nil_append,aw];omega
 |x::a,b=>by rw[List.cons_append,aw,aw,LS a b];omega
theorem Ns (f:Int->Tm) (a b:List Tm):bf f (a++b)=bf f a++bf f b:=by rw[h_,h_,h_,List.map_append]
theorem Ft (f:Int->Tm) (B:Nat):∀c:List Lt,(∀x∈c,aw (ec f x).xs<=B)->aw (bf f (c.flatMap (·.xs)))<=c.length*B
 |[],_=>by simp[bf,aw]
 |x::c,h=>by
  have U:=h x (by simp)
  rw[Nr]at U
  have h2:=Ft f B c fun y hy=>h y (by simp[hy])
  rw[List.flatMap_cons,Ns,LS,List.length_cons,Nat.add_mul,Nat.one_mul]
  omega
theorem Jy (B:Nat):∀c:List Lt,(∀x∈c,1+aw x.xs<=B)->bC c<=c.length*B
 |[],_=>by simp[bC]
 |x::c,h=>by
  have U:=h x (by simp)
  have h2:=Jy B c fun y hy=>h y (by simp[hy])
  rw[iB,List.length_cons,Nat.add_mul,Nat.one_mul]
  omega
theorem Ga (B:Nat):∀c:List Lt,(∀x∈c,dm x.xs<=B)->cW c<=B
 |[],_=>by rw[cW];omega
 |x::c,h=>by
  have U:=h x (by simp)
  have h2:=Ga B c fun y hy=>h y (by simp[hy])
  rw[cW];omega
theorem TC {c d:List Lt} {m:Bd} (hc:aW 4 9 2 3 c=0) (hd:aW 4 9 2 3 d=0) (h6:c.length<=6) (ye:bC d<=40) (h:bW c d []=some m):
  tN c (bF [] m)=0/\∀y∈oW c (bF [] m),y∈d:=by
 obtain⟨c1,c2,c3,c4⟩:=jO hc
 obtain⟨d1,d2,d3,d4⟩:=jO hd
 have k8:c.all ej=true:=List.all_eq_true.2 c4
 have Hk:d.all ej=true:=List.all_eq_true.2 d4
 have hG:=wx c d [] m h
 have bg:(m.map (·.1)).Nodup:=hG.2 List.nodup_nil
 have Ch:(bF [] m).Perm m:=by have:=ti m [];rwa [List.nil_append]at this
 have HI:((bF [] m).map (·.1)).Nodup:=(Ch.map _).nodup_iff.2 bg
 have ai:=DW c d [] m k8 Hk (by omega) d3 (fun b hb=>by cases hb) h
 have dJ:fJ [] (bF [] m)=0:=Fa _ [] (by rw[List.nil_append];exact HI) fun b hb=>by
  obtain⟨e1,e2,e3,e4,e5⟩:=ai b (Ch.mem_iff.1 hb)
  exact⟨e1,e2,Ny e3 e4 e5⟩
 have O7:lJ m (bo (bF [] m)):=fun b hb=>by
  rw[bo,IQ _ b HI (Ch.mem_iff.2 hb)];rfl
 have cL:=KF c d [] m _ k8 Hk h O7
 have Ha:nG c (bF [] m)=ct (bo (bF [] m)) c:=Am c4
 have ll:∀y∈ct (bo (bF [] m)) c,y∈d:=fun y hy=>by
  rw[ct]at hy
  obtain⟨x,hx,rfl⟩:=List.mem_map.1 hy
  exact cL x hx
 have hlen:(ct (bo (bF [] m)) c).length=c.length:=List.length_map ..
 have dU:aW 4 9 2 3 (ct (bo (bF [] m)) c)=0:=by
  rw[xN (by decide) (by decide) (by decide) (by decide)]
  refine⟨by omega,?_,?_,List.all_eq_true.2 fun y hy=>d4 y (ll y hy)⟩
  ·have:=Jy 40 _ fun y hy=>Nat.le_trans (Dx (ll y hy)) ye
   omega
  ·exact Ga 100 _ fun y hy=>Nat.le_trans (F8 (ll y hy)) d3
 have ez:nE (bF [] m) (c.flatMap (·.xs)) c.length=(c.length:Int)+(aw (bf (bo (bF [] m)) (c.flatMap (·.xs))):Int)/\aw (bf (bo (bF [] m)) (c.flatMap (·.xs)))<=240:=by
  have hs:=Ft (bo (bF [] m)) 40 c fun x hx=>by have:=Dx (cL x hx);omega
  refine⟨ES _ _ _ (by omega) (fun t ht=>?_) (by omega),by omega⟩
  obtain⟨x,hx,QM⟩:=List.mem_flatMap.1 ht
  exact oD (q9 (c4 x hx)) t QM
 have hE:rI c (bF [] m)=0:=by
  rw[rI,ez.1,if_neg (by have:=ez.2;omega),Ha,dU,if_neg (by decide)]
 refine⟨by rw[tN,if_neg (by rw[hc];decide),if_neg (by rw[dJ];decide),hE],?_⟩
 rw[oW,if_neg (by rw[hc];decide),if_neg (by rw[dJ];decide),tL,if_pos hE,Ha]
 exact ll
theorem DV:∀(c d:List Lt) (m m':Bd),cC d->(∀b∈m,aU b.2)->bW c d m=some m'->∀b∈m',aU b.2
 |[],d,m,m',_,hm,h=>by rw[bW]at h;cases h;exact hm
 |x::c,d,m,m',hd,hm,h=>by
  rw[wv]at h
  obtain⟨y,fg,hy⟩:=List.exists_of_findSome?_eq_some h
  rw[fV]at hy
  split at hy
  ·exact DV c d _ m' hd (Gr x y m (hd.2 y fg).2.2 hm) hy
  ·cases hy
theorem Up {c:List Lt} {l:Lt} (h:l∈c):aw l.xs<=bC c:=by
 induction c with
 |nil=>cases h
 |cons x c ih=>
  rw[iB]
  rcases List.mem_cons.1 h with rfl|h
  ·omega
  ·have:=ih h;omega
theorem Lk (yE:∀m:Bd,cN m->(∀b∈m,aU b.2/\dE b.2=true)->m.length<=4000->aj Tryz.prog 114 [.mp 0] (fU m) (fun r H'=>r=cE (bF [] m)/\H'=fU m))
  (c d:List Lt) (hc:cC c) (hd:cC d):aP Tryz.prog 42 [aK c,aK d] (.aM [cE (dY c d),Bv (eo c d),Iv (eM c d)]):=by
 refine aj.told (R:=fun r H'=>H'=[]/\(r= .aM [cE (dY c d),Bv (eo c d),Iv (eM c d)]\/dY c d=[]/\r= .aM [eL,Bv (eo c d),Iv (eM c d)])) ?_ (fun r H' ⟨hH,hr⟩=>⟨_,⟨hH,rfl⟩,by
  rcases hr with rfl|⟨hc,rfl⟩
  ·exact fun _ _ _ _ h=>h
  ·rw[hc]
   exact(show dj (.aM [eL,Bv (eo c d),Iv (eM c d)]) (.aM [cE [],Bv (eo c d),Iv (eM c d)]) from dj.aM (bY.nM (dj.im (fZ.nil 4)) (bY.refl _)))⟩)
 refine aj.walk [0,1,4,5,6,7,8,9,13,18,25] [] Tryz.func42 rfl Tryz.ntmps42 (by kernel_rfl) (by rfl) rfl fun W own I0 aq lay=>?_
 refine gO ?_
 refine AQ.fn (by kernel_rfl) rfl rfl rfl (oZ c hc) rfl ?_
 refine sI ?_
 refine gO ?_
 refine AP.cond rfl rfl (fun U=>?_) (fun U=>?_)
 ·have U:aW 4 9 2 3 c≠0:=by simpa using U
  have hE:eM c d=aW 4 9 2 3 c:=by rw[eM,if_pos U]
  have hB:eo c d=false:=by rw[eo,hE,decide_eq_false U,Bool.false_and]
  have hR:dY c d=[]:=by rw[dY,hE,if_neg U]
  refine gO ?_
  exact AE.aG rfl ⟨rfl,rfl,rfl,trivial⟩ rfl ⟨rfl,.inr ⟨hR,by rw[hB,hE];rfl⟩⟩
 ·have U:¬aW 4 9 2 3 c≠0:=by simpa using U
  have r5:aW 4 9 2 3 c=0:=Classical.byContradiction U
  have hE:eM c d=aW 4 9 2 3 d:=by rw[eM,if_neg U]
  refine gO ?_
  refine AQ.fn (by kernel_rfl) rfl rfl rfl (oZ d hd) rfl ?_
  refine sI ?_
  refine gO ?_
  refine AP.cond rfl rfl (fun h2=>?_) (fun h2=>?_)
  ·have h2:aW 4 9 2 3 d≠0:=by simpa using h2
   have hB:eo c d=false:=by rw[eo,hE,decide_eq_false h2,Bool.false_and]
   have hR:dY c d=[]:=by rw[dY,hE,if_neg h2]
   refine gO ?_
   exact AE.aG rfl ⟨rfl,rfl,rfl,trivial⟩ rfl ⟨rfl,.inr ⟨hR,by rw[hB,hE];rfl⟩⟩
  ·have kn:aW 4 9 2 3 d=0:=by simpa using h2
   have hB:eo c d=(bW c d []).isSome:=by rw[eo,hE,kn];rfl
   have hR:dY c d=nO c d:=by rw[dY,hE,kn,if_pos rfl]
   have hn:=(jO r5).2.1
   have hs:=Lj c d [] hc hd List.nodup_nil (fun b hb=>by cases hb) (fun l hl=>Nat.le_trans (Up hl) hn)
   refine gO ?_
   refine AQ.vY (by kernel_rfl) ?_
   refine sI ?_
   refine gO ?_
   refine AQ.bz [(0,0)] (by kernel_rfl) rfl rfl rfl rfl rfl rfl (by refine⟨?_,trivial⟩;simp only[cH,AV.cd,AV.rn,jH];rfl) rfl hs fun r' H' ⟨e1,e2⟩=>?_
   subst e1;subst e2
   simp only[go_sem,Nat.reduceAdd,Nat.reduceLeDiff,Nat.reduceSub,Int.reduceToNat,reduceCtorEq,c6,eK,bZ,fh,fU]
   cases hk:bW c d []with
   |none=>
    rw[hk]at hB
    have Bx:dY c d=[]:=by rw[hR,nO,hk]
    refine gO ?_
    exact AE.aX [0] rfl ⟨rfl,rfl,rfl,trivial⟩ (by simp only[go_sem,Nat.reduceAdd,Nat.reduceLeDiff,Nat.reduceSub,Int.reduceToNat,reduceCtorEq,ba,noMen,AV.mens,AV.men,cp,Bool.or_false];first|done|rfl) ⟨rfl,.inr ⟨Bx,by rw[hB,hE,kn];rfl⟩⟩
   |some m=>
    rw[hk]at hB
    have Bx:dY c d=bF [] m:=by rw[hR,nO,hk]
    have hG:=wx c d [] m hk
    have hl:=zR c d [] m hk
    have hq:=yE m (hG.2 List.nodup_nil) (fun b hb=>⟨DV c d [] m hd (fun b hb=>by cases hb) hk b hb,(DW c d [] m (List.all_eq_true.2 (jO r5).2.2.2) (List.all_eq_true.2 (jO kn).2.2.2) (jO kn).2.1 (jO kn).2.2.1 (fun b hb=>by cases hb) hk b hb).2.2.1⟩) (by simp at hl;omega)
    refine gO ?_
    simp only[go_sem,Nat.reduceAdd,Nat.reduceLeDiff,Nat.reduceSub,Int.reduceToNat,reduceCtorEq,Option.getD_some]
    refine AQ.bz [(0,0)] (by kernel_rfl) rfl rfl rfl rfl rfl rfl (by refine⟨?_,trivial⟩;simp only[cH,AV.cd,AV.rn,jH];rfl) rfl hq fun r' H' ⟨e1,e2⟩=>?_
    subst e1;subst e2
    simp only[go_sem,Nat.reduceAdd,Nat.reduceLeDiff,Nat.reduceSub,Int.reduceToNat,reduceCtorEq,c6,eK,bZ,fh,fU]
    refine gO ?_
    exact AE.aX [0] rfl ⟨rfl,rfl,rfl,trivial⟩ (by simp only[go_sem,Nat.reduceAdd,Nat.reduceLeDiff,Nat.reduceSub,Int.reduceToNat,reduceCtorEq,ba,noMen,AV.mens,AV.men,cp,Bool.or_false];first|done|rfl) ⟨rfl,.inl (by rw[hB,hE,Bx,kn];rfl)⟩
theorem TB {c d:List Lt} (hd:cC d) (hn:eM c d=0->bC c<=4000):je (dY c d):=by
 rw[dY]
 split
 ·rename_i h
  rw[nO]
  cases hk:bW c d []with
  |none=>exact⟨by simp,fun b hb=>by cases hb⟩
  |some m=>
   have hp:(bF [] m).Perm m:=by have:=ti m [];rwa [List.nil_append]at this
   have hl:=zR c d [] m hk
   have:=hn h
   exact⟨by show(bF [] m).length<=_;rw[hp.length_eq];simp at hl;omega,fun b hb=>DV c d [] m hd (fun b hb=>by cases hb) hk b (hp.mem_iff.1 hb)⟩
 ·exact⟨by simp,fun b hb=>by cases hb⟩
theorem TD (yE:∀m:Bd,cN m->(∀b∈m,aU b.2/\dE b.2=true)->m.length<=4000->aj Tryz.prog 114 [.mp 0] (fU m) (fun r H'=>r=cE (bF [] m)/\H'=fU m))
  (c d:List Lt) (hc:nK c) (hd:nK d):aP Tryz.prog 6 [aK c,aK d] (Bv true):=by
 refine aj.walk [0,1,4,5,6,7,8,9,10,12,13,14,15,17,35,66,69,85,86,95,97,98,99,100,106] [17] Tryz.func6 rfl Tryz.ntmps6 (by kernel_rfl) (by rfl) rfl fun W own I0 aq lay=>?_
 refine gO ?_
 refine AQ.fn (by kernel_rfl) rfl rfl rfl (KW c 40 hc (by omega)) rfl ?_
 refine sI ?_
 refine gO ?_
 refine AQ.mG (by kernel_rfl) rfl rfl (fun h=>by first|(simp[gs,AV.g];done)|(simp[gs,AV.g,bN];done)|(simp[gs,AV.g,bN,bw]at h⊢;done)|(simp[gs,AV.g,bN,bw]at h⊢;exact h)|(simp[gs,AV.g,bN,bw]at h⊢;simp[h];done)|(simp[bw]at h;done)|(simp[gs,AV.g,bw]at h⊢;simp[h];done)|(simp[gs,AV.g,bw]at h⊢;exact h.1)|(simp[gs,AV.g];rfl)|(simp[gs,AV.g,bw]at h⊢;rfl)|(simp[gs,AV.g,bw]at h⊢;simp[h];rfl)|(simp[gs,AV.g,bw]at h⊢;simp_all)) rfl (fun _=>KW d 40 hd (by omega)) rfl ?_
 refine sI ?_
 refine gE @aA ?_
 refine AP.cond rfl rfl (fun h=>?_) (fun h=>?_)
 ·refine gO ?_
  refine AQ.fn (by kernel_rfl) rfl rfl rfl (xx) rfl ?_
  refine sI ?_
  refine gO ?_
  exact AE.aG rfl ⟨rfl,trivial⟩ rfl ⟨rfl,rfl⟩
 ·have U:zW c 40=true/\zW d 40=true/\c.length<=6:=by
   rw[aA,aA,Bool.or_eq_false_iff,Bool.or_eq_false_iff,Bool.or_eq_false_iff,Bool.not_eq_false',Bool.not_eq_false',decide_eq_false_iff_not]at h
   exact⟨h.1.1.1,h.1.1.2,by have:=h.1.2;omega⟩
  obtain⟨lW,uB⟩:=KV (by omega) U.1
  obtain⟨uC,jW⟩:=KV (by omega) U.2.1
  have hS:=Lk yE c d lW uC
  have hR:=TE c d lW uC
  have yD:je (dY c d):=TB uC fun _=>by omega
  have fA:=M_ (dY c d) (dY c d) yD yD
  rw[Ge]at fA
  clear h
  refine gO ?_
  refine AQ.fn (by kernel_rfl) rfl rfl rfl (tX c lW) rfl ?_
  refine sI ?_
  refine AQ.fn (by kernel_rfl) rfl rfl rfl (tX d uC) rfl ?_
  refine sI ?_
  refine AQ.fn (by kernel_rfl) rfl rfl rfl (hS) rfl ?_
  refine sI ?_
  refine gO ?_
  refine AQ.fn (by kernel_rfl) rfl rfl rfl (hR) rfl ?_
  refine sI ?_
  refine gO ?_
  refine AQ.fn (by kernel_rfl) rfl rfl rfl (fA) rfl ?_
  refine sI ?_
  have Pr:(eM c d !=eM c d)=false:=by simp
  have Pp:(eo c d !=eo c d)=false:=by simp
  refine gE (an @Pr @Pp) ?_
  refine AQ.fn (by kernel_rfl) rfl rfl rfl (AF c lW) rfl ?_
  refine sI ?_
  refine gO ?_
  refine AP.cond rfl rfl (fun h2=>?_) (fun h2=>?_)
  ·refine gO ?_
   refine AQ.fn (by kernel_rfl) rfl rfl rfl (xx) rfl ?_
   refine sI ?_
   refine gO ?_
   exact AE.aG rfl ⟨rfl,trivial⟩ rfl ⟨rfl,rfl⟩
  have h2:aW 4 9 2 3 c=0:=by simpa using h2
  have G_:=Lk yE c c lW lW
  have eE:eM c c=0:=Lg.2 ⟨h2,h2⟩
  have eB:eo c c=true:=by rw[eo,eE,Ta (List.all_eq_true.2 (jO h2).2.2.2)];rfl
  rw[eE,eB]at G_
  refine gO ?_
  refine AQ.fn (by kernel_rfl) rfl rfl rfl (tX c lW) rfl ?_
  refine sI ?_
  refine AQ.fn (by kernel_rfl) rfl rfl rfl (tX c lW) rfl ?_
  refine sI ?_
  refine AQ.fn (by kernel_rfl) rfl rfl rfl (G_) rfl ?_
  refine sI ?_
  refine gO ?_
  cases oc:eo c d with
  |false=>
   refine gO ?_
   refine AQ.fn (by kernel_rfl) rfl rfl rfl (xx) rfl ?_
   refine sI ?_
   refine gO ?_
   exact AE.aG rfl ⟨rfl,trivial⟩ rfl ⟨rfl,rfl⟩
  |true=>
   have Br:eM c d=0/\(bW c d []).isSome=true:=by
    rw[eo,Bool.and_eq_true,decide_eq_true_iff]at oc;exact oc
   obtain⟨m,hm⟩:=Option.isSome_iff_exists.1 Br.2
   have OY:dY c d=bF [] m:=by rw[dY,if_pos Br.1,nO,hm]
   obtain⟨a1,a2⟩:=TC h2 (Lg.1 Br.1).2 U.2.2 (by omega) hm
   rw[<-OY]at a1 a2
   have hP:=MO c (dY c d) lW yD
   have Ck:=MY lW yD
   rw[a1]at hP
   generalize oW c (dY c d)=o at*
   have ho:=Ck.1
   refine gO ?_
   refine AQ.fn (by kernel_rfl) rfl rfl rfl (tX c lW) rfl ?_
   refine sI ?_
   refine AQ.fn (by kernel_rfl) rfl rfl rfl (hP) rfl ?_
   refine sI ?_
   refine gO ?_
   refine AQ.fn (by kernel_rfl) rfl rfl rfl (M1 o Ck) rfl ?_
   refine sI ?_
   refine gE @aA ?_
   refine sE @aA ?_
   refine AP.loop rfl (α:=Nat) (fun k=>[(0,aK c),(1,aK d),(97,aK o),(98,Iv o.length),(99,Iv k)]) (fun _=>[]) (fun k=>k<=o.length) (fun k=>o.length-k) 0 (by omega) (sU) rfl fun k hk=>?_
   rcases Nat.eq_or_lt_of_le hk with aC|ag
   ·refine gO ?_
    refine cF ?_
    refine gO ?_
    refine AQ.fn (by kernel_rfl) rfl rfl rfl (xx) rfl ?_
    refine sI ?_
    refine gO ?_
    exact AE.aG rfl ⟨rfl,trivial⟩ rfl ⟨rfl,rfl⟩
   ·obtain⟨y,hy,aF⟩:=fT o k ag
    have hw:=wr (x:=(k:Int)+1) (by omega)
    have sF:=List.mem_of_getElem? hy
    have fg:=a2 y sF
    have uz:(d.any fun z=>dX y z)=true:=List.any_eq_true.2 ⟨y,fg,(DU y y).2 rfl⟩
    have hq:=MD d y uC (Ck.2 y sF)
    rw[uz]at hq
    refine gO ?_
    refine cT ?_
    refine gE @aF ?_
    refine⟨by rw[aA];omega,?_⟩
    refine gO ?_
    refine AQ.fix 0 rfl rfl ?_
    refine sI ?_
    refine AQ.fn (by kernel_rfl) rfl rfl rfl (hq) rfl ?_
    refine sI ?_
    refine gE @hw ?_
    exact AE.round (k+1) (by omega) (by omega) (sU) rfl
def iY (m:Bd):aa:=[(1,.var 158 [.mp 0]),(0,.var (.map (kI m)) (vT m))]
theorem Q5 (m:Bd):aj Tryz.prog 174 [.mp 0] (fU m) (fun r H'=>r= .fn 213 [] [.ob 1 0]/\H'=iY m):=by
 refine aj.walk [0,1,2] [0,1] Tryz.func174 rfl Tryz.ntmps174 (by kernel_rfl) (by rfl) rfl fun W own I0 aq lay=>?_
 simp only[go_sem,Nat.reduceAdd,Nat.reduceLeDiff,Nat.reduceSub,Int.reduceToNat,reduceCtorEq,fU]
 refine gO ?_
 exact AE.aX [] rfl ⟨rfl,trivial⟩ (by simp only[go_sem,Nat.reduceAdd,Nat.reduceLeDiff,Nat.reduceSub,Int.reduceToNat,reduceCtorEq,ba,noMen,AV.mens,AV.men,cp,Bool.or_false];first|done|rfl) ⟨rfl,rfl⟩
theorem Rt {m:Bd} (bg:cN m) {b:Int×Tm} (hb:b∈bF [] m):∃j:Nat,m[j]?=some b:=by
 have hp:(bF [] m).Perm m:=by have:=ti m [];rwa [List.nil_append]at this
 exact List.mem_iff_getElem?.1 (hp.mem_iff.1 hb)
theorem Rr (vm:∀m:Bd,cN m->m.length<=4000->aj Tryz.prog 120 [.fn 213 [] [.ob 1 0]] (iY m) (fun r H'=>r= .im (.sl 1 (dQ ((bF [] m).map (·.1))))/\H'=iY m))
  (m:Bd) (bg:cN m) (lj:∀b∈m,aU b.2/\dE b.2=true) (hl:m.length<=4000):aj Tryz.prog 114 [.mp 0] (fU m) (fun r H'=>r=cE (bF [] m)/\H'=fU m):=by
 have hk:=Q5 m
 have hs:=vm m bg hl
 have mU:(bF [] m).length=m.length:=by rw[K2];simp
 refine aj.walk [0,2,3,5,8,9,10,11] [] Tryz.func114 rfl Tryz.ntmps114 (by kernel_rfl) (by rfl) rfl fun W own I0 aq lay=>?_
 simp only[go_sem,Nat.reduceAdd,Nat.reduceLeDiff,Nat.reduceSub,Int.reduceToNat,reduceCtorEq,fU]
 refine gO ?_
 refine AQ.bz [(0,0)] (by kernel_rfl) rfl rfl rfl rfl rfl rfl (by refine⟨?_,trivial⟩;simp only[cH,AV.cd,AV.rn,jH];rfl) rfl hk fun r' H' ⟨e1,e2⟩=>?_
 subst e1;subst e2
 simp only[go_sem,Nat.reduceAdd,Nat.reduceLeDiff,Nat.reduceSub,Int.reduceToNat,reduceCtorEq,c6,eK,bZ,fh,iY]
 refine AQ.bz [(1,2),(0,0)] (by kernel_rfl) rfl rfl rfl rfl rfl rfl (by refine⟨?_,?_,trivial⟩<;>(simp only[cH,AV.cd,AV.rn,jH];rfl)) rfl hs fun r' H' ⟨e1,e2⟩=>?_
 subst e1;subst e2
 simp only[go_sem,Nat.reduceAdd,Nat.reduceLeDiff,Nat.reduceSub,Int.reduceToNat,reduceCtorEq,c6,eK,bZ,fh,iY]
 refine gO ?_
 refine sE (an @jy @List.length_map.{0,0}) ?_
 refine AP.own 3 98 4 rfl ?_
 refine sI ?_
 have Wu:=mU
 generalize hS:bF [] m=l at*
 refine AP.loop rfl (α:=Nat) (fun k=>[(0,.mp 0),(3,.os 3 4 0 k),(8,.im (.sl 1 (dQ (l.map (·.1))))),(9,Iv l.length),(10,Iv k)]) (fun k=>[(3,.vec 98 4 (db (l.take k))),(2,.var 158 [.mp 0]),(0,.var (.map (kI m)) (vT m))]) (fun k=>k<=l.length) (fun k=>l.length-k) 0 (by omega) (sU) rfl fun k hk=>?_
 rcases Nat.eq_or_lt_of_le hk with aC|ag
 ·subst aC
  rw[List.take_length]
  refine gO ?_
  refine cF ?_
  refine gO ?_
  refine AE.freeze 3 (el:=98) (es:=4) (rows:=db l) rfl (by simp only[go_sem,Nat.reduceAdd,Nat.reduceLeDiff,Nat.reduceSub,Int.reduceToNat,reduceCtorEq,aI];first|done|trivial|omega|(simp;done)|(simp;omega)) (by simp only[go_sem,Nat.reduceAdd,Nat.reduceLeDiff,Nat.reduceSub,Int.reduceToNat,reduceCtorEq,aI];first|done|trivial|omega|(simp;done)|(simp;omega)) ?_;simp only[go_sem,Nat.reduceAdd,Nat.reduceLeDiff,Nat.reduceSub,Int.reduceToNat,reduceCtorEq,aI]
  rw[tO _ _ (by omega)]
  exact AE.aX [2] rfl ⟨rfl,trivial⟩ (by simp only[go_sem,Nat.reduceAdd,Nat.reduceLeDiff,Nat.reduceSub,Int.reduceToNat,reduceCtorEq,ba,noMen,AV.mens,AV.men,cp,Bool.or_false];first|done|rfl) ⟨rfl,rfl⟩
 ·have hb:l[k]?=some l[k]:=List.getElem?_eq_getElem ag
  generalize l[k]=b at hb
  have hw:=wr (x:=(k:Int)+1) (by omega)
  have Qf:=De hb
  have aY:=gP (l:=l) (k:=k) (by omega)
  have bc:=c7 hb
  obtain⟨j,hj⟩:=Rt bg (b:=b) (by rw[hS];exact List.mem_of_getElem? hb)
  have Hf:=lj b (List.mem_of_getElem? hj)
  have Hj:=FF b.2 Hf.1
  rw[AB cQ b.2 Hf.2 fun v _=>rfl]at Hj
  refine gO ?_
  refine cT ?_
  refine gE (an @Qf (an @jy @List.length_map.{0,0})) ?_
  refine AQ.pI j (by kernel_rfl) rfl rfl rfl kS u3 (ft _) rfl (List.mem_of_getElem? (show(kI m)[j]?=some (.int .i64 b.1) from ma hj)) (fun i hi=>mb bg (show m[j]?=some (b.1,b.2) from hj) hi) (show(vT m)[j]?=some (bp b.2) from wP hj) ?_
  refine sI ?_
  refine AQ.fn (by kernel_rfl) rfl rfl rfl (Hj) rfl ?_
  refine sI ?_
  refine gO ?_
  refine AQ.append (hnb:=rfl) (rows:=db (l.take k)) (es:=3) (by kernel_rfl) rfl rfl rfl (by first|(simp only[go_sem,noMen,AV.mens,AV.men,Bool.or_false];done)|(simp only[go_sem,noMen,AV.mens,AV.men,Bool.or_false];rfl)) Tryz.TS Tryz.TL (by show Option.map _ (az Tryz.prog 98)=_;rw[Tryz.UL];rfl) Tryz.Nl (by first|rfl|(simp only[aI,aY,List.length_cons,List.length_nil];done)|(simp only[aI,aY,List.length_cons,List.length_nil];omega)) (by simp only[aI,aY,List.length_cons,List.length_nil];omega) (by simp only[aI,aY,List.length_cons,List.length_nil];omega) ?_
  simp only[go_sem,Nat.reduceAdd,Nat.reduceLeDiff,Nat.reduceSub,Int.reduceToNat,reduceCtorEq,aI,aY,gf,kf,<-bc]
  refine gE @hw ?_
  exact AE.round (k+1) (by omega) (by omega) (sU) rfl
end Go.Proofs.YtpfohmboflcneaaGreatDoor
end
section
namespace Go.Proofs
open Go.Shelf
def Tryz.Rb:Go.Shelf.Ren:=⟨fun|189=>181|125=>216|257=>215|128=>239|129=>240|294=>230|295=>231|296=>232|297=>233|298=>234|299=>235|216=>236|300=>237|301=>238|328=>251|329=>252|330=>253|331=>254|332=>255|215=>229|343=>263|n=>n,fun|28=>46|3=>3|46=>295|0=>0|51=>312|53=>314|4=>4|183=>305|182=>304|131=>75|5=>5|9=>9|218=>326|222=>330|228=>342|229=>343|n=>n,fun|n=>n⟩
theorem Tryz.II:Go.Proofs.Lays.n189 Tryz.prog Tryz.Rb:={
 mixed:=by kernel_rfl
 f125:=Tryz.func216.trans (congrArg some (by kernel_rfl))
 f128:=Tryz.func239.trans (congrArg some (by kernel_rfl))
 f129:=Tryz.func240.trans (congrArg some (by kernel_rfl))
 f189:=Tryz.func181.trans (congrArg some (by kernel_rfl))
 f215:=Tryz.func229.trans (congrArg some (by kernel_rfl))
 f216:=Tryz.func236.trans (congrArg some (by kernel_rfl))
 f257:=Tryz.func215.trans (congrArg some (by kernel_rfl))
 f294:=Tryz.func230.trans (congrArg some (by kernel_rfl))
 f295:=Tryz.func231.trans (congrArg some (by kernel_rfl))
 f296:=Tryz.func232.trans (congrArg some (by kernel_rfl))
 f297:=Tryz.func233.trans (congrArg some (by kernel_rfl))
 f298:=Tryz.func234.trans (congrArg some (by kernel_rfl))
 f299:=Tryz.func235.trans (congrArg some (by kernel_rfl))
 f300:=Tryz.func237.trans (congrArg some (by kernel_rfl))
 f301:=Tryz.func238.trans (congrArg some (by kernel_rfl))
 f328:=Tryz.func251.trans (congrArg some (by kernel_rfl))
 f329:=Tryz.func252.trans (congrArg some (by kernel_rfl))
 f330:=Tryz.func253.trans (congrArg some (by kernel_rfl))
 f331:=Tryz.func254.trans (congrArg some (by kernel_rfl))
 f332:=Tryz.func255.trans (congrArg some (by kernel_rfl))
 f343:=Tryz.func263.trans (congrArg some (by kernel_rfl))
 t0:=Tryz.underlying0
 a0:=Tryz.isAgg0
 z0:=Tryz.sizeOf0
 v0:=Tryz.zeroValue0
 t3:=Tryz.underlying3
 a3:=Tryz.isAgg3
 z3:=Tryz.sizeOf3
 v3:=Tryz.zeroValue3
 t4:=Tryz.underlying4
 a4:=Tryz.isAgg4
 z4:=Tryz.sizeOf4
 v4:=Tryz.zeroValue4
 t5:=Tryz.underlying5
 a5:=Tryz.isAgg5
 z5:=Tryz.sizeOf5
 v5:=Tryz.zeroValue5
 t9:=Tryz.underlying9
 a9:=Tryz.isAgg9
 z9:=Tryz.sizeOf9
 v9:=Tryz.zeroValue9
 t28:=Tryz.underlying46
 a28:=Tryz.isAgg46
 z28:=Tryz.sizeOf46
 v28:=Tryz.zeroValue46
 t46:=Tryz.underlying295
 a46:=Tryz.isAgg295
 z46:=Tryz.sizeOf295
 v46:=Tryz.zeroValue295
 t51:=Tryz.underlying312
 a51:=Tryz.isAgg312
 z51:=Tryz.sizeOf312
 v51:=Tryz.zeroValue312
 t53:=Tryz.underlying314
 a53:=Tryz.isAgg314
 z53:=Tryz.sizeOf314
 v53:=Tryz.zeroValue314
 t131:=Tryz.underlying75
 a131:=Tryz.isAgg75
 z131:=Tryz.sizeOf75
 v131:=Tryz.zeroValue75
 t182:=Tryz.underlying304
 a182:=Tryz.isAgg304
 z182:=Tryz.sizeOf304
 v182:=Tryz.zeroValue304
 t183:=Tryz.underlying305
 a183:=Tryz.isAgg305
 z183:=Tryz.sizeOf305
 v183:=Tryz.zeroValue305
 t218:=Tryz.underlying326
 a218:=Tryz.isAgg326
 z218:=Tryz.sizeOf326
 v218:=Tryz.zeroValue326
 t222:=Tryz.underlying330
 a222:=Tryz.isAgg330
 z222:=Tryz.sizeOf330
 v222:=Tryz.zeroValue330
 t228:=Tryz.underlying342
 a228:=Tryz.isAgg342
 z228:=Tryz.sizeOf342
 v228:=Tryz.zeroValue342
 t229:=Tryz.underlying343
 a229:=Tryz.isAgg343
 z229:=Tryz.sizeOf343
 v229:=Tryz.zeroValue343}
open Go.Sort Go.RowKit in
theorem Tryz.slices_Sort_int (dP off cap:Nat) (zs:List Int) (w:World) (hH:Holds (Value.int .i64) w dP off zs.toArray) (Pc:dP<w.heap.size) (aO:zs.length<4611686018427387904):
  Calls Tryz.prog 181 #[.slice (some ⟨dP,off,none⟩) zs.length cap] w fun e w'=>
   e= .returned (.tuple #[])/\∃n os,w'=grow (putRow (Value.int .i64) (Sort.ahead w n) dP off (zs.mergeSort fun x y=>decide (x<=y)).toArray) os:=Any.slices_Sort_int Tryz.II dP off cap zs w hH Pc aO
#check @Go.Proofs.Any.slices_Sort_int
end Go.Proofs
end
section
namespace Go.Proofs
open Go.Shelf
open Go.RowKit Go.Sort in
theorem Tryz.slices_Sort_int_none (p:Option Addr) (cap:Nat) (w:World):
  Calls Tryz.prog 181 #[.slice p 0 cap] w fun e w'=>e= .returned (.tuple #[])/\w'=w:=Any.slices_Sort_int_none Tryz.II p cap w
end Go.Proofs
namespace Go.Proofs.YtpfohmboflcneaaGreatDoor
open Go Go.AL Go.RowKit Go.Shelf Go.Sort
set_option maxRecDepth 10000
set_option maxHeartbeats 4000000
abbrev mn (l:List Int):List Int:=l.mergeSort fun x y=>decide (x<=y)
theorem K4 (l:List Int):(mn l).length=l.length:=List.length_mergeSort l
theorem encI:wZ (fun z:Int=>Value.int .i64 z) (fun z:Int=>Ii z):=⟨fun h=>h.1,⟨rfl,rfl⟩⟩
theorem SX {w:World} {φ:al} {I:Nat->Prop} {el:TypeId} {l:List Int} (hR:Real w φ I [(0,.vec el 1 (dQ l))]) {g:Nat} (hg:φ 0=some (some g)):Sort.Holds (Value.int .i64) w g 0 l.toArray/\g<w.heap.size:=by
 have aQ:=hR.own 0 _ (some g) rfl hg
 simp only[Ob.at]at aQ
 rcases aQ with⟨U,_⟩|⟨g',ae,rest,e,hh,hd,_⟩
 ·cases U
 cases e
 have dA:=Bh encI l ae hd
 rw[dA]at hh
 refine⟨fun j hj=>?_,(hR.off 0 g hg).2⟩
 have hj:j<l.length:=by simpa using hj
 rw[Nat.zero_add]
 constructor
 ·rw[World.cell?,hh]
  show((l.map fun z=>Value.int .i64 z)++rest).toArray[j]?=_
  rw[List.getElem?_toArray,List.getElem?_append_left (by simpa using hj),List.getElem?_map,List.getElem?_eq_getElem hj]
  simp[hj]
 ·simp[World.frozen?,hh]
theorem Tn (l:List Int) (hl:l.length<4611686018427387904):aj Tryz.prog 181 [.os 0 1 0 l.length] [(0,.vec 3 1 (dQ l))] (fun r H'=>r= .aM []/\H'=[(0,.vec 3 1 (dQ (mn l)))]):=by
 refine⟨by rfl,fun w φ I vs hd hR hV=>?_⟩
 simp only[AV.ab,AV.den]at hd
 obtain⟨u,us,rfl,h,rfl⟩:=hd
 rcases h with⟨au,_,hn,rfl⟩|⟨g,c,au,rfl,_⟩
 ·have l7:=List.eq_nil_of_length_eq_zero hn
  subst l7
  refine(Tryz.slices_Sort_int_none none 0 w).mono fun e w' ⟨he,hw⟩=>?_
  subst hw
  exact⟨.aM [],_,φ,I,_,⟨rfl,rfl⟩,he,⟨[],rfl,rfl⟩,by rw[show mn []=[] by simp[mn]];exact pY hR _⟩
 ·obtain⟨hH,ag⟩:=SX hR au
  rw[Nat.zero_mul]
  refine(Tryz.slices_Sort_int g 0 c l w hH ag hl).mono fun e w' ⟨he,n,os,hw⟩=>?_
  subst hw
  exact⟨.aM [],_,φ,I,_,⟨rfl,rfl⟩,he,⟨[],rfl,rfl⟩,St.SI encI hR au (K4 l) n os⟩
theorem Q4 {m:Bd} (bg:cN m) {ks:List Int} (hp:ks.Perm (m.map (·.1))):mn ks=(bF [] m).map (·.1):=by
 have hq:(bF [] m).Perm m:=by have:=ti m [];rwa [List.nil_append]at this
 have hs:=D2 m [] (by rw[List.nil_append];exact bg) List.Pairwise.nil
 have U:(mn ks).Perm (m.map (·.1)):=(List.mergeSort_perm ks _).trans hp
 have h2:(mn ks).Pairwise (fun x y=>decide (x<=y)=true):=List.pairwise_mergeSort (fun a b c h k=>by simp at h k⊢;omega) (fun a b=>by simp;omega) ks
 have h3:(mn ks).Nodup:=U.symm.nodup bg
 refine KX _ _ ?_ (List.pairwise_map.2 hs) fun v=>?_
 ·refine(List.Pairwise.and h2 h3).imp fun{a b} h=>?_
  have h4:a<=b:=by simpa using h.1
  have:=h.2
  omega
 ·rw[U.mem_iff,(hq.map (·.1)).mem_iff]
end Go.Proofs.YtpfohmboflcneaaGreatDoor
end
section
namespace Go.Proofs.YtpfohmboflcneaaGreatDoor
open Go Go.AL Go.RowKit
set_option maxRecDepth 10000
set_option maxHeartbeats 4000000
noncomputable def nL (l:Nat) (st:gA):Ob:= .lp l 13 st Tryz.f214 [0,1,0,1] [7] [(2,.ob 2 0)]
noncomputable def rN (l:Nat) (m:Bd) (acc:List Int):aa:=[(5,nL l .ready),(4,.vec 3 1 (dQ acc)),(2,.var 46 [.os 4 1 0 acc.length]),(1,.var 158 [.mp 0]),(0,.var (.map (kI m)) (vT m))]
noncomputable def qn (l:Nat) (m:Bd) (bs:List Nat) (clock:Nat) (seen:List Nat) (acc:List Int):aa:=[(3,.var (.raw (iX clock seen clock)) [.mp 0]),(5,nL l .ready),(4,.vec 3 1 (dQ acc)),(2,.var 46 [.os 4 1 0 acc.length]),(1,.var 158 [.mp 0]),(0,.var (.raw (jD (kI m) bs clock)) (vT m))]
theorem NI (l:Nat) (m:Bd) (bs:List Nat) (clock:Nat) (seen:List Nat) (acc:List Int) (v:Int) (hx:acc.length<=1000000):f_ Tryz.prog 4 l [Iv v] (qn l m bs clock seen acc) (fun r H'=>r=Bv true/\H'=qn l m bs clock seen (acc++[v])):=by
 refine f_.walk (b:=5) [2,5,7,8,9,10,11] [] rfl rfl rfl fun w own I0 aq lay=>?_
 simp only[go_sem,Nat.reduceAdd,Nat.reduceLeDiff,Nat.reduceSub,Int.reduceToNat,reduceCtorEq,nw,qn,nL]
 refine gO ?_
 refine AE.begin (b:=5) rfl rfl _ ?_
 refine sI ?_
 refine gO ?_
 refine AQ.kill 4 ?_
 refine sI ?_
 refine AQ.append (hnb:=rfl) (rows:=dQ acc) (es:=0) (by kernel_rfl) rfl rfl rfl (by first|(simp only[go_sem,noMen,AV.mens,AV.men,Bool.or_false];done)|(simp only[go_sem,noMen,AV.mens,AV.men,Bool.or_false];rfl)) Tryz.Lp Tryz.Lm (by show Option.map _ (az Tryz.prog 3)=_;rw[Tryz.L7];rfl) Tryz.Fc (by first|rfl|(simp only[jy,List.length_cons,List.length_nil];done)|(simp only[jy,List.length_cons,List.length_nil];omega)) (by simp only[jy,List.length_cons,List.length_nil];omega) (by simp only[jy,List.length_cons,List.length_nil];omega) ?_
 refine sE (an @jy (an @It @Iu)) ?_
 refine gO ?_
 refine AE.td (b:=5) rfl ⟨rfl,?_⟩
 simp only[go_sem,Nat.reduceAdd,Nat.reduceLeDiff,Nat.reduceSub,Int.reduceToNat,reduceCtorEq,qn,nL,List.length_append,List.length_singleton]
def pE (m:Bd) (js:List Nat):List Int:=js.map fun j=>(m.getD j (0,.mk [] 0 [])).1
def wC (bs:List Nat) (js:List Nat):List Nat:=js.map fun j=>bs.getD j 0
theorem Q2 {m:Bd} {js:List Nat} (U:js.Nodup) (h2:∀j∈js,j<m.length) (h3:∀j,j<m.length->j∈js):(pE m js).Perm (m.map (·.1)):=by
 have hp:js.Perm (List.range m.length):=(List.perm_ext_iff_of_nodup U List.nodup_range).2 fun j=>by rw[List.mem_range];exact⟨h2 j,h3 j⟩
 refine(hp.map _).trans ?_
 have:(List.range m.length).map (fun j=>(m.getD j (0,.mk [] 0 [])).1)=m.map (·.1):=by
  apply List.ext_getElem (by simp)
  intro i h4 h5
  have h6:i<m.length:=by simpa using h5
  simp[List.getElem?_eq_getElem h6]
 rw[this]
theorem Q3 (l:Nat) (m:Bd) (hm:m.length<=4000):iJ Tryz.prog 3 213 [Yl l,.ob 1 0] (rN l m []) (fun _ H'=>∃ks:List Int,ks.Perm (m.map (·.1))/\H'=rN l m ks):=by
 refine iJ.walk [0,1,3,5,7,13] [] Tryz.func213 rfl Tryz.ntmps213 (by kernel_rfl) (by rfl) fun W own I0 aq lay=>?_
 simp only[go_sem,Nat.reduceAdd,Nat.reduceLeDiff,Nat.reduceSub,Int.reduceToNat,reduceCtorEq,rN,nL]
 refine gO ?_
 refine AQ.Dl (by kernel_rfl) rfl rfl kS fun bs clock bx=>?_
 have b5:(vT m).length=bs.length:=by rw[<-bx.len,Ei,sL]
 have Wp:bs.length=m.length:=by rw[<-b5,Ei]
 have jn:=CT m
 refine sI ?_
 refine gO ?_
 refine AP.rename 6 3 rfl rfl rfl ?_
 refine sI ?_
 refine AP.loop rfl (α:=List Nat) (fun _=>[(0,Yl l),(5,.ob 3 0)]) (fun js=>qn l m bs clock (wC bs js) (pE m js)) (fun js=>js.Nodup/\∀j∈js,j<m.length) (fun js=>m.length-js.length) [] ⟨List.nodup_nil,fun _ h=>by cases h⟩ (sU) rfl fun js ⟨hn,hj⟩=>?_
 have jX:js.length<=m.length:=by
  have:=(List.Nodup.length_le_of_subset hn (fun j h=>List.mem_range.2 (hj j h)):js.length<=(List.range m.length).length)
  simpa using this
 simp only[go_sem,Nat.reduceAdd,Nat.reduceLeDiff,Nat.reduceSub,Int.reduceToNat,reduceCtorEq,qn,nL]
 refine gO ?_
 refine AQ.Dj (by kernel_rfl) rfl rfl rfl bx rfl rfl jn b5 (fun gG=>?_) (fun j n key y dJ n9 mM hy=>?_)
 ·refine sI ?_
  refine gO ?_
  refine AE.mf 0 rfl bx b5 ?_
  refine sI ?_
  exact AE.N8 [3] rfl trivial (by simp only[go_sem,Nat.reduceAdd,Nat.reduceLeDiff,Nat.reduceSub,Int.reduceToNat,reduceCtorEq,ba,noMen,AV.mens,AV.men,cp,Bool.or_false];first|done|rfl) ⟨pE m js,Q2 hn hj fun j h=>by
   have:=gG (bs.getD j 0) (by rw[List.getD_eq_getElem?_getD,List.getElem?_eq_getElem (by omega)];exact List.getElem_mem _)
   obtain⟨i,hi,e⟩:=List.mem_map.1 this
   have Hu:=hj i hi
   rw[List.getD_eq_getElem?_getD,List.getElem?_eq_getElem (by omega:i<bs.length),List.getD_eq_getElem?_getD,List.getElem?_eq_getElem (by omega:j<bs.length)]at e
   have:=(List.getElem_inj bx.nd).1 e
   exact this▸hi,rfl⟩
 ·obtain⟨p,hp,rfl⟩:=y7 mM
  have jY:=(List.getElem?_eq_some_iff.1 hp).1
  have uR:j∉js:=fun h=>n9 (List.mem_map.2 ⟨j,h,by rw[List.getD_eq_getElem?_getD,dJ];rfl⟩)
  have e1:wC bs js++[n]=wC bs (js++[j]):=by simp[wC,dJ]
  have e2:pE m js++[p.1]=pE m (js++[j]):=by simp[pE,hp]
  have hr:=NI l m bs clock (wC bs (js++[j])) (pE m js) p.1 (by rw[pE,List.length_map];omega)
  rw[e2]at hr
  refine sI ?_
  refine gO ?_
  refine AQ.Di (by kernel_rfl) rfl rfl rfl bx jn b5 dJ mM hy ?_
  refine sI ?_
  refine gO ?_
  refine AQ.wU 4 rfl (by kernel_rfl) rfl ⟨rfl,rfl⟩ rfl rfl (by rw[e1];exact hr) (fun r H' h=>by rw[h.2];exact eJ.of _ _ _ rfl) fun r H' h=>?_
  obtain⟨rfl,rfl⟩:=h
  simp only[go_sem,Nat.reduceAdd,Nat.reduceLeDiff,Nat.reduceSub,Int.reduceToNat,reduceCtorEq,qn,nL]
  refine AQ.go (by kernel_rfl) ?_
  refine gO ?_
  have n7:(js++[j]).Nodup:=List.nodup_append.2 ⟨hn,List.pairwise_singleton ..,fun a ha b hb=>by rw[List.mem_singleton.1 hb];exact fun e=>uR (e▸ha)⟩
  have ln:∀i∈js++[j],i<m.length:=fun i hi=>by
   rcases List.mem_append.1 hi with hi|hi
   ·exact hj i hi
   ·rw[List.mem_singleton.1 hi];exact jY
  have gn:(js++[j]).length<=m.length:=by
   have:=(List.Nodup.length_le_of_subset n7 (fun j h=>List.mem_range.2 (ln j h)):(js++[j]).length<=(List.range m.length).length)
   simpa using this
  exact AE.round (js++[j]) ⟨n7,ln⟩ (by rw[List.length_append,List.length_singleton]at*;omega) (sU) rfl
theorem NK (m:Bd) (hm:m.length<=4000):aj Tryz.prog 214 [eL,.fn 213 [] [.ob 1 0]] (iY m) (fun r H'=>∃ks:List Int,ks.Perm (m.map (·.1))/\r= .os 4 1 0 ks.length/\H'=(4,.vec 3 1 (dQ ks))::iY m):=by
 refine aj.walk [0,1,2,4,5,6,7] [2] Tryz.func214 rfl Tryz.ntmps214 (by kernel_rfl) (by rfl) rfl fun W own I0 aq lay=>?_
 simp only[go_sem,Nat.reduceAdd,Nat.reduceLeDiff,Nat.reduceSub,Int.reduceToNat,reduceCtorEq,iY]
 refine gO ?_
 refine AP.hO 2 0 3 1 rfl rfl ?_
 refine sI ?_
 refine AP.rename 3 4 rfl rfl rfl ?_
 refine sI ?_
 refine AP.zH 3 0 5 [(2,.ob 2 0)] (R:=fun l _ H'=>∃ks:List Int,ks.Perm (m.map fun p:Int×Tm=>p.1)/\H'=rN l m ks) rfl rfl (by kernel_rfl) (sU) rfl rfl (fun l=>Q3 l m hm) (fun l r H' hR=>?_)
 obtain⟨ks,hk,rfl⟩:=hR
 refine⟨eJ.of _ _ _ rfl,.ready,_,rfl,by simp only[go_sem,Nat.reduceAdd,Nat.reduceLeDiff,Nat.reduceSub,Int.reduceToNat,reduceCtorEq,rN,nL,noMen,AV.mens,AV.men,cp,Bool.or_false];first|done|rfl,?_⟩
 simp only[go_sem,Nat.reduceAdd,Nat.reduceLeDiff,Nat.reduceSub,Int.reduceToNat,reduceCtorEq,rN,nL]
 refine gO ?_
 exact AE.aX [2] rfl ⟨rfl,trivial⟩ (by simp only[go_sem,Nat.reduceAdd,Nat.reduceLeDiff,Nat.reduceSub,Int.reduceToNat,reduceCtorEq,ba,noMen,AV.mens,AV.men,cp,Bool.or_false];first|done|rfl) ⟨ks,hk,rfl,rfl⟩
theorem NJ (m:Bd) (hm:m.length<=4000):aj Tryz.prog 180 [.fn 213 [] [.ob 1 0]] (iY m) (fun r H'=>∃ks:List Int,ks.Perm (m.map (·.1))/\r= .os 6 1 0 ks.length/\H'=(6,.vec 3 1 (dQ ks))::iY m):=by
 refine aj.walk [0,2] [] Tryz.func180 rfl Tryz.ntmps180 (by kernel_rfl) (by rfl) rfl fun W own I0 aq lay=>?_
 simp only[go_sem,Nat.reduceAdd,Nat.reduceLeDiff,Nat.reduceSub,Int.reduceToNat,reduceCtorEq,iY]
 refine gO ?_
 refine AQ.bz [(1,1),(0,0)] (by kernel_rfl) rfl rfl rfl rfl rfl rfl (by refine⟨?_,?_,trivial⟩<;>(simp only[cH,AV.cd,AV.rn,jH];rfl)) rfl (NK m hm) fun r' H' ⟨ks,hk,e1,e2⟩=>?_
 subst e1;subst e2
 simp only[go_sem,Nat.reduceAdd,Nat.reduceLeDiff,Nat.reduceSub,Int.reduceToNat,reduceCtorEq,c6,eK,bZ,fh,iY]
 refine gO ?_
 exact AE.aX [] rfl ⟨rfl,trivial⟩ (by simp only[go_sem,Nat.reduceAdd,Nat.reduceLeDiff,Nat.reduceSub,Int.reduceToNat,reduceCtorEq,ba,noMen,AV.mens,AV.men,cp,Bool.or_false];first|done|rfl) ⟨ks,hk,rfl,rfl⟩
theorem To (m:Bd) (bg:cN m) (hm:m.length<=4000):aj Tryz.prog 120 [.fn 213 [] [.ob 1 0]] (iY m) (fun r H'=>r= .im (.sl 1 (dQ ((bF [] m).map (·.1))))/\H'=iY m):=by
 refine aj.walk [0,2,3] [] Tryz.func120 rfl Tryz.ntmps120 (by kernel_rfl) (by rfl) rfl fun W own I0 aq lay=>?_
 simp only[go_sem,Nat.reduceAdd,Nat.reduceLeDiff,Nat.reduceSub,Int.reduceToNat,reduceCtorEq,iY]
 refine gO ?_
 refine AQ.bz [(1,1),(0,0)] (by kernel_rfl) rfl rfl rfl rfl rfl rfl (by refine⟨?_,?_,trivial⟩<;>(simp only[cH,AV.cd,AV.rn,jH];rfl)) rfl (NJ m hm) fun r' H' ⟨ks,hk,e1,e2⟩=>?_
 subst e1;subst e2
 have HB:ks.length<=4000:=by rw[hk.length_eq,List.length_map];exact hm
 have sx:=Q4 bg hk
 simp only[go_sem,Nat.reduceAdd,Nat.reduceLeDiff,Nat.reduceSub,Int.reduceToNat,reduceCtorEq,c6,eK,bZ,fh,iY]
 refine gO ?_
 refine AQ.bz [(0,8)] (by kernel_rfl) rfl rfl rfl rfl rfl rfl (by exact⟨rfl,trivial⟩) rfl (Tn ks (by omega)) ?_
 rintro r H1 ⟨rfl,rfl⟩
 refine⟨rfl,?_⟩
 refine sH ?_
 refine gO ?_
 have HC:(dQ (mn ks)).length=ks.length:=by rw[jy,K4]
 refine AE.freeze 8 (el:=3) (es:=1) (rows:=dQ (mn ks)) rfl (by simp[go_sem,HC]) (by simp[go_sem,HC]) ?_
 refine sI ?_
 rw[show List.take ks.length (dQ (mn ks))=dQ ((bF [] m).map (·.1)) by rw[List.take_of_length_le (by omega),sx]]
 exact AE.aX [] rfl ⟨rfl,trivial⟩ (by simp only[go_sem,Nat.reduceAdd,Nat.reduceLeDiff,Nat.reduceSub,Int.reduceToNat,reduceCtorEq,ba,noMen,AV.mens,AV.men,cp,Bool.or_false];first|done|rfl) ⟨rfl,rfl⟩
theorem Rq (m:Bd) (bg:cN m) (lj:∀b∈m,aU b.2/\dE b.2=true) (hl:m.length<=4000):aj Tryz.prog 114 [.mp 0] (fU m) (fun r H'=>r=cE (bF [] m)/\H'=fU m):=
 Rr (fun m U h2=>To m U h2) m bg lj hl
theorem TF (c d:List Lt) (hc:nK c) (hd:nK d):aP Tryz.prog 6 [aK c,aK d] (Bv true):=TD Rq c d hc hd
end Go.Proofs.YtpfohmboflcneaaGreatDoor
end
