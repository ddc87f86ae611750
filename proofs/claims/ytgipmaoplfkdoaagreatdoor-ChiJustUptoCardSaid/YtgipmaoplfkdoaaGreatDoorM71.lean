import Derived.Test.YtgipmaoplfkdoaaGreatDoorM13
set_option linter.all false
set_option maxRecDepth 100000
set_option maxHeartbeats 400000000
namespace Go.Proofs.YtgipmaoplfkdoaaGreatDoor
noncomputable section
open Go.RowKit
variable{l Y_u:AT}{v st:Int}{L:BW}{j k f0 mid a:Nat}{g:List BW}{E:aK}{x:fg}{b:Code}{Y:aE}{H:D}{aj:dE->aE->D->Prop}{S:SM}{au:Pt->BW}{P:J->D->Prop}{bs:List Bool}{Bx t15:CX}
section
variable{K T:D}{i j o:Nat}{α:Type}{x:bp}
variable{H:D}{id:Nat}{S:SM}
def sy(S:SM)(n:Nat)(l:AT):BW:=((iY l).map λ o:Int=>o-(S.of.length:Int)).filter λ z=>decide (0<=z)&&decide ((S.fU z).length=n)
def D4(X:Fix)(V:SV)(f:Nat)(x:bp):BW:=if x.op=10 then[X.S.gP x.fn]else if x.op=11 then sy X.S x.args.length (jk X V (X.S.aV f x.a))else[]
def an2{S:SM}{n:Nat}(d:j<l.length):sy S n (l.take (j+1))=sy S n (l.take j)++(if 0<=(l[j]:Int)-S.of.length/\(S.fU ((l[j]:Int)-S.of.length)).length=n then[(l[j]:Int)-S.of.length]else[]):=by unfold sy iY;rw[KK d];simp only[lF,YD,kB,FN,List.filter_cons,List.filter_nil];congr 1;by_cases O:0<=(l[j]:Int)-S.of.length<;>by_cases U:(S.fU ((l[j]:Int)-S.of.length)).length=n<;>simp[U]
def afW{S:SM}{n:Nat}:(sy S n l).length<=l.length:=by unfold sy iY;refine aY (BP _ _) ?_;simp
section
variable{X:Fix}{K T:D}{L:nk}{V:SV}
def Sd(h:fM X K L V.first V)(p:An X)(d:o∈jk X V v):o<4194304:=by
 have⟨r,tn,tf,mn,mf,cn,cf,en,ef,dv,e⟩:=h;unfold jk Be at d;split at d
 .split at d
  .have w:=p.N;have f:=e.fst v.toNat ω;have hw:=(e.s _ f).wd;exact aa4 hw ((Dm hw).1 d)
  .simp at d
 .simp at d
def Sc:(jk X V v).length<=4194304:=by
 unfold jk Be;split
 .split
  .rw[Wj];exact aY (WR _ _) (by rw[Aw];omega)
  .simp
 .simp
def amC(h:fM X K L V.first V)(hX:An X){q:Pt}(ha:At X.S.p q.1 q.2.1 q.2.2 x):CN 23 [.ptr L.a 0,ptV q] K λ u T=>(∃aL,aX T 1 u (aZ (D4 X V q.1 x)) aL/\∀y∈aL,K.ab<=y)/\I [] K T:=by
 refine ba ar4 rfl λ Q' z=>?_;have⟨I1,sJ⟩:=hX.qX.args _ _ _ _ ha;have⟨t,l,t0⟩:=h.am;have cR:¬L.a=K.ab:=bC l.lt;simp[l.get,t0,cR];generalize ed:D.add _ _=K1;have g1:I [] K K1:=by rw[<-ed];exact(aw.add _).add _
 have l3:∃t,Lv K1 K.ab (.cells 3 t false)/\AV t 0 (ae (q.1:Nat)):=by rw[<-ed];exact⟨_,Lv.new.add,ζ⟩
 have l5:∃t,Lv K1 (K.ab+1) (.cells 8 t false):=by rw[<-ed];exact⟨_,Lv.new (H:=K.add _)⟩
 have n1:K1.ab=K.ab+2:=by rw[<-ed];rfl
 clear ed;have⟨t3,l3,e3⟩:=l3;have⟨t5,l5⟩:=l5;have O:=h.ai g1;refine CW (akC O.nil.2.2 ha I1 sJ) ?_;rintro _ K2 ⟨⟨M,rfl,Z,-⟩,g2⟩;obtain⟨va,vl,rfl,kl,mO,-⟩:=Z;simp;have l5b:=(l5.ai g2);simp[l5b.get,kl.cell,mO.cell];generalize dw:D.put _ _ _=K3;have gp:I [K.ab+1] K2 K3:=by rw[<-dw];exact aw.put (.inr ζ)
 have g3:I [] K K3:=ke (g1.trans g2) gp ζ;have U:∃t,Lv K3 (K.ab+1) (.cells 8 t false)/\AV t 0 (u8 x.op)/\AV t 2 (str x.a)/\AV t 5 (str x.fn)/\AV t 6 va:=by rw[<-dw];exact⟨_,l5b.put_eq,ζ⟩
 have m3:=(l3.ai g2).W gp ζ;clear dw;have⟨t6,U,d0,d2,d5,d6⟩:=U;have F:=h.ai g3;have⟨ta,la,GX⟩:=F.am;have gY:∀y,K2.ab<=y->K.ab<=y:=λ y G=>by have:=g2.ab;omega
 by_cases bP:x.op=10
 .have I5:D4 X V q.1 x=[X.S.gP x.fn]:=by unfold D4;rw[aq bP]
  rw[I5]at z;simp[bP,la.get,GX,U.get,d5];refine CW (adX F.nil.2.2 _) ?_;rintro _ K4 ⟨⟨bb,rfl⟩,g4⟩;simp;have B:I [] K K4:=g3.trans g4;refine z ⟨⟨[K4.ab+1],?_,by have:=B.ab;simp;omega⟩,(B.add _).add _⟩;exact aX.kq (Lv.new (H:=K4.add _)) (by simp[aZ]) (λ j hj=>by cases j with|zero=>simp[aZ]|succ m=>omega) aF ζ (by unfold maxLen;omega)
 .by_cases Mr:x.op=11
  .simp[Mr,la.get,GX,U.get,d2,m3.get,e3];refine CW (Xt F.nil.2.2 _ _) ?_;rintro _ K4 ⟨⟨bb,rfl⟩,g4⟩;simp;have h4:=F.ai g4;have I5:D4 X V q.1 x=sy X.S x.args.length (jk X V (X.S.aV q.1 x.a)):=by unfold D4;rw[ao bP,aq Mr]
   rw[I5]at z;have bm:∀o∈jk X V (X.S.aV q.1 x.a),o<4194304:=λ o ho=>Sd h4 hX ho;refine CW (yX h4 _) ?_;have oh:=Sc (X:=X) (V:=V) (v:=X.S.aV q.1 x.a);generalize jk X V (X.S.aV q.1 x.a)=lo at z bm oh;rintro lv K5 ⟨⟨Yl,hl,Qe⟩,B⟩;have bA:=hl.aZ.aN bK;simp[bA];have h5:=h4.ai B;have m5':=(U.ai g4).ai B;have zz:I [] K K5:=(g3.trans g4).trans B;have sD:=hl.lt;refine bu (α:=Nat) (aJ:=λ j sl K6=>I [] K5 K6/\(∃u aL,aX K6 1 u (aZ (sy X.S x.args.length (lo.take j))) aL/\(∀y∈aL,K5.ab<=y)/\AV sl 7 u)/\j<=lo.length/\AV sl 0 (.ptr L.a 0)/\AV sl 5 (.ptr (K.ab+1) 0)/\AV sl 60 lv/\AV sl 61 (ae (lo.length:Nat))/\AV sl 62 (ae (j:Nat))) (mu:=λ j=>lo.length-j) ?_ 0 _ _ ?ini;case ini=>exact⟨aw,⟨_,[],by simp[sy];exact .nil,ζ,ζ⟩,dQ _,ζ⟩
   rintro b1 k1-cq j sl K6 ⟨e,⟨u,aL,hu,hY,s7⟩,hj,R,Q,Ad,s,w⟩ ih;have h6:=h5.ai e;have⟨tb,lb,lb0⟩:=h6.am;have m6:=m5'.ai e;have hl6:=hl.W e ζ;by_cases f:j<lo.length
   .have⟨uj,uB,tQ,exp,np,tp,uG,cp,C,fG,ib,gq,jL⟩:=hl6.aZ.gL (i:=j) (by rw[bW];exact f);have qw:cp=ae ((lo[j]:Nat):Int):=by
     have:[cp]=[ae ((iY lo)[j]'(by rw[bW];exact f))]:=jL
     simpa using this
    subst qw;rw[bW]at C;have jB:=bm _ (cG f);have ix:j<maxLen:=by have:=hl.aZ.cP;rw[bW]at this;omega
    have hf:=hX.qX.nD;have⟨f1,f2,f3,f4,f5⟩:=hf;have hw:IntKind.wrap .i64 ((lo[j]:Int)-(X.S.of.length:Int))=(lo[j]:Int)-(X.S.of.length:Int):=fQ ω ω;have ET:=an2 (S:=X.S) (n:=x.args.length) f;have eN:=afW (S:=X.S) (n:=x.args.length) (l:=lo.take j);rw[eK]at eN;have r:∀(d:CX) (N:D) (u':J) (Y':AT),I [] K5 N->aX N 1 u' (aZ (sy X.S x.args.length (lo.take (j+1)))) Y'->(∀y∈Y',K5.ab<=y)->d.get 7=some u'->d.get 0=some (.ptr L.a 0)->d.get 5=some (.ptr (K.ab+1) 0)->d.get 60=some lv->d.get 61=some (ae (lo.length:Nat))->d.get 62=some (ae ((j:Int)+1))->aD E0 (.code (.loop b1)::k1) ⟨d,_,_,_,_⟩ N _:=λ d N u' Y' p1 p2 p3 p4 p5 p6 p7 p8 p9=>ih (j+1) d N ω ⟨p1,⟨u',Y',p2,p3,p4⟩,f,p5,p6,p7,p8,by simpa using p9⟩;clear ih;rw[ET]at r;have mO:=kl.aN fw;by_cases h0:X.S.of.length<=lo[j]
    .simp[R,Q,Ad,s,w,f,C,fG.get,ib,gq,lb.get,lb0,cE (DD h6.nil.2.2),hw,h0,m6.get,d6,mO];refine CW (Xs h6.nil.2.2 hX.qX.ps _) ?_;rintro pv K7 ⟨⟨YP,zC,Uz⟩,A⟩;have hPl:=zC.aZ.aN bK;have m7:=m6.ai A;have h7:=h6.ai A;have MF:=hu.W A ζ;have⟨tc,lc,lc0⟩:=h7.am;simp;refine dF (by simp[dA,dm,val,m7.get,d6,mO,kl.fy]) ?_;simp[hPl];by_cases sK:(X.S.fU ((lo[j]:Int)-X.S.of.length)).length=x.args.length
     .rw[aq ⟨ω,sK⟩]at r;simp[-cX,sK,s7];refine vL (c:=ae ((lo[j]:Int)-X.S.of.length)) bK qF MF rfl (by simp[aZ];omega) (by simp[aZ];omega) ?_;intro v' N Y8 p1 p2 p3;simp[w,bq ix];refine r _ _ v' Y8 (ke (e.trans A) p2 hY) (by simpa[aZ]using p1) ?_ ?_ ?_ ?_ ?_ ?_ ?_
      .intro y G;rcases p3 y G with hh|hh
       .exact hY y hh
       .have:=(e.trans A).ab;omega
      all_goals simp[R,Q,Ad,s,C]
     .rw[ao (λ h=>sK h.2),HU]at r;have GH:¬(((X.S.fU ((lo[j]:Int)-X.S.of.length)).length:Nat):Int)=((x.args.length:Nat):Int):=ω
      simp[GH,w,bq ix];exact r _ _ u aL (e.trans A) MF hY (by simp[s7]) (by simp[R]) (by simp[Q]) (by simp[Ad,C]) (by simp[s]) ζ
    .rw[ao (λ h=>h0 ω),HU]at r;simp[R,Q,Ad,s,w,f,C,fG.get,ib,gq,lb.get,lb0,cE (DD h6.nil.2.2),hw,h0];refine dF (by simp[dA,dm,val]) ?_;simp[w,bq ix];exact r _ _ u aL e hu hY (by simp[s7]) (by simp[R]) (by simp[Q]) (by simp[Ad,C]) (by simp[s]) ζ
   .obtain rfl:j=lo.length:=ω
    rw[iF]at hu;simp[s,w,s7,cq];exact z ⟨⟨aL,hu,λ y G=>by have:=hY y G;have:=zz.ab;omega⟩,zz.trans e⟩
  .have I5:D4 X V q.1 x=[]:=by unfold D4;rw[ao bP,ao Mr]
   simp[bP,Mr];exact z ⟨⟨[],by rw[I5];exact .nil,ζ⟩,g3⟩
end
end
section
variable{H:D}{u v:J}
def ahp(a:Int)(p:aW H 1 (One λ n=>ae n) v L):CN 46 [v,ae a] H λ w K=>K=H/\w=bl (decide (a∈L)):=by
 refine ba asM rfl λ N C=>?_;simp;refine CA (λ i sl K=>K=H/\(∀j (h:j<L.length),j<i->L[j]≠a)/\AV sl 0 v/\AV sl 1 (ae a)/\AV sl 5 (ae i)/\i<=L.length) L.length ⟨rfl,λ j _ h=>ω,ζ⟩ ?_
 rintro b kk-Q i sl K ⟨rfl,z,f,s,r,A⟩ I;by_cases d:i<L.length
 .obtain⟨id,ah,ax,ex,n,t,ro,c,rfl,e,F,D,G⟩:=p.gL d;have J:c=ae L[i]:=by have:[c]=[ae L[i]]:=G;simpa using this
  subst J;have:=p.cP;by_cases he:L[i]=a
  .simp[f,s,r,d,e.get,D,F,he,de bK];refine C ⟨rfl,?_⟩;have:a∈L:=by rw[<-he];exact cG _
   simp[this]
  .simp[f,s,r,d,e.get,D,F,he,de bK,bq (aT d this)];refine I ω ⟨rfl,λ j h e=>?_,by simp[f,s,dz d]⟩;rcases pH.1 e with O|rfl
   .exact z j h O
   .exact he
 .obtain rfl:i=L.length:=ω
  subst Q;have M:=p.aN bK K;simp[f,r,M];refine C ⟨rfl,?_⟩;have:a∉L:=λ B=>by obtain⟨j,y,rfl⟩:=rJ B;exact z j y y rfl
  simp[this]
end
theorem kyT:(fq 44,fq 112,fq 113,())=(some Tryz.f44,some Tryz.f112,some Tryz.f113,()):=κ
def o44:=fe (jd kyT)
def o112:=fe (jq kyT)
def o113:=fe (jr kyT)
def hi(l:AT):Nat:=l.foldl (λ n k=>max n (k+1)) 0
theorem Hy:∀(l:AT) (a:Nat),a<=l.foldl (λ n k=>max n (k+1)) a/\∀k∈l,k<l.foldl (λ n k=>max n (k+1)) a
 |[],a=>⟨Nat.le_refl _,λ _ h=>by simp at h⟩
 |x::l,a=>by
  have⟨O,U⟩:=Hy l (max a (x+1))
  rw[DV]
  refine⟨ω,λ k Q=>?_⟩
  rcases cZ.1 Q with rfl|Q
  .omega
  .exact U k Q
theorem Hk{aG:Nat}:∀(l:AT) (a:Nat),a<=aG->(∀k∈l,k<aG)->l.foldl (λ n k=>max n (k+1)) a<=aG
 |[],_,h,_=>h|x::l,a,h,d=>Hk l _ (by have:=d x ζ;show max a (x+1)<=aG;omega) λ k Q=>d k (by simp[Q])
def uz(l:AT)(k:Nat):Nat:=(l.filter λ x=>decide (x=k)).length
def LK(g:List BW)(l:AT)(i:Nat):Bool:=decide (1<uz l (l.getD i 0))||(g.getD i []).any λ x=>decide ((i:Int)=x)
noncomputable def cycL(g:List BW):List Bool:=(List.range g.length).map (LK g (Pa g))
theorem R5(d:j<l.length):uz (l.take (j+1)) k=uz (l.take j) k+if l[j]=k then 1 else 0:=by unfold uz;rw[KK d,YD,iP];congr 1;by_cases h:l[j]=k<;>simp[h]
section
variable{H:D}{v:J}
theorem count_c(p:aW H 1 (One λ n=>ae n) v (iY l))(G:∀k∈l,k<1048576):CN 112 [v] H λ u K=>K=H/\u=ae (hi l:Nat):=by
 refine ba o112 rfl λ N I=>?_;have w:=p.aN bK;have f:(iY l).length=l.length:=bW _;have y:=p.cP;rw[f]at w y;simp[w];refine CA (λ i sl K=>K=H/\AV sl 3 (ae (hi (l.take i):Nat))/\AV sl 6 v/\AV sl 7 (ae (l.length:Nat))/\AV sl 8 (ae (i:Nat))/\i<=l.length) l.length ⟨rfl,by simp[hi]⟩ ?_
 rintro b kk-Q i sl K ⟨rfl,s3,s,h,r,A⟩ C;by_cases d:i<l.length
 .obtain⟨id,ah,ax,ex,n,t,ro,c,rfl,D,M,J,z⟩:=p.gL (i:=i) (by rw[f];exact d);have F:c=ae (l[i]:Nat):=by have:[c]=[ae ((iY l)[i]'(by rw[f];exact d))]:=z;simpa[iY]using this
  subst F;rw[f]at*;have Q:=G _ (cG d);have hw:IntKind.wrap .i64 (((l[i]:Nat):Int)+1)=((l[i]+1:Nat):Int):=by rw[fQ ω ω];omega
  have B:i<maxLen:=ω
  have e:((if((l[i]+1:Nat):Int)>((hi (l.take i):Nat):Int)then((l[i]+1:Nat):Int)else((hi (l.take i):Nat):Int)))=((hi (l.take (i+1)):Nat):Int):=by unfold hi;rw[KK d,ae8];show _=((max _ (l[i]+1):Nat):Int);split<;>omega
  simp[s3,s,h,r,d,D.get,M,J,hw,bq B];refine C ω ⟨rfl,?_,by simp[s,h];omega⟩;rw[<-e];simp
 .obtain rfl:i=l.length:=ω
  subst Q;rw[iF]at s3;simp[s3,h,r];exact I ⟨rfl,rfl⟩
theorem VB(Q:k∈Pa g):k<g.length:=by obtain⟨i,A,rfl⟩:=jn.1 Q;have A:=mj.1 A;unfold zp Bk;generalize(ru (gC g) g.length).cm=c;cases e:(kR c (i+1)).1 (c i)with|none=>show 0<_;omega|some k=>have:=abE e;have:=abD c (i+1);show k<_;omega
theorem FT(a:Int)(d:aW H 1 (One λ n=>ae n) v L):CN 113 [v,ae a] H λ u K=>K=H/\u=bl (L.any λ x=>decide (a=x)):=by
 refine ba o113 rfl λ p f=>?_;simp;refine CW (awL a d λ _ _ h=>h) ?_;rintro u K ⟨rfl,rfl⟩;have e:decide (0<=idxOf (λ x=>decide (a=x)) L)=L.any λ x=>decide (a=x):=by rw[qH,rK];exact VZ
 simp[e];exact f ⟨rfl,rfl⟩
theorem E9(hg:GI 0 H v g)(hn:g.length<=1048576)(hr:∀l∈g,l.length<=1099511627776):CN 44 [v] H λ u K=>(∃aL,aX K 1 u ((cycL g).map λ b=>bl b) aL/\∀y∈aL,H.ab<=y)/\I [] H K:=by
 refine ba o44 rfl λ Q' hQ=>?_
 simp
 refine CW (aoY hg hn hr) ?_
 have bm:∀k∈Pa g,k<g.length:=λ k=>VB
 have bA:(Pa g).length=g.length:=by unfold Pa;rw[List.length_map,List.length_range]
 unfold cycL at hQ
 generalize Pa g=l at bm bA hQ⊢
 rintro cv p ⟨⟨Yc,s,hYc⟩,g1⟩
 have auD:hi l<=g.length:=Hk l 0 (dQ _) bm
 have AW:∀k∈l,k<hi l:=(Hy l 0).2
 have bR:hi l*8<=140737488355328:=ω
 have eG:hi l<=9223372036854775807:=ω
 have fo:8*hi l<=140737488355328:=ω
 have pP:(iY l).length=g.length:=by rw[<-bA];exact bW _
 have eN:=s.aZ.aN bK
 rw[pP]at eN
 simp[cE (count_c s.aZ λ k Q=>by have:=bm k Q;omega),eG,fo,wX,eN]
 generalize kO:D.add p _=K2
 have g2:I [] p K2:=by rw[<-kO];exact(I.refl _ _).add _
 have n2:K2.ab=p.ab+1:=by rw[<-kO];rfl
 have o2:iD K2 p.ab (hi l) (λ x=>ae (uz (l.take 0) x:Nat)):=by rw[<-kO];exact⟨_,Lv.new,λ x Z=>by rw[Bp,aq ω];rfl⟩
 clear kO
 refine CA (λ i sl K=>I [p.ab] K2 K/\iD K p.ab (hi l) (λ x=>ae (uz (l.take i) x:Nat))/\AV sl 0 v/\AV sl 3 cv/\AV sl 4 (.sl p.ab 0 1 (hi l) (hi l) true)/\AV sl 15 cv/\AV sl 16 (ae (g.length:Nat))/\AV sl 17 (ae (i:Nat))/\i<=g.length) g.length ⟨I.refl _ _,o2,ζ⟩ ?_
 rintro b1 k1-cq i sl K ⟨F,⟨to,lo,eo⟩,s0,s3,s4,dg,fP,ji,A⟩ ih
 have hcY:∀y∈Yc,y<p.ab:=s.lt
 have Qj:=(s.W g2 ζ).W F λ y G B=>by have:=hcY y G;simp at B;omega
 by_cases d:i<g.length
 .have I':i<(iY l).length:=by rw[pP];exact d
  obtain⟨id,ah,ax,ex,n,t,ro,c,rfl,hl,aU,bU,oZ⟩:=Qj.aZ.gL I';have w:i<l.length:=ω
  have s:c=ae (l[i]:Nat):=by have:[c]=[ae (iY l)[i]]:=oZ;simpa[iY]using this
  subst s;have Q:=AW _ (cG w);have Es:=eo _ Q;have gu:uz (l.take i) l[i]<=i:=by unfold uz;have:=BP (λ x=>decide (x=l[i])) (l.take i);rw[eK]at this;omega
  have hw:IntKind.wrap .i64 (((uz (l.take i) l[i]:Nat):Int)+1)=((uz (l.take i) l[i]+1:Nat):Int):=by rw[fQ ω ω];omega
  have jA:i<maxLen:=by unfold maxLen;omega
  simp[s4,dg,fP,ji,d,w,hl.get,aU,bU,lo.get,Q,Es,hw,bq jA,dz Q];refine ih ω ⟨F.put (.inr ζ),⟨_,lo.put_eq,λ x Z=>?_⟩,by simp[s0,s3,s4,dg,fP,dz d]⟩;rw[Tr.eR,R5 w];by_cases e:x=l[i]
  .subst e;simp
  .rw[ao e,eo x Z,ao (λ h=>e h.symm)];rfl
 obtain rfl:i=g.length:=ω
 subst cq
 rw[<-bA,iF]at eo
 have hG:=((hg.ai g1).ai (ke g2 F ζ)).sl
 have rP:=hG.aN yO
 have hb4:g.length<=140737488355328:=ω
 have hb5:g.length<=9223372036854775807:=ω
 simp[s0,s3,fP,ji,rP,hb4,hb5,wX,eN]
 generalize dw:D.add K _=K3
 have g3:I [] K K3:=by rw[<-dw];exact(I.refl _ _).add _
 have n3:K3.ab=K.ab+1:=by rw[<-dw];rfl
 have o3:iD K3 K.ab g.length (λ x=>bl (if x<0 then LK g l x else false)):=by rw[<-dw];exact⟨_,Lv.new,λ x Z=>by rw[Bp,aq ω];rfl⟩
 clear dw
 have hG3:=((hg.ai g1).ai (ke g2 F ζ)).ai g3
 have hcK3:=Qj.W g3 ζ
 have Nj:=lo.ai g3
 have hloK:=lo.lt
 have hnK:=F.ab
 refine CA (λ i sl J=>I [K.ab] K3 J/\iD J K.ab g.length (λ x=>bl (if x<i then LK g l x else false))/\AV sl 0 v/\AV sl 4 (.sl p.ab 0 1 (hi l) (hi l) true)/\AV sl 7 (.sl K.ab 0 1 g.length g.length true)/\AV sl 31 cv/\AV sl 32 (ae (g.length:Nat))/\AV sl 33 (ae (i:Nat))/\i<=g.length) g.length ⟨I.refl _ _,o3,by simp[s0,s4]⟩ ?_
 rintro b2 k2-dO i Hn J ⟨g4,⟨tb,lb,eb⟩,q0,q4,M,r,f,C,A⟩ eJ
 have Z_:I [] p J:=ke ((ke g2 F ζ).trans g3) g4 ξ
 by_cases d:i<g.length
 .have I':i<(iY l).length:=by rw[pP];exact d
  obtain⟨id,ah,ax,ex,n,t,ro,c,rfl,hl,aU,bU,oZ⟩:=(s.W Z_ ζ).aZ.gL I';have w:i<l.length:=ω
  have s:c=ae (l[i]:Nat):=by have:[c]=[ae (iY l)[i]]:=oZ;simpa[iY]using this
  subst s;obtain⟨idr,ajE,afZ,exr,nr,tr,ror,ur,rfl,lr,Jb,Db,kj,-⟩:=((hg.ai g1).ai Z_).row d;have R:=Nj.W g4 ξ;have Q:=AW _ (cG w);have Es:=eo _ Q;have jA:i<maxLen:=by unfold maxLen;omega
  have U:=FT (H:=J) (i:Nat) kj.sl;have hcy:LK g l i=(decide (1<uz l l[i])||g[i].any λ x=>decide ((i:Int)=x)):=by unfold LK;simp[w,d]
  have N:∀z:CX,z.get 0=some (.sl idr ajE 1 g.length afZ exr)->z.get 4=some (.sl p.ab 0 1 (hi l) (hi l) true)->z.get 7=some (.sl K.ab 0 1 g.length g.length true)->z.get 31=some (.sl id ah 1 l.length ax ex)->z.get 32=some (ae (g.length:Nat))->z.get 33=some (ae ((i:Int)+1))->aD E0 (.code (.loop b2)::k2) ⟨z,56,[],none,44⟩ (J.put K.ab (some (.cells g.length (tb.put i (some (bl (LK g l i)))) false))) (qb E0 [ResultVar.tmp 2] Q'):=by
   intro z p0 p4 p7 p31 p32 p33;refine eJ ω ⟨g4.put (.inr ζ),⟨_,lb.put_eq,λ x Z=>?_⟩,p0,p4,p7,by simpa[iY]using p31,p32,by simpa using p33,d⟩;rw[Tr.eR];by_cases e:x=i
   .subst e;simp
   .rw[ao e,eb x Z];have:(x<i+1)↔x<i:=ω
    simp only[this]
  rw[hcy]at N;by_cases O:1<uz l l[i]
  .have fj:(1:Int)<((uz l l[i]:Nat):Int):=ω
   simp[q0,q4,M,r,f,C,d,w,hl.get,aU,bU,R.get,Q,Es,fj,lb.get,bq jA,dz d];rw[Ti O,Ot]at N;refine N _ ?_ ?_ ?_ ?_ ?_ ?_<;>simp[q0,q4,M,r,f]
  .have fj:¬(1:Int)<((uz l l[i]:Nat):Int):=ω
   simp[q0,q4,M,r,f,C,d,w,hl.get,aU,bU,R.get,Q,Es,fj,lr.get,Jb,Db,cE U,lb.get,bq jA,dz d];rw[OJ O,Bool.false_or]at N;refine N _ ?_ ?_ ?_ ?_ ?_ ?_<;>simp[q0,q4,M,r,f]
 .obtain rfl:i=g.length:=ω
  subst dO;simp[M,f,C];refine hQ ⟨⟨[K.ab],?_,by simp;have:=g1.ab;have:=g2.ab;omega⟩,g1.trans Z_⟩;exact aX.kq lb ζ (λ x Z=>by rw[eb x Z];simp[Z]) (Nat.le_refl _) ζ (by unfold maxLen;omega)
end
theorem klT:(fq 27,fq 40,())=(some Tryz.f27,some Tryz.f40,()):=κ
def o27:=fe (jd klT)
def o40:=fe (jq klT)
section
variable{H HB:D}{id:Nat}{S:SM}
theorem smProg(h:lu H id S)(y:∀fn∈S.p,sf fn)(G:S.p.length<=64)(F:S.p≠[]):CN 27 [.ptr id 0] H λ v K=>∃vf,v=.agg [vf]/\(∀T,I (List.range H.ab) K T->oO T vf S.p)/\I [] H K:=by refine ba o27 rfl λ M A=>?_;have⟨au,vf,cY,cM,mid,⟨t,sv,ov,pv,X1,X2,i3,i5,i6,l,c,d⟩,w⟩:=h;have C:¬H.ab=id:=Nat.ne_of_gt d.ob.lt;have B:¬id=H.ab:=bC d.ob.lt;have O:bc t 0 1=some [vf]:=iB.2 ⟨rfl,λ j J=>by obtain rfl:j=0:=ω;simpa using d.t0⟩;simp[d.ob.get,bY O,C,B];have r:I [] H (H.add (.cells 1 (Tr.e.put 0 (some (.lit (.slice none 0 0)))) false)):=(I.refl _ _).add _;refine CW (aCk (w.zB r) y G F) ?_;rintro _ K ⟨s,rfl,O,f⟩;have l1:∃t,Lv K H.ab (.cells 1 t false):=⟨_,Lv.ai (Lv.new) f⟩;have⟨t1,l1⟩:=l1;have z:=(O K (I.refl _ _)).cell;simp[l1.get,z];have gp:∀o,I [H.ab] K (K.put H.ab o):=λ o=>(I.refl _ _).put (.inr ζ);refine A ⟨_,rfl,λ T dW=>O _ (((gp _).mono λ x Z=>by simp at Z;subst Z;simp[D.add]).trans (dW.mono λ x Z=>by simp[D.add]at Z⊢;omega)),ke (r.trans f) (gp _) ζ⟩
theorem W2{fn:aQ}{M:AU}(Z:qe HB fn M)(N:I [] HB H)(ok:sf fn):CN 40 [.agg M] H λ u K=>(∃aL,aX K 1 u ((cycL (lh fn.blocks)).map λ b=>bl b) aL/\∀y∈aL,H.ab<=y)/\I [] H K:=by
 refine ba o40 rfl λ Q C=>?_;have w:=Z;obtain⟨vp,vb,rfl,z,B⟩:=Z;simp[z.cell,B.cell];generalize p:D.add _ _=H1;have h:I [] H H1:=by rw[<-p];exact(I.refl _ _).add _
 clear p;refine CW (aov w (N.trans h) ok) ?_;rintro _ K ⟨⟨sv,pv,rfl,e,r⟩,J⟩;simp[e.sl.cell,r.sl.cell];generalize d:D.put _ _ _=K2;have f:I [] K K2:=by rw[<-d];exact ke ((I.refl _ _).add _) ((I.refl _ _).put (.inr ζ)) (X:=[K.ab]) ζ
 clear d;have gA:=(h.trans J).trans f;have s:(lh fn.blocks).length<=1048576:=by have:=ok.nb;unfold lh;rw[List.length_map];omega
 refine CW (E9 ((e.ai f).mono (dQ _)) s λ l A=>by have:=akT ok l A;omega) ?_;rintro u R ⟨⟨aL,O,U⟩,F⟩;try simp
 exact C ⟨⟨aL,O,λ y G=>by have:=U y G;have:=gA.ab;omega⟩,gA.trans F⟩
end
structure h3(K:D)(m g n:Nat)(c:Nat->Nat×Nat)(c7:Nat->List Pt)(gA:Nat->List Int):Prop where
 cm:c m=(1,0)
 cg:c g=(2,0)
 mp:∃rv:Nat->Option J,lp K m 3 n rv/\∀i,i<n->∃aL,aX K 3 ((rv i).getD Dp) ((c7 i).flatMap yI) aL/\∀y∈aL,c y=(3,i)
 gp:∃t,Lv K g (.cells n t false)/\∀i,i<n->∃u aL,t.get i=some u/\aX K 1 u (aZ (gA i)) aL/\∀y∈aL,c y=(4,i)
section
variable{K T:D}{m g n:Nat}{c:Nat->Nat×Nat}{c7:Nat->List Pt}{gA:Nat->BW}
theorem h3.W(h:h3 K m g n c c7 gA){cL:AT}(dW:I cL K T)(r:∀y∈cL,(c y).1=0\/5<=(c y).1):h3 T m g n c c7 gA:=by
 have f:∀{y:Nat} {k:Nat×Nat},c y=k->k.1≠0->k.1<5->y∉cL:=λ h Q s B=>by have:=r _ B;rw[h]at this;omega
 have⟨rv,a,b⟩:=h.mp;have⟨t,d,e⟩:=h.gp;refine⟨h.cm,h.cg,⟨rv,a.W dW (f h.cm η η),λ i A=>?_⟩,⟨t,d.W dW (f h.cg η η),λ i A=>?_⟩⟩
 .have⟨aL,p,q⟩:=b i A;exact⟨aL,p.W dW λ y G=>f (q y G) ζ ζ,q⟩
 .have⟨u,aL,o,p,q⟩:=e i A;exact⟨u,aL,o,p.W dW λ y G=>f (q y G) ζ ζ,q⟩
theorem h3.RF(h:h3 K m g n c c7 gA){c':Nat->Nat×Nat}(f:∀y,y<K.ab->c' y=c y):h3 K m g n c' c7 gA:=by
 have⟨rv,a,b⟩:=h.mp;have⟨t,d,e⟩:=h.gp;refine⟨by rw[f _ a.lt];exact h.cm,by rw[f _ d.lt];exact h.cg,⟨rv,a,λ i A=>?_⟩,⟨t,d,λ i A=>?_⟩⟩
 .have⟨aL,p,q⟩:=b i A;exact⟨aL,p,λ y G=>by rw[f y (p.lt y G)];exact q y G⟩
 .have⟨u,aL,o,p,q⟩:=e i A;exact⟨u,aL,o,p,λ y G=>by rw[f y (p.lt y G)];exact q y G⟩
theorem h3.cput(h:h3 K m g n c c7 gA)(A:j<n)(hn:n<=1048576):∃r f u aL,Lv K m (.map 3 r f)/\jE r f=true/\(cH (.int .i64 (j:Nat)) f).getD Dp=u/\aX K 3 u ((c7 j).flatMap yI) aL/\(∀y∈aL,c y=(3,j))/\
 ∀z v' ids' (l':List Pt),I aL K z->aX z 3 v' (l'.flatMap yI) ids'->(∀y∈ids',y∈aL\/K.ab<=y)->
  h3 (z.put m (some (.map 3 (oC r (.int .i64 (j:Int)) f) (eD r (.int .i64 (j:Int)) v' f)))) m g n (λ y=>if y<K.ab then c y else(3,j)) (aM c7 j l') gA:=by
 have⟨rv,a,b⟩:=h.mp
 have⟨t,d,e⟩:=h.gp
 have⟨r,f,J,R,a3,a4,a5⟩:=a.ob
 have⟨aL,p,q⟩:=b j A
 refine⟨r,f,_,aL,J,R,by rw[a3],p,q,λ z v' ids' l' dW U M=>?_⟩
 have D:∀{y:Nat} {k:Nat×Nat},c y=k->k≠(3,j)->y∉aL:=λ h Q B=>Q (h.symm.trans (q _ B))
 have N:=lp.eD (v:=v') (J.W dW (D h.cm ζ)) R a3 a4 a5 A ω
 have gp:I [m] z (z.put m (some (.map 3 (oC r (.int .i64 (j:Int)) f) (eD r (.int .i64 (j:Int)) v' f)))):=(I.refl _ _).put (.inr ζ)
 generalize z.put m (some (.map 3 (oC r (.int .i64 (j:Int)) f) (eD r (.int .i64 (j:Int)) v' f)))=K2 at N gp⊢
 have F:∀(y:Nat),y∈[m]->y=m:=λ y G=>by simpa using G
 have Mk:=J.lt
 refine⟨by rw[aq Mk];exact h.cm,by rw[aq d.lt];exact h.cg,⟨_,N,λ x Z=>?_⟩,⟨t,(d.W dW (D h.cg ζ)).W gp (λ B=>by have O:=h.cm;rw[<-F _ B,h.cg]at O;cases O),λ x Z=>?_⟩⟩
 .by_cases ex:x=j
  .subst ex;rw[fE,fE];refine⟨ids',U.W gp λ y G B=>?_,λ y G=>?_⟩
   .rw[F y B]at G;rcases M _ G with w|w
    .exact D h.cm ζ w
    .omega
   .rcases M y G with w|w
    .rw[aq (p.lt y w)];exact q y w
    .rw[ao ω]
  .rw[gG ex,gG ex];have⟨Y2,C,s⟩:=b x Z;refine⟨Y2,(C.W dW λ y G=>D (s y G) (by simpa using ex)).W gp λ y G B=>?_,λ y G=>by rw[aq (C.lt y G)];exact s y G⟩;have O:=s y G;rw[F y B,h.cm]at O;cases O
 .have⟨u,Y2,o,C,s⟩:=e x Z
  refine⟨u,Y2,o,(C.W dW λ y G=>D (s y G) ζ).W gp λ y G B=>?_,λ y G=>by rw[aq (C.lt y G)];exact s y G⟩;have O:=s y G;rw[F y B,h.cm]at O;cases O
theorem h3.ahd(h:h3 K m g n c c7 gA)(A:j<n):∃t u aL,Lv K g (.cells n t false)/\t.get j=some u/\aX K 1 u (aZ (gA j)) aL/\(∀y∈aL,c y=(4,j))/\
 ∀f v' ids' (l':BW),I aL K f->aX f 1 v' (aZ l') ids'->(∀y∈ids',y∈aL\/K.ab<=y)->
  h3 (f.put g (some (.cells n (t.put j (some v')) false))) m g n (λ y=>if y<K.ab then c y else(4,j)) c7 (aM gA j l'):=by
 have⟨rv,a,b⟩:=h.mp
 have⟨t,d,e⟩:=h.gp
 have⟨u,aL,o,p,q⟩:=e j A
 refine⟨t,u,aL,d,o,p,q,λ f v' ids' l' dW N D=>?_⟩
 have z:∀{y:Nat} {k:Nat×Nat},c y=k->k≠(4,j)->y∉aL:=λ h Q B=>Q (h.symm.trans (q _ B))
 have d1:=d.W dW (z h.cg ζ)
 have d2:Lv (f.put g (some (.cells n (t.put j (some v')) false))) g (.cells n (t.put j (some v')) false):=d1.put_eq
 have gp:I [g] f (f.put g (some (.cells n (t.put j (some v')) false))):=(I.refl _ _).put (.inr ζ)
 generalize f.put g (some (.cells n (t.put j (some v')) false))=K2 at d2 gp⊢
 have C:∀(y:Nat),y∈[g]->y=g:=λ y G=>by simpa using G
 have J:=d.lt
 refine⟨by rw[aq a.lt];exact h.cm,by rw[aq J];exact h.cg,⟨rv,(a.W dW (z h.cm ζ)).W gp (λ B=>by have O:=h.cg;rw[<-C _ B,h.cm]at O;cases O),λ x Z=>?_⟩,⟨_,d2,λ x Z=>?_⟩⟩
 .have⟨Y2,s,r⟩:=b x Z
  refine⟨Y2,(s.W dW λ y G=>z (r y G) ζ).W gp λ y G B=>?_,λ y G=>by rw[aq (s.lt y G)];exact r y G⟩;have O:=r y G;rw[C y B,h.cg]at O;cases O
 .by_cases ex:x=j
  .subst ex;refine⟨v',ids',ζ,?_,λ y G=>?_⟩
   .rw[fE];refine N.W gp λ y G B=>?_;rw[C y B]at G;rcases D _ G with w|w
    .exact z h.cg ζ w
    .omega
   .rcases D y G with w|w
    .rw[aq (p.lt y w)];exact q y w
    .rw[ao ω]
  .have⟨F,Y2,M,s,r⟩:=e x Z;rw[gG ex];refine⟨F,Y2,by rw[Tr.eR,ao ex];exact M,(s.W dW λ y G=>z (r y G) (by simpa using ex)).W gp λ y G B=>?_,λ y G=>by rw[aq (s.lt y G)];exact r y G⟩;have O:=r y G;rw[C y B,h.cg]at O;cases O
theorem h3.gi(h:h3 K m g n c c7 gA)(f:n<=maxLen){dW:List BW}(r:dW.length=n)(he:∀i (A:i<dW.length),dW[i]=gA i){ex:Bool}:GI 0 K (.sl g 0 1 n n ex) dW:=by
 have⟨t,d,e⟩:=h.gp;subst r;refine⟨.sl d ω (λ i A=>?_) (Nat.le_refl _) f,xh.zero⟩;have⟨u,aL,o,p,q⟩:=e i A;refine⟨[u],iB.2 ⟨rfl,λ j s=>?_⟩,u,rfl,?_⟩
 .obtain rfl:j=0:=ω
  simp[o]
 .rw[he i A];exact .own p λ y _=>dQ _
end
theorem W7:(fq 36,fq 104,fq 105,pq 36 10,pq 36 11,pq 36 18,pq 36 20,pq 36 24,pq 36 32,())=(some Tryz.f36,some Tryz.f104,some Tryz.f105,some [.op 0,.op 1,.op 2,.op 3,.op 4,.op 5,.op 6,.op 7,.op 8,.op 9,.op 10,.op 11,.op 12,.wr 13 [0,3],.wr 14 []],some [.op 0,.op 1,.op 2,.op 3,.op 4,.op 5,.op 6,.op 7,.op 8,.op 9,.op 10,.op 11,.op 12,.op 13,.op 14,.op 15,.wr 16 [0,3,5],.op 17,.wr 18 []],some [.op 0,.op 1,.op 2,.op 3,.op 4,.op 5,.op 6,.op 7,.op 8,.op 9,.op 10,.op 11,.wr 12 [0,3],.op 13,.wr 14 []],some [.op 0,.op 1,.op 2,.op 3,.op 4,.wr 5 [0],.op 6,.op 7,.wr 8 []],some [.op 0,.op 1,.op 2,.op 3,.op 4,.op 5,.wr 6 [0,1,4],.op 7,.wr 8 [0],.op 9,.op 10,.wr 11 []],some [.op 0,.op 1,.op 2,.op 3,.op 4,.op 5,.op 6,.op 7,.op 8,.op 9,.op 10,.op 11,.wr 12 [0,1,4],.op 13,.wr 14 [0],.op 15,.op 16,.wr 17 []],()):=κ
def o36:=fe (jd W7)
def o104:=fe (jq W7)
def o105:=fe (jr W7)
def w36a:=pe (js W7)
def w36b:=pe (jt W7)
def w36c:=pe (ju W7)
def w36d:=pe (jv W7)
def w36e:=pe (jw W7)
def w36f:=pe (jx W7)
theorem koU:(tq 39,tq 66,tq 140,tq 141,tq 143,pq 104 4,pq 105 1,())=(some ⟨.func #[3,3] #[4] false,1,8,[.lit .nilFunc]⟩,some ⟨.pointer 143,1,8,[.lit (.pointer none)]⟩,some ⟨.map 3 70,1,8,[.lit (.map none)]⟩,some ⟨.slice 72,1,24,[.lit (.slice none 0 0)]⟩,some ⟨.struct #[⟨ "m",27,0,false,"","gnomon/calls",0⟩,⟨ "a",31,1,false,"","gnomon/calls",8⟩,⟨ "callers",140,2,false,"","gnomon/calls",16⟩,⟨ "graph",76,3,false,"","gnomon/calls",24⟩,⟨ "rec",72,4,false,"","gnomon/calls",48⟩,⟨ "round",141,5,false,"","gnomon/calls",72⟩,⟨ "once",72,6,false,"","gnomon/calls",96⟩],7,120,[.lit (.pointer none),.lit (.pointer none),.lit (.map none),.lit (.slice none 0 0),.lit (.slice none 0 0),.lit (.slice none 0 0),.lit (.slice none 0 0)]⟩,some [.op 0,.op 1,.op 2,.op 3,.op 4,.op 5,.op 6,.op 7,.op 8,.op 9,.op 10,.op 11,.wr 12 [],.op 13,.op 14,.op 15,.op 16,.op 17,.op 18,.op 19,.op 20,.op 21,.op 22,.wr 23 [],.op 24,.op 25],some [.op 0,.op 1,.op 2,.op 3,.op 4,.op 5,.op 6,.op 7,.op 8],()):=κ
def tt39:=te (jd koU)
def tt66:=te (jq koU)
def tt140:=te (jr koU)
def tt141:=te (js koU)
def tt143:=te (jt koU)
def w104:=pe (ju koU)
def w105:=pe (jv koU)
attribute [simp] w36a w36b w36c w36d w36e w36f tt39 tt66 tt140 tt141 tt143 w104 w105
structure fr(H:D)(n dH p5 m g:Nat)(K:D)(c:Nat->Nat×Nat)(c7:Nat->List Pt)(gA:Nat->List Int)(t:Tr J):Prop where
 eV:h3 K m g n c c7 gA
 ob:Lv K dH (.cells 7 t false)
 C2:∃tp,Lv K p5 (.cells 1 tp false)/\tp.get 0=some (.ptr dH 0)
 t2:AV t 2 (.map m)
 t3:AV t 3 (.sl g 0 1 n n true)
 cc:c dH=(5,0)
 c5:c p5=(6,0)
 low:∀y,y<H.ab->c y=(0,0)
 base:I [] H K
section
variable{H K T:D}{n dH p5 m g:Nat}{c c':Nat->Nat×Nat}{c7 p9:Nat->List Pt}{gA gB:Nat->BW}{t:CX}
theorem fr.lo(h:fr H n dH p5 m g K c c7 gA t)(G:(c j).1≠0):H.ab<=j:=by
 rcases kb j H.ab with q|q
 .rw[h.low j q]at G;exact absurd rfl G
 .exact q
theorem fr.W(h:fr H n dH p5 m g K c c7 gA t){cL:AT}(dW:I cL K T)(d:∀y∈cL,7<=(c y).1):fr H n dH p5 m g T c c7 gA t:=by
 have⟨tp,a,b⟩:=h.C2;exact{h with
  eV:=h.eV.W dW λ y G=>.inr (by have:=d y G;omega)
  ob:=h.ob.W dW λ B=>by have:=d _ B;rw[h.cc]at this;simp at this
  C2:=⟨tp,a.W dW (λ B=>by have:=d _ B;rw[h.c5]at this;simp at this),b⟩
  base:=ke h.base dW λ y G=>h.lo (by have:=d y G;omega)}
theorem fr.ai(h:fr H n dH p5 m g K c c7 gA t)(dW:I [] K T):fr H n dH p5 m g T c c7 gA t:=h.W dW ζ
theorem fr.RF(h:fr H n dH p5 m g K c c7 gA t)(d:∀y,y<K.ab->c' y=c y):fr H n dH p5 m g K c' c7 gA t:=by have⟨tp,a,b⟩:=h.C2;exact{h with eV:=h.eV.RF d,cc:=by rw[d _ h.ob.lt];exact h.cc,c5:=by rw[d _ a.lt];exact h.c5,low:=λ y G=>by rw[d y (aT G h.base.ab)];exact h.low y G}
theorem fr.own(h:fr H n dH p5 m g K c c7 gA t){cL:AT}(dW:I cL K T)(d:∀y∈cL,1<=(c y).1/\(c y).1<=4)(f:∀y,y<K.ab->c' y=c y)(e:h3 T m g n c' p9 gB):fr H n dH p5 m g T c' p9 gB t:=by
 have⟨tp,a,b⟩:=h.C2;have U:=h.RF f;exact{U with
  eV:=e
  ob:=h.ob.W dW λ B=>by have:=d _ B;rw[h.cc]at this;simp at this
  C2:=⟨tp,a.W dW (λ B=>by have:=d _ B;rw[h.c5]at this;simp at this),b⟩
  base:=ke h.base dW λ y G=>h.lo (by have:=d y G;omega)}
theorem fr.cput(h:fr H n dH p5 m g K c c7 gA t){i:Nat}(A:i<n)(w:n<=1048576):∃e d u aL,Lv K m (.map 3 e d)/\jE e d=true/\(cH (.int .i64 (i:Nat)) d).getD Dp=u/\aX K 3 u ((c7 i).flatMap yI) aL/\(∀y∈aL,c y=(3,i))/\
 ∀f v' ids' (l':List Pt),I aL K f->aX f 3 v' (l'.flatMap yI) ids'->(∀y∈ids',y∈aL\/K.ab<=y)->
  fr H n dH p5 m g (f.put m (some (.map 3 (oC e (.int .i64 (i:Int)) d) (eD e (.int .i64 (i:Int)) v' d)))) (λ y=>if y<K.ab then c y else(3,i)) (aM c7 i l') gA t/\I (aL++[m]) K (f.put m (some (.map 3 (oC e (.int .i64 (i:Int)) d) (eD e (.int .i64 (i:Int)) v' d)))):=by
 have⟨e,d,u,aL,C,B,a3,a4,a5,z⟩:=h.eV.cput A w
 refine⟨e,d,u,aL,C,B,a3,a4,a5,λ f v' ids' l' dW s r=>?_⟩
 have p:I (aL++[m]) K (f.put m (some (.map 3 (oC e (.int .i64 (i:Int)) d) (eD e (.int .i64 (i:Int)) v' d)))):=(dW.mono λ x Z=>by simp[Z]).trans ((I.refl _ _).put (.inr ζ))
 refine⟨h.own p (λ y G=>?_) (λ y G=>aq G) (z f v' ids' l' dW s r),p⟩
 rcases b_.1 G with q|q
 .rw[a5 y q];simp
 .have:y=m:=by simpa using q
  rw[this,h.eV.cm];simp
theorem fr.ahd(h:fr H n dH p5 m g K c c7 gA t){i:Nat}(A:i<n):∃d u aL,Lv K g (.cells n d false)/\d.get i=some u/\aX K 1 u (aZ (gA i)) aL/\(∀y∈aL,c y=(4,i))/\
 ∀e v' ids' (l':BW),I aL K e->aX e 1 v' (aZ l') ids'->(∀y∈ids',y∈aL\/K.ab<=y)->
  fr H n dH p5 m g (e.put g (some (.cells n (d.put i (some v')) false))) (λ y=>if y<K.ab then c y else(4,i)) c7 (aM gA i l') t/\I (aL++[g]) K (e.put g (some (.cells n (d.put i (some v')) false))):=by
 have⟨d,u,aL,z,w,a4,a5,s⟩:=h.eV.ahd A
 refine⟨d,u,aL,z,w,a4,a5,λ e v' ids' l' dW r p=>?_⟩
 have f:I (aL++[g]) K (e.put g (some (.cells n (d.put i (some v')) false))):=(dW.mono λ x Z=>by simp[Z]).trans ((I.refl _ _).put (.inr ζ))
 refine⟨h.own f (λ y G=>?_) (λ y G=>aq G) (s e v' ids' l' dW r p),f⟩
 rcases b_.1 G with q|q
 .rw[a5 y q];simp
 .have:y=g:=by simpa using q
  rw[this,h.eV.cg];simp
theorem fr.eA(h:fr H n dH p5 m g K c c7 gA t){t':CX}(f:t'.get 2=t.get 2)(e:t'.get 3=t.get 3):fr H n dH p5 m g (K.put dH (some (.cells 7 t' false))) c c7 gA t'/\I [dH] K (K.put dH (some (.cells 7 t' false))):=by
 have dW:I [dH] K (K.put dH (some (.cells 7 t' false))):=(I.refl _ _).put (.inr ζ);have d:∀y∈[dH],c y=(5,0):=λ y G=>by
  have:y=dH:=by simpa using G
  rw[this,h.cc]
 have⟨tp,a,b⟩:=h.C2;refine⟨{h with
  eV:=h.eV.W dW λ y G=>.inr (by rw[d y G];exact Nat.le_refl _)
  ob:=h.ob.put_eq,t2:=f.trans h.t2,t3:=e.trans h.t3
  C2:=⟨tp,a.W dW (λ B=>by have:=d _ B;rw[h.c5]at this;cases this),b⟩
  base:=ke h.base dW λ y G=>h.lo (by rw[d y G];simp)},dW⟩
end
def LM(au:Pt->BW)(L:List Pt)(j f:Nat):List Pt:=(L.take j).flatMap λ q=>((au q).filter λ x=>decide (x=(f:Int))).map λ _=>q
def E3(au:Pt->BW)(L:List Pt)(j i:Nat):BW:=(L.take j).flatMap λ q=>if q.1=i then au q else[]
def LP(au:Pt->BW)(L:List Pt)(q:Pt)(j k f:Nat):List Pt:=LM au L j f++(((au q).take k).filter λ x=>decide (x=(f:Int))).map λ _=>q
def LF(au:Pt->BW)(L:List Pt)(q:Pt)(j k i:Nat):BW:=E3 au L j i++if q.1=i then(au q).take k else[]
section
variable{au:Pt->BW}{L:List Pt}{q:Pt}{j k:Nat}
theorem crI_suc(Q:k<(au q).length)(h:(au q)[k]=(f0:Int)):aM (LP au L q j k) f0 (LP au L q j k f0++[q])=LP au L q j (k+1):=by
 funext f;unfold aM LP;rw[KK Q,YD,lF,<-FK];by_cases e:f=f0
 .subst e;simp[h]
 .have:¬(f0:Int)=(f:Int):=ω
  simp[e,h,this]
theorem grI_suc(Q:k<(au q).length):aM (LF au L q j k) q.1 (LF au L q j k q.1++[(au q)[k]])=LF au L q j (k+1):=by
 funext f;unfold aM LF;by_cases e:f=q.1
 .subst e;rw[aq rfl,aq rfl,aq rfl,KK Q,FK]
 .rw[ao e,ao (qj e),ao (qj e)]
theorem crI_0:LP au L q j 0=LM au L j:=by funext f;simp[LP]
theorem grI_0:LF au L q j 0=E3 au L j:=by funext f;simp[LF]
theorem crI_end(d:j<L.length)(h:L[j]=q):LP au L q j (au q).length=LM au L (j+1):=by funext f;unfold LP LM;rw[iF,KK d,HV,h];simp
theorem grI_end(d:j<L.length)(h:L[j]=q):LF au L q j (au q).length=E3 au L (j+1):=by funext f;unfold LF E3;rw[iF,KK d,HV,h];simp
theorem yq{α β:Type}{g:α->List β}{aG:Nat}:∀l:List α,(∀x∈l,(g x).length<=aG)->(l.flatMap g).length<=l.length*aG
 |[],_=>ζ
 |x::l,h=>by
  have:=yq l λ y G=>h y (by simp[G])
  have:=h x ζ
  rw[BN,iP,qi,ve];omega
theorem crI_le(d:∀q∈L,(au q).length<=4194304)(e:(au q).length<=4194304)(h:j<1024)(f:Nat):(LP au L q j k f).length<=1099511627776:=by
 have O:=yq (g:=λ q=>((au q).filter λ x=>decide (x=(f:Int))).map λ _=>q) (L.take j) λ x Z=>by rw[bW];exact aY (BP _ _) (d x (List.mem_of_mem_take Z))
 have U:=BP (λ x=>decide (x=(f:Int))) ((au q).take k);rw[eK]at O U;unfold LP LM;rw[iP,bW];have F:=nW 4194304 (show min j L.length<=1023 by omega);omega
theorem grI_le(d:∀q∈L,(au q).length<=4194304)(e:(au q).length<=4194304)(h:j<1024)(f:Nat):(LF au L q j k f).length<=1099511627776:=by
 have O:=yq (g:=λ q:Pt=>if q.1=f then au q else[]) (L.take j) λ x Z=>by
  split
  .exact d x (List.mem_of_mem_take Z)
  .exact dQ _
 have U:(if q.1=f then(au q).take k else[]).length<=4194304:=by
  split
  .rw[eK];omega
  .exact dQ _
 rw[eK]at O;unfold LF E3;rw[iP];have F:=nW 4194304 (show min j L.length<=1023 by omega);omega
end
structure CalW(H:D)(mid a:Nat)(S:SM)(au:Pt->List Int):Prop where
 mp:lu H mid S
 nD:uP S
 n0:0<S.p.length
 n1:S.p.length<=64
 p0:0<S.a_.length
 p1:S.a_.length<=1024
 ptF:∀q∈S.a_,q.1<S.p.length
 Gv:∀q∈S.a_,(au q).length<=4194304/\∀f∈au q,0<=f/\f<S.p.length
 ok:∀fn∈S.p,sf fn
 eV:∀q∈S.a_,∀K,I [] H K->CN 23 [.ptr a 0,ptV q] K λ u T=>(∃aL,aX T 1 u (aZ (au q)) aL/\∀y∈aL,K.ab<=y)/\I [] K T
theorem M_hide0(h:∀ay,b=ay->aD E [x,.code ay] Y H aj):aD E [x,.code b] Y H aj:=h b rfl
def hx(au:Pt->BW)(L:List Pt)(n i:Nat):BW:=if i<n then AG (lK (E3 au L L.length i))else E3 au L L.length i
theorem calls_a(N:CalW H mid a S au)(zQ:∀Q':J->D->Prop,(∀{v K},P v K->Q' v K)->∀cd,(Tryz.f36.body).bind (Pe 6)=some cd->∀(sl:CX) (K:D) (c:Nat->Nat×Nat) (t:CX),fr H S.p.length (H.ab+1+1) (H.ab+1+1+1) H.ab (H.ab+1) K c (LM au S.a_ S.a_.length) (hx au S.a_ S.p.length) t->(AV t 0 (.ptr mid 0)/\AV t 1 (.ptr a 0))->AV t 5 Dp->AV t 6 Dp->(∃q_v Y_q,AV t 4 q_v/\aX K 1 q_v ((cycL ((List.range S.p.length).map (hx au S.a_ S.p.length))).map λ b=>bl b) Y_q/\∀y∈Y_q,c y=(8,1))->AV sl 0 (.ptr mid 0)->AV sl 5 (.ptr (H.ab+1+1+1) 0)->aD E0 [.code cd] ⟨sl,172,[],none,36⟩ K (qb E0 [ResultVar.tmp 4] Q')):CN 36 [.ptr mid 0,.ptr a 0] H P:=by
 refine ba o36 rfl λ Q' hQ=>?_
 have C':=N.n0
 have rQ:=N.n1
 have bR:S.p.length*24<=140737488355328:=ω
 have eG:S.p.length<=9223372036854775807:=ω
 have fo:24*S.p.length<=140737488355328:=ω
 simp
 refine CW (aEQ (N.mp.W ((I.refl [] H).add _))) ?_
 rintro _ K0 ⟨rfl,rfl⟩
 simp[eG,fo,wX]
 generalize ed:D.put _ _ _=K1
 have g1:I [] H K1:=by rw[<-ed];exact((((((I.refl _ _).add _).add _).add _).add _).put (.inl (by first|omega|(simp[D.add];omega))))
 have n1:K1.ab=H.ab+1+1+1+1:=by rw[<-ed];rfl
 have IW:∃t,fr H S.p.length (H.ab+1+1) (H.ab+1+1+1) H.ab (H.ab+1) K1 (λ y=>if y<H.ab then(0,0)else if y=H.ab then(1,0)else if y=H.ab+1 then(2,0)else if y=H.ab+1+1 then(5,0)else if y=H.ab+1+1+1 then(6,0)else(7,0)) (LM au S.a_ 0) (E3 au S.a_ 0) t/\(AV t 0 (.ptr mid 0)/\AV t 1 (.ptr a 0))/\AV t 4 Dp/\AV t 5 Dp/\AV t 6 Dp:=by
  have lm:Lv K1 H.ab (.map 3 0 []):=by rw[<-ed];exact⟨by simp[D.add]<;>omega,by simp[D.eR,D.jK]<;>rfl⟩
  have lg:Lv K1 (H.ab+1) (.cells S.p.length (Tr.px [.lit (.slice none 0 0)] 1 S.p.length 0 Tr.e) false):=by rw[<-ed];exact⟨by simp[D.add]<;>omega,by simp[D.eR,D.jK]<;>rfl⟩
  have lc:∃t,Lv K1 (H.ab+1+1) (.cells 7 t false)/\AV t 2 (.map H.ab)/\AV t 3 (.sl (H.ab+1) 0 1 S.p.length S.p.length true)/\(AV t 0 (.ptr mid 0)/\AV t 1 (.ptr a 0))/\AV t 4 Dp/\AV t 5 Dp/\AV t 6 Dp:=by rw[<-ed];exact⟨_,⟨by simp[D.add]<;>omega,by simp[D.eR,D.jK]<;>rfl⟩,ζ⟩
  have VI:∃t,Lv K1 (H.ab+1+1+1) (.cells 1 t false)/\AV t 0 (.ptr (H.ab+1+1) 0):=by rw[<-ed];exact⟨_,⟨by simp[D.add]<;>omega,by simp[D.eR]<;>rfl⟩,ζ⟩
  have⟨t,lc,e2,e3,e4⟩:=lc;refine⟨t,⟨⟨?_,?_,⟨_,.new lm,λ i A=>⟨[],by simpa[LM]using aX.nil,ζ⟩⟩,⟨_,lg,λ i A=>⟨_,[],by rw[Bp,aq ω],by simpa[E3]using aX.nil,ζ⟩⟩⟩,lc,VI,e2,e3,?_,?_,λ y G=>aq G,g1⟩,e4⟩;all_goals(simp<;>omega)
 clear ed
 have⟨t,hS,e01,e4,e5,e6⟩:=IW
 generalize wE:(λ y=>if y<H.ab then(0,0)else if y=H.ab then(1,0)else if y=H.ab+1 then(2,0)else if y=H.ab+1+1 then(5,0)else if y=H.ab+1+1+1 then(6,0)else(7,0))=c0 at hS
 have hc7:∀y,K1.ab<=y->c0 y=(7,0):=λ y G=>by rw[<-wE];dsimp only;rw[ao ω,ao ω,ao ω,ao ω,ao ω]
 clear wE
 have A3:t.get 1=t.get 1:=rfl
 refine CW (aER (N.mp.W g1) N.nD) ?_
 rintro pv K2 ⟨hP,AW,g2⟩
 obtain⟨pid,hk,B6,SX,pn,pt,pro,rfl,VI,mC,qy,hpc,nJ⟩:=hP.full N.p0
 have X4:K1.ab<=pid:=AW _ _ _ _ _ _ rfl
 have hS2:=hS.ai g2
 have hpc7:=hc7 pid X4
 have aIo:=N.p1
 simp[de XD]
 refine CA (λ j sl K=>(∃c,fr H S.p.length (H.ab+1+1) (H.ab+1+1+1) H.ab (H.ab+1) K c (LM au S.a_ j) (E3 au S.a_ j) t/\c pid=(7,0)/\pid<K.ab)/\Lv K pid (.cells pn pt pro)/\AV sl 0 (.ptr mid 0)/\AV sl 1 (.ptr a 0)/\AV sl 5 (.ptr (H.ab+1+1+1) 0)/\AV sl 32 (.sl pid hk 3 S.a_.length B6 SX)/\AV sl 33 (ae (S.a_.length:Nat))/\AV sl 34 (ae (j:Nat))/\j<=S.a_.length) S.a_.length ⟨⟨c0,hS2,hpc7,VI.lt⟩,VI,ζ⟩ ?_
 rintro b1 k1-cq j sl K ⟨⟨c,r,qw,-⟩,lpj,s0,s1,s5,jZ,Br,w8,hj⟩ ih
 by_cases bB:j<S.a_.length
 .have ix:j<maxLen:=by unfold maxLen;omega
  have⟨M,yi,mY⟩:=qy j bB;have gR:M=yI S.a_[j]:=mY;subst gR;have C3:=cG bB;generalize hq:S.a_[j]=q at yi C3;have⟨kH,hff⟩:=N.Gv q C3;have Mv:=N.ptF q C3;have aU:hk+j*3+3<=pn:=ω
  have kh:bc pt (hk+j*3) 3=some [ae (q.1:Nat),ae (q.2.1:Nat),ae (q.2.2:Nat)]:=yi;simp[s1,jZ,Br,w8,bB,lpj.get,aU,bY kh];generalize dw:D.put _ _ _=K3;have g3:I [] K K3:=by rw[<-dw];exact ke ((I.refl _ _).add _) ((I.refl _ _).put (.inr ζ)) (X:=[K.ab]) ζ
  have l7:∃t,Lv K3 K.ab (.cells 3 t false)/\bc t 0 3=some [ae (q.1:Nat),ae (q.2.1:Nat),ae (q.2.2:Nat)]/\AV t 0 (ae (q.1:Nat)):=by rw[<-dw];exact⟨_,(Lv.new (H:=K)).put_eq,by simp[bc],ζ⟩
  clear dw;have⟨t7,l7,hr7,h70⟩:=l7;have X8:=r.RF (c':=λ y=>if y<K.ab then c y else(7,0)) λ y G=>aq G;have hcr:∀y,K.ab<=y->(λ y=>if y<K.ab then c y else(7,0)) y=(7,0):=λ y G=>ao ω;have hcpr:(λ y=>if y<K.ab then c y else(7,0)) pid=(7,0):=(aq lpj.lt).trans qw;generalize(λ y=>if y<K.ab then c y else((7:Nat),(0:Nat)))=cq7 at X8 hcr hcpr;refine CW (N.eV q C3 K3 (X8.base.trans g3)) ?_;generalize hF:au q=l at kH hff;rintro lv K4 ⟨⟨Yl,hl,Qe⟩,g4⟩;have bA:=hl.aZ.aN bK;simp[bA];have PE:=g3.trans g4;have hn34:=g3.ab;have l74:=l7.ai g4;have lp4:=lpj.ai PE;have hYc:∀y∈Yl,cq7 y=(7,0):=λ y G=>hcr y (by have:=Qe y G;omega);have sD:=hl.lt;refine CA (λ k sl s=>(∃c,fr H S.p.length (H.ab+1+1) (H.ab+1+1+1) H.ab (H.ab+1) s c (LP au S.a_ q j k) (LF au S.a_ q j k) t/\c pid=(7,0)/\c K.ab=(7,0)/\∀y∈Yl,c y=(7,0))/\Lv s pid (.cells pn pt pro)/\Lv s K.ab (.cells 3 t7 false)/\aX s 1 lv (aZ l) Yl/\AV sl 0 (.ptr mid 0)/\AV sl 1 (.ptr a 0)/\AV sl 5 (.ptr (H.ab+1+1+1) 0)/\AV sl 32 (.sl pid hk 3 S.a_.length B6 SX)/\AV sl 33 (ae (S.a_.length:Nat))/\AV sl 34 (ae (j:Nat))/\AV sl 7 (.ptr K.ab 0)/\AV sl 40 lv/\AV sl 41 (ae (l.length:Nat))/\AV sl 42 (ae (k:Nat))/\k<=l.length) l.length ⟨⟨cq7,by rw[crI_0,grI_0];exact X8.ai PE,hcpr,hcr _ (Nat.le_refl _),hYc⟩,lp4,l74,hl,by simp[s0,s1,s5,jZ,Br,w8]⟩ ?_
  rintro b2 k2-dO k Hn s ⟨⟨c2,z,hcp5,hc75,hcY5⟩,lp5,l75,hl5,q0,q1,f,q32,q33,q34,q7,q40,q41,q42,Q⟩ eJ;by_cases eO:k<l.length
  .have U7:k<maxLen:=by have:=hl.aZ.cP;omega
   have⟨GS,azU,an6,exl,nl,tl,rol,cl,mO,sJ,aaw,aaQ,IV⟩:=hl5.aZ.gL eO;obtain⟨f0,hf0⟩:∃f0:Nat,l[k]=(f0:Int):=⟨l[k].toNat,by have:=(hff _ (cG eO)).1;omega⟩;have hf0n:f0<S.p.length:=by have:=(hff _ (cG eO)).2;omega
   have eN:cl=ae (f0:Nat):=by have:[cl]=[ae l[k]]:=IV;rw[hf0]at this;simpa using this
   subst eN;have⟨tp,lp5q,ep5⟩:=z.C2;have⟨mc,ml,u,aL,a1,a2,a3,a4,a5,a6⟩:=z.cput hf0n ω;simp[-cX,f,q40,q41,q42,eO,mO,sJ.get,aaw,aaQ,lp5q.get,ep5,z.ob.get,z.t2,a1.get];refine Fi (v:=u) (T:=s) (by rw[<-a3];exact Wn) ?_;simp[-cX,q7,l75.get,bY hr7];generalize EN:D.add s _=K6;have g6:I [] s K6:=by rw[<-EN];exact(I.refl _ _).add _
   have lr:∃tr,Lv K6 s.ab (.cells 3 tr false)/\bc tr 0 (1*3)=some [ae (q.1:Nat),ae (q.2.1:Nat),ae (q.2.2:Nat)]:=by rw[<-EN];exact⟨_,Lv.new,by simp[bc]⟩
   clear EN;have⟨tr,lr,lr0⟩:=lr;have eN:=crI_le (k:=k) (λ q hq=>(N.Gv q hq).1) (by rw[hF];exact kH) (show j<1024 by omega) f0;have hcl3:=ZZ (L:=LP au S.a_ q j k f0);refine Fh (n:=1) XD aef ω (a4.W g6 ζ) lr.get (Nat.le_refl _) lr0 rfl (λ q hq=>ω) (λ q hq=>ω) ?_;intro v' K7 ids' p1 p2 p3;have p2':=(g6.mono ζ).trans p2;have⟨R,g8⟩:=a6 K7 v' ids' (LP au S.a_ q j k f0++[q]) p2' (by rw[HV];simpa using p1) (λ y G=>(p3 y G).imp id λ w=>aY g6.ab w);have hZ8:∀y∈aL++[H.ab],(c2 y).1≠7:=λ y G=>by
    rcases b_.1 G with w|w
    .rw[a5 y w];simp
    .have:y=H.ab:=by simpa using w
     rw[this,z.eV.cm];simp
   have nYi:∀{y:Nat},(c2 y).1=5\/(c2 y).1=6\/(c2 y).1=1->y∉aL:=λ h B=>by have:=a5 _ B;rw[this]at h;simp at h
   have ob7:=z.ob.W p2' (nYi (.inl (by rw[z.cc])));have lq7:=lp5q.W p2' (nYi (.inr (.inl (by rw[z.c5]))));have VJ:=a1.W p2' (nYi (.inr (.inr (by rw[z.eV.cm]))));simp;try (refine dF (by simp[dA,dm,val,f,lq7.get,ep5,ob7.get,z.t2]) ?_)
   try simp[f,lq7.get,ep5,ob7.get,VJ.get]
   generalize hK8:D.put K7 _ _=K8 at R g8⊢;clear hK8;have nZ8:∀{y:Nat},c2 y=(7,0)->y∉aL++[H.ab]:=λ h B=>hZ8 _ B (by rw[h]);have VK:=l75.W g8 (nZ8 hc75);have lp8:=lp5.W g8 (nZ8 hcp5);have hl8:=hl5.W g8 λ y G=>nZ8 (hcY5 y G);have c8p:(if pid<s.ab then c2 pid else(3,f0))=(7,0):=(aq lp5.lt).trans hcp5;have c87:(if K.ab<s.ab then c2 K.ab else(3,f0))=(7,0):=(aq l75.lt).trans hc75;have c8Y:∀y∈Yl,(if y<s.ab then c2 y else(3,f0))=(7,0):=λ y G=>(aq (hl5.lt y G)).trans (hcY5 y G);rw[crI_suc (by rw[hF];exact eO) (by simpa[hF]using hf0)]at R;have⟨tp8,lq8,ep8⟩:=R.C2;have⟨tg,u_g,Y_g,b1,b2,b4,b5,b6⟩:=R.ahd Mv;have rP:=grI_le (k:=k) (λ q hq=>(N.Gv q hq).1) (by rw[hF];exact kH) (show j<1024 by omega) q.1;simp[-cX,R.t3,f,q7,lq8.get,ep8,R.ob.get,VK.get,h70,b1.get,b2,Mv];refine vL (c:=ae (f0:Nat)) bK qF b4 rfl (by rw[bW];omega) (by rw[bW];omega) ?_;intro v2 K9 wP r1 r2 r3;have hfk:(aZ (LF au S.a_ q j k q.1)++[ae (f0:Nat)])=aZ (LF au S.a_ q j k q.1++[(au q)[k]'(by rw[hF];exact eO)]):=by simp[hF,hf0]
   rw[hfk]at r1;have⟨X9,g9⟩:=b6 K9 v2 wP _ r2 r1 r3;rw[grI_suc (by rw[hF];exact eO)]at X9;have nYg:∀{y:Nat} {kq9:Nat×Nat},(if y<s.ab then c2 y else(3,f0))=kq9->kq9.1=5\/kq9.1=6\/kq9.1=2\/kq9.1=7->y∉Y_g:=λ h h5 B=>by have h9:=b5 _ B;rw[h]at h9;rw[h9]at h5;simp at h5
   have ob9:=R.ob.W r2 (nYg R.cc (.inl rfl));have lq9:=lq8.W r2 (nYg R.c5 (.inr (.inl rfl)));have lg9:=b1.W r2 (nYg R.eV.cg (.inr (.inr (.inl rfl))));have l79:=VK.W r2 (nYg c87 (.inr (.inr (.inr rfl))));simp;try (refine dF (by simp[dA,dm,val,f,lq9.get,ep8,ob9.get,R.t3,l79.get,h70]) ?_)
   try simp[q42,lg9.get,Mv,dz Mv,r1.cell,r1.co,bq U7]
   have nZ9:∀{y:Nat},(if y<s.ab then c2 y else(3,f0))=(7,0)->y∉Y_g++[H.ab+1]:=λ {y} h B=>by
    rcases b_.1 B with w|w
    .exact nYg h (.inr (.inr (.inr rfl))) w
    .have e9:=R.eV.cg;have:y=H.ab+1:=by simpa using w
     rw[<-this,h]at e9;cases e9
   exact eJ ω ⟨⟨_,X9,(aq lp8.lt).trans c8p,(aq VK.lt).trans c87,λ y G=>(aq (hl8.lt y G)).trans (c8Y y G)⟩,lp8.W g9 (nZ9 c8p),VK.W g9 (nZ9 c87),hl8.W g9 λ y G=>nZ9 (c8Y y G),by simp[q0,q1,f,q32,q33,q34,q7,q40,mO,q41];omega⟩
  .obtain rfl:k=l.length:=ω
   subst dO;rw[<-hF,crI_end bB hq,grI_end bB hq]at z;simp[q34,q41,q42,bq ix];exact ih ω ⟨⟨c2,z,hcp5,lp5.lt⟩,lp5,by simp[q0,q1,f,q32,q33];omega⟩
 .obtain rfl:j=S.a_.length:=ω
  subst cq;have⟨tp,lq,ep⟩:=r.C2;simp[s5,Br,w8,lq.get,ep,r.ob.get,r.t3,de yO];generalize hG:E3 au S.a_ S.a_.length=dW at r;have LG:∀i,(dW i).length<=1099511627776:=λ i=>by
   rw[<-hG];have O:=yq (g:=λ q:Pt=>if q.1=i then au q else[]) (aG:=4194304) S.a_ λ x Z=>by
    split
    .exact(N.Gv x Z).1
    .exact dQ _
   have F:=nW 4194304 aIo;unfold E3;rw[iF];exact aY (aY O F) η
  generalize hC:LM au S.a_ S.a_.length=C at r;refine CA (λ k sl K2=>(∃c,fr H S.p.length (H.ab+1+1) (H.ab+1+1+1) H.ab (H.ab+1) K2 c C (λ i=>if i<k then AG (lK (dW i))else dW i) t)/\AV sl 0 (.ptr mid 0)/\AV sl 5 (.ptr (H.ab+1+1+1) 0)/\AV sl 84 (ae (S.p.length:Nat))/\AV sl 85 (ae (k:Nat))/\k<=S.p.length) S.p.length ⟨⟨c,by simpa using r⟩,by simp[s0,s5]⟩ ?_
  rintro b3 k3-jU k Hn K2 ⟨⟨c3,d⟩,q0,f,q84,q85,Q⟩ jg;by_cases eO:k<S.p.length
  .have U7:k<maxLen:=by unfold maxLen;omega
   have⟨tp3,W1,VM⟩:=d.C2;have⟨tg,u,aL,b1,b2,b4,b5,b6⟩:=d.ahd eO;rw[ao (Tb k)]at b4;have nY:∀{y:Nat},(c3 y).1=5\/(c3 y).1=6\/(c3 y).1=2->y∉aL:=λ h B=>by have:=b5 _ B;rw[this]at h;simp at h
   simp[f,q84,q85,eO,W1.get,VM,d.ob.get,d.t3,b1.get,b2];refine CW (XQ aau b4 (by have:=LG k;omega)) ?_;rintro _ K3 ⟨rfl,O,g1⟩;have ob1:=d.ob.W g1 (nY (.inl (by rw[d.cc])));have lq1:=W1.W g1 (nY (.inr (.inl (by rw[d.c5]))));have lg1:=b1.W g1 (nY (.inr (.inr (by rw[d.eV.cg]))));simp[f,lq1.get,VM,ob1.get,d.t3,lg1.get,b2,eO];refine CW (Zz O) ?_;rintro v4 K4 ⟨U,g2⟩;have ob2:=ob1.W g2 (nY (.inl (by rw[d.cc])));have lq2:=lq1.W g2 (nY (.inr (.inl (by rw[d.c5]))));have lg2:=lg1.W g2 (nY (.inr (.inr (by rw[d.eV.cg]))));have⟨G7,g4⟩:=b6 K4 v4 aL _ (g1.trans g2) U (λ y G=>.inl G);have hG':aM (λ i=>if i<k then AG (lK (dW i))else dW i) k (AG (lK (dW k)))=λ i=>if i<k+1 then AG (lK (dW i))else dW i:=by
    funext i;unfold aM;by_cases e:i=k
    .subst e;rw[aq rfl,aq ω]
    .rw[ao e];have:(i<k+1)↔i<k:=ω
     simp only[this]
   rw[hG']at G7;simp;try (refine dF (by simp[dA,dm,val,f,lq2.get,VM,ob2.get,d.t3]) ?_)
   try simp[q85,lg2.get,eO,dz eO,U.cell,U.co,bq U7]
   exact jg ω ⟨⟨_,G7⟩,by simp[q0,f,q84];omega⟩
  .obtain rfl:k=S.p.length:=ω
   subst jU;have⟨tp3,W1,VM⟩:=d.C2;simp[f,q84,q85,W1.get,VM,d.ob.get,d.t3];refine CW (E9 (g:=(List.range S.p.length).map λ i=>AG (lK (dW i))) (d.eV.gi (by unfold maxLen;omega) ζ (λ i A=>by have dJ:i<S.p.length:=(by simpa using A);simp[dJ])) ξ (λ l hl=>?_)) ?_
   .obtain⟨i,-,rfl⟩:=jn.1 hl;exact aY ZG (by rw[M5];exact LG i)
   rintro cv K3 ⟨⟨Y_v,hv,hYv⟩,g3⟩;have G7:=(d.RF (c':=λ y=>if y<K2.ab then c3 y else(8,1)) λ y G=>aq G).ai g3;have hcd:H.ab+1+1<K2.ab:=d.ob.lt;have lq4:=W1.ai g3;simp;refine dF (by simp[dA,dm,val,f,lq4.get,VM]) ?_;have hcg:(λ i=>if i<S.p.length then AG (lK (dW i))else dW i)=hx au S.a_ S.p.length:=by rw[<-hG];rfl
   rw[hcg,<-hC]at G7;have⟨z,g5⟩:=G7.eA (t':=t.put 4 (some cv)) ζ ζ;have eN:((List.range S.p.length).map λ i=>AG (lK (dW i)))=(List.range S.p.length).map (hx au S.a_ S.p.length):=SZ λ i A=>by unfold hx;rw[if_pos (List.mem_range.1 A),hG]
   rw[eN]at hv;have hv5:=hv.W g5 λ y G B=>by
    have O:y=H.ab+1+1:=by simpa using B
    have:=hYv y G;omega
   refine M_hide0 λ ay hT=>?_;have hr:∀sl:CX,AV sl 0 (.ptr mid 0)->AV sl 5 (.ptr (H.ab+1+1+1) 0)->aD E0 [.code ay] ⟨sl,172,[],none,36⟩ (K3.put (H.ab+1+1) (some (.cells 7 (t.put 4 (some cv)) false))) (qb E0 [ResultVar.tmp 4] Q'):=by subst hT;exactλ sl h0 h5=>zQ Q' hQ _ rfl sl _ _ _ z (by simp[e01]) (by simp[e5]) (by simp[e6]) ⟨cv,Y_v,ζ,hv5,λ y G=>ao (by have:=hYv y G;omega)⟩ h0 h5
   clear zQ hT;simp[G7.ob.get,hv.cell,hv.co];exact hr _ (by simp[q0]) (by simp[f])
def mo(lo:Nat)(c:Nat->Nat×Nat)(K:D)(t:CX)(n:Nat):Prop:=∃rv Yr us,AV t 5 rv/\aX K 1 rv us Yr/\(∀y∈Yr,c y=(8,0)/\lo<=y)/\us.length=n/\∀i (A:i<us.length),∃(l:List Bool) (aL:AT),aX K 1 us[i] (l.map λ b=>bl b) aL/\∀y∈aL,c y=(9,0)
section
variable{H K T:D}{lo n dH p5 m g:Nat}{c c':Nat->Nat×Nat}{c7:Nat->List Pt}{gA:Nat->BW}{t:CX}
theorem mo.W(h:mo lo c K t n){cL:AT}(dW:I cL K T)(r:∀y∈cL,(c y).1≠8/\(c y).1≠9):mo lo c T t n:=by have⟨rv,Yr,us,a,b,d,e,f⟩:=h;refine⟨rv,Yr,us,a,b.W dW λ y G B=>(r y B).1 (by rw[(d y G).1]),d,e,λ i A=>?_⟩;have⟨l,aL,p,q⟩:=f i A;exact⟨l,aL,p.W dW λ y G B=>(r y B).2 (by rw[q y G]),q⟩
theorem mo.RF(h:mo lo c K t n)(r:∀y,y<K.ab->c' y=c y):mo lo c' K t n:=by have⟨rv,Yr,us,a,b,d,e,f⟩:=h;refine⟨rv,Yr,us,a,b,λ y G=>⟨(r y (b.lt y G)).trans (d y G).1,(d y G).2⟩,e,λ i A=>?_⟩;have⟨l,aL,p,q⟩:=f i A;exact⟨l,aL,p,λ y G=>(r y (p.lt y G)).trans (q y G)⟩
theorem aX.bools{u:J}(h:aX K 1 u (bs.map λ b=>bl b) l):aW K 1 (One λ b=>bl b) u bs:=h.yN ω ζ λ i A=>by simp[One,A,List.take_one]
theorem goes_c(z:fr H n dH p5 m g K c c7 gA t)(M:mo lo c K t n){q:Pt}(hq:q.1<n):CN 105 [.ptr dH 0,ptV q] K λ v T=>(∃b,v=bl b)/\I [] K T:=by
 refine ba o105 rfl λ Q' A=>?_;have U:¬dH=K.ab:=bC z.ob.lt;have⟨rv,Yr,us,a,b,d,e,f⟩:=M;have h:q.1<us.length:=ω
 obtain⟨id,ax,ex,Z,rfl,rfl,lr,J,aU,he,B⟩:=b.uC ω;have⟨bs,aL,p,hY⟩:=f q.1 h;have r:=J q.1 h;rw[bf h]at r;have R:¬id=K.ab:=bC lr.lt;have s:q.1<ax:=ω
 simp[z.ob.get,U,a,R,lr.get,h,r,s];have W:=p.bools.aN alr;by_cases w:q.2.1<bs.length
 .have⟨D,lU,rN,kY,n2,t2,qW,c2,O,C,N,G,y⟩:=p.bools.gL w;have F:c2=bl bs[q.2.1]:=by have:[c2]=[bl bs[q.2.1]]:=y;simpa using this
  subst F;have Q:¬D=K.ab:=bC C.lt;simp[O,w,C.get,Q,N,G,de alr];exact A ⟨⟨_,rfl⟩,(I.refl _ _).add _⟩
 .simp[W,w];exact A ⟨⟨_,rfl⟩,(I.refl _ _).add _⟩
theorem once_c(hn:n<=1048576)(hC:∀f,f<n->∀q∈c7 f,q.1<n):∀(s:Nat),s<=1048576->∀{K:D} (f:Nat),f<n->fr H n dH p5 m g K c c7 gA t->mo lo c K t n->Lv K j (.cells 1 Bx false)->Bx.get 0=some (ae st)->Lv K k (.cells 1 t15 false)->AV t15 0 (.fn (.func 104) [] [.ptr p5 0,.ptr j 0,.ptr k 0])->CN 104 [ae (f:Nat),ae (s:Nat),.ptr p5 0,.ptr j 0,.ptr k 0] K λ v T=>(∃b,v=bl b)/\I [] K T:=by
 intro s
 induction s using Nat.strongRecOn with
 |_ s ih=>
  intro hs K f hf w hR d h F C
  refine ba o104 rfl λ Q' B=>?_
  have⟨tp,Z,ep⟩:=w.C2
  obtain⟨mc,ml,u,aL,a1,a2,a3,a4,a5,-⟩:=w.eV.cput hf hn
  have R:aW K 3 XX u (c7 f):=a4.yN ω (IF (c:=yI) (es:=3) λ _=>rfl) λ i A=>Lo (c:=yI) (es:=3) (λ _=>rfl) A
  have J:=R.aN XD
  simp[Z.get,ep,w.ob.get,w.t2,a1.get]
  refine Fi (v:=u) (T:=K) (by rw[<-a3];exact Wn) ?_
  by_cases e:(f:Int)=st
  .simp[d.get,h,e,J]
   exact B ⟨⟨_,rfl⟩,I.refl _ _⟩
  by_cases h0:0<s
  .obtain⟨s',rfl⟩:∃s',s=s'+1:=⟨s-1,ω⟩
   by_cases O:(c7 f).length=1
   .obtain⟨id,ah,ax,ex,U,Q,ro,M,rfl,hl,aU,bU,oZ⟩:=R.at_ (i:=0) ω;have gR:M=yI ((c7 f)[0]' ω):=oZ
    subst gR;have N:=hC f hf _ (cG (show 0<(c7 f).length by omega));generalize(c7 f)[0]' ω=q at bU N
    have z:bc Q ah 3=some [ae (q.1:Nat),ae (q.2.1:Nat),ae (q.2.2:Nat)]:=by simpa using bU
    have Mi:ah+3<=U:=ω
    simp[d.get,h,e,de XD,O,hl.get,Mi,bY z,Z.get,ep];refine CW (goes_c w hR N) ?_;rintro _ K1 ⟨⟨bg,rfl⟩,r⟩;have y:Q.get ah=some (ae (q.1:Nat)):=by have:=(iB.1 z).2 0 ω;simpa using this
    have A1:ah<U:=ω
    cases bg with
    |true=>
     simp
     exact B ⟨⟨_,rfl⟩,r⟩
    |false=>
     have p:=F.ai r
     have cT:=hl.ai r
     have hw:IntKind.wrap .i64 (s':Int)=(s':Int):=fQ ω ω
     simp[p.get,C,cT.get,y,A1,hw]
     refine CW (ih s' ω ω q.1 N (w.ai r) (hR.W r ζ) (d.ai r) h p C) ?_
     rintro _ K2 ⟨⟨b_o,rfl⟩,g2⟩
     simp
     try (refine dF (by simp[dA,dm,val]) ?_)
     try simp
     exact B ⟨⟨_,rfl⟩,r.trans g2⟩
   .have G:¬(((c7 f).length:Nat):Int)=1:=ω
    simp[d.get,h,e,J,G];exact B ⟨⟨_,rfl⟩,I.refl _ _⟩
  .simp[d.get,h,e,J,h0]
   exact B ⟨⟨_,rfl⟩,I.refl _ _⟩
theorem mo.push(Q:lo<=K.ab)(h:mo lo c K t j){u:J}(hu:aX K 1 u (bs.map λ b=>bl b) Y_u)(M:∀y∈Y_u,c y=(9,0)):∃rv Yr us,AV t 5 rv/\aX K 1 rv us Yr/\us.length=j/\(∀y∈Yr,c y=(8,0)/\lo<=y)/\∀r v' ids' (t':CX),I Yr K r->aX r 1 v' (us++[u]) ids'->(∀y∈ids',y∈Yr\/K.ab<=y)->t'.get 5=some v'->mo lo (λ y=>if y<K.ab then c y else(8,0)) r t' (j+1):=by
 have⟨rv,Yr,us,a,b,d,e,f⟩:=h
 refine⟨rv,Yr,us,a,b,e,d,λ r v' ids' t' dW D C z=>⟨v',ids',_,z,D,λ y G=>?_,by simp[e],λ i A=>?_⟩⟩
 .dsimp only
  rcases C y G with w|w
  .rw[aq (b.lt y w)];exact d y w
  .rw[ao ω];exact⟨rfl,ω⟩
 .have key:∀{v:J} {l:List Bool} {aL:AT},aX K 1 v (l.map λ b=>bl b) aL->(∀y∈aL,c y=(9,0))->∃(l:List Bool) (aL:AT),aX r 1 v (l.map λ b=>bl b) aL/\∀y∈aL,(if y<K.ab then c y else(8,0))=(9,0):=λ {v l aL} O U=>⟨l,aL,O.W dW (λ y G B=>by have F:=(d y B).1;rw[U y G]at F;cases F),λ y G=>(aq (O.lt y G)).trans (U y G)⟩
  by_cases s:i<us.length
  .rw[HW s];have⟨l,aL,p,q⟩:=f i s;exact key p q
  .have N:i=us.length:=by rw[iP]at A;simp at A;omega
   subst N;rw[afb (Nat.le_refl _)];simp only[YU,afd];exact key hu M
end
structure oI(H:D)(mid a n dH:Nat)(K:D)(dW:Nat->List Int):Prop where
 ex:∃p5 m g c t C,fr H n dH p5 m g K c C dW t/\AV t 0 (.ptr mid 0)/\AV t 1 (.ptr a 0)
theorem oI.ai{H K T:D}{mid a n dH:Nat}{dW:Nat->BW}(h:oI H mid a n dH K dW)(g:I [] K T):oI H mid a n dH T dW:=by have⟨p5,m,d,c,t,C,O,U⟩:=h.ex;exact⟨p5,m,d,c,t,C,O.ai g,U⟩
theorem MZ(hW:CalW H mid a S au):CN 36 [.ptr mid 0,.ptr a 0] H λ v K=>∃dH,v=.ptr dH 0/\oI H mid a S.p.length dH K (hx au S.a_ S.p.length):=by
 refine calls_a hW λ Q' hQ cd hcd sl K c t hS e01 e5 e6 _ s0 s5=>?_;cases(show some _=some cd from hcd);clear hcd;have C':=hW.n0;have rQ:=hW.n1;simp[s0];refine CW (smProg (hW.mp.W hS.base) hW.ok hW.n1 (λ e=>by rw[e]at C';simp at C')) ?_;rintro _ K6 ⟨vf,rfl,qy,g6⟩;have hS6:=hS.ai g6;have mC:=(qy K6 (I.refl _ _)).aN nf;simp[mC];have hR0:mo K6.ab c K6 t 0:=⟨_,[],[],e5,.nil,ζ,rfl,λ i A=>by simp at A⟩;have hCq:∀f,f<S.p.length->∀q∈LM au S.a_ S.a_.length f,q.1<S.p.length:=λ f _ q hq=>by unfold LM at hq;rw[iF]at hq;have⟨q',O,U⟩:=List.mem_flatMap.1 hq;obtain⟨x,-,rfl⟩:=jn.1 U;exact hW.ptF _ O
 generalize LM au S.a_ S.a_.length=C at hS6 hQ hCq;generalize hx au S.a_ S.p.length=dW at hS6 hQ;refine CA (λ j sl r=>(∃c t,fr H S.p.length (H.ab+1+1) (H.ab+1+1+1) H.ab (H.ab+1) r c C dW t/\mo K6.ab c r t j/\(AV t 0 (.ptr mid 0)/\AV t 1 (.ptr a 0))/\AV t 6 Dp)/\I (List.range K.ab) K6 r/\AV sl 0 (.ptr mid 0)/\AV sl 5 (.ptr (H.ab+1+1+1) 0)/\AV sl 121 vf/\AV sl 122 (ae (S.p.length:Nat))/\AV sl 123 (ae (j:Nat))/\j<=S.p.length) S.p.length ⟨⟨c,t,hS6,hR0,e01,e6⟩,I.refl _ _,by simp[s0,s5]⟩ ?_
 rintro b1 k1-cq j sl r ⟨⟨c1,t1,z,hR7,e01,e61⟩,gK,s0,s5,s121,R,N,hj⟩ ih;by_cases bB:j<S.p.length
 .have ix:j<maxLen:=by unfold maxLen;omega
  have⟨id,ah,ax,ex,n,tr,ro,M,hv,hl,aU,bU,hFR⟩:=(qy r gK).at_ bB;have hfok:=hW.ok _ (cG bB);obtain⟨vp,vb,rfl,cr,Jp⟩:=hFR;have⟨tp7,lq7,ep7⟩:=z.C2;have e1:¬H.ab+1+1+1=r.ab:=bC lq7.lt;have e2:¬H.ab+1+1=r.ab:=bC z.ob.lt;have QH:=hR7;obtain⟨rv,Yr,us,h5,-⟩:=QH;simp[s5,e1,e2,lq7.get,ep7,z.ob.get,h5,s121,R,N,bB,hv,hl.get,aU,bY bU,cr.cell,Jp.cell];generalize hK8:D.put (D.add r _) _ _=d;have g8:I [] r d:=by rw[<-hK8];exact ke ((I.refl _ _).add _) ((I.refl _ _).put (.inr ζ)) (X:=[r.ab]) ζ
  clear hK8;have hn8:=g8.ab;have hn67:=gK.ab;have X8:=z.RF (c':=λ y=>if y<r.ab then c1 y else(9,0)) λ y G=>aq G;have hRr:=hR7.RF (c':=λ y=>if y<r.ab then c1 y else(9,0)) λ y G=>aq G;have s:∀y,r.ab<=y->(λ y=>if y<r.ab then c1 y else((9:Nat),(0:Nat))) y=(9,0):=λ y G=>ao ω;generalize(λ y=>if y<r.ab then c1 y else((9:Nat),(0:Nat)))=c2 at X8 hRr s;have B1:=X8.ai g8;have hR8:=hRr.W g8 ζ;have⟨tp8,lq8,ep8⟩:=B1.C2;refine CW (W2 (HB:=d) (fn:=S.p[j]) ⟨vp,vb,rfl,cr.W g8 (λ _ _ _ h=>h),Jp.W g8 λ _ _ _ h=>h.W g8⟩ (I.refl _ _) hfok) ?_;rintro u K9 ⟨⟨Y_u,hu,hYu⟩,g9⟩;have X9:=B1.ai g9;have hR9:=hR8.W g9 ζ;have lq9:=lq8.ai g9;have hcu:∀y∈Y_u,c2 y=(9,0):=λ y G=>s y (by have:=hYu y G;omega);have hn9:=g9.ab;have⟨rv2,Yr2,us2,h52,ho,MK,hYr,hpush⟩:=hR9.push (lo:=K6.ab) ω hu hcu;obtain rfl:rv=rv2:=FX (Eq.trans (Ou h5) h52);have h59:us2.length<=64:=ω
  simp;refine dF (by simp[dA,dm,val,s5,lq9.get,ep8,X9.ob.get,h5,ho.fy]) ?_;simp[-cX,hu.cell,hu.co];refine vL (c:=u) tt141 alr ho hu.cell ω ω ?_;intro v2 qf wP p1 p2 p3;have hS9r:=X9.RF (c':=λ y=>if y<K9.ab then c2 y else(8,0)) λ y G=>aq G;have Z4:=hS9r.W p2 λ y G=>by rw[aq (ho.lt y G),(hYr y G).1];decide
  have atO:=hpush qf v2 wP (t1.put 5 (some v2)) p2 p1 p3 ζ;have⟨tpA,lqA,epA⟩:=Z4.C2;have⟨hS11,Ry⟩:=Z4.eA (t':=t1.put 5 (some v2)) ζ ζ;have hR11:=atO.W Ry λ y G=>by
   have:y=H.ab+1+1:=by simpa using G
   rw[this,Z4.cc];simp
  have gA:I Yr2 r qf:=((g8.trans g9).mono ζ).trans p2;have gB:I (List.range K.ab) K6 qf:=⟨aY gK.ab gA.ab,λ i A B=>(gA.get i ω λ G=>by have:=(hYr i G).2;omega).trans (gK.get i A B)⟩;have g_C:=gB.trans (Ry.mono λ y G=>by have:y=H.ab+1+1:=(by simpa using G);rw[this];exact mj.2 hS.ob.lt);simp[p1.cell,p1.co];try (refine dF (by simp[dA,dm,val,s5,lqA.get,epA]) ?_)
  simp[N,Z4.ob.get,p1.cell,p1.co,bq ix];exact ih ω ⟨⟨_,_,hS11,hR11,by simp[e01],by simp[e61]⟩,g_C,by simp[s0,s5,s121,R];omega⟩
 .obtain rfl:j=S.p.length:=ω
  subst cq;simp[s0,R,N];refine CW (adX (hW.mp.W z.base) _) ?_;rintro _ d ⟨⟨b_m,rfl⟩,g8⟩;generalize S.gP _=st;have B1:=z.ai g8;have⟨tp8,lq8,ep8⟩:=B1.C2;have e1:¬H.ab+1+1+1=d.ab:=bC lq8.lt;have e2:¬H.ab+1+1=d.ab:=bC B1.ob.lt;have e3:¬H.ab+1=d.ab:=λ h=>by have:=B1.ob.lt;omega
  simp[s5,lq8.get,ep8,B1.ob.get,B1.t3,e1,e2,e3,de yO];generalize LI:D.put _ _ _=K9;have g9:I [] d K9:=by rw[<-LI];exact ke (ke ((I.refl _ _).add _) ((I.refl _ _).put (.inr ζ)) (X:=[d.ab]) ζ|>.add _) ((I.refl _ _).put (.inr ζ)) (X:=[d.ab+1]) ζ
  have lX:∃t,Lv K9 d.ab (.cells 1 t false)/\AV t 0 (ae st):=by rw[<-LI];exact⟨_,⟨by simp[D.add]<;>omega,by simp[D.eR,D.jK]<;>rfl⟩,ζ⟩
  have l_Z:∃t,Lv K9 (d.ab+1) (.cells 1 t false)/\AV t 0 (.fn (.func 104) [] [.ptr (H.ab+1+1+1) 0,.ptr d.ab 0,.ptr (d.ab+1) 0]):=by rw[<-LI];exact⟨_,⟨by simp[D.add]<;>omega,by simp[D.eR]<;>rfl⟩,ζ⟩
  have n9:K9.ab=d.ab+2:=by rw[<-LI];rfl
  clear LI;have⟨tX,lX,e_X⟩:=lX;have⟨t_Z,l_Z,e_Z⟩:=l_Z;have X8:=B1.RF (c':=λ y=>if y<d.ab then c1 y else(7,0)) λ y G=>aq G;have hRr:=(hR7.W g8 ζ).RF (c':=λ y=>if y<d.ab then c1 y else(7,0)) λ y G=>aq G;have s:∀y,d.ab<=y->(λ y=>if y<d.ab then c1 y else((7:Nat),(0:Nat))) y=(7,0):=λ y G=>ao ω;generalize(λ y=>if y<d.ab then c1 y else((7:Nat),(0:Nat)))=c2 at X8 hRr s;have x1:=s d.ab (Nat.le_refl _);have x2:=s (d.ab+1) ω;clear s;refine CA (λ k sl K=>(∃c t ov Y_o ob,fr H S.p.length (H.ab+1+1) (H.ab+1+1+1) H.ab (H.ab+1) K c C dW t/\mo K6.ab c K t S.p.length/\(AV t 0 (.ptr mid 0)/\AV t 1 (.ptr a 0))/\AV t 6 ov/\ob.length=k/\aX K 1 ov ob Y_o/\(∀y∈Y_o,c y=(10,0))/\c d.ab=(7,0)/\c (d.ab+1)=(7,0))/\Lv K d.ab (.cells 1 tX false)/\Lv K (d.ab+1) (.cells 1 t_Z false)/\AV sl 5 (.ptr (H.ab+1+1+1) 0)/\AV sl 15 (.ptr (d.ab+1) 0)/\AV sl 149 (ae (S.p.length:Nat))/\AV sl 150 (ae (k:Nat))/\k<=S.p.length) S.p.length ⟨⟨c2,t1,Dp,[],[],X8.ai g9,hRr.W g9 ζ,e01,e61,rfl,.nil,ζ,x1,x2⟩,lX,l_Z,by simp[s5]⟩ ?_
  rintro b2 k2-dO k Hn K ⟨⟨c3,t3,ov,Y_o,ob,J,f_,e03,e63,jB,ho,hYo,y1,y2⟩,lX3,lZ3,q5,VF,q149,Z,Q⟩ eJ;have⟨tp3,W1,VM⟩:=J.C2;by_cases eO:k<S.p.length
  .have U7:k<maxLen:=by unfold maxLen;omega
   simp[q5,VF,q149,Z,eO,W1.get,VM,J.ob.get,e63,lZ3.get,e_Z,J.t3,de yO];refine CW (once_c ω hCq S.p.length ω k eO J f_ lX3 e_X lZ3 e_Z) ?_;rintro _ K4 ⟨⟨bk,rfl⟩,g4⟩;have G7:=J.ai g4;have lq4:=W1.ai g4;have ho4:=ho.W g4 ζ;simp;refine dF (by simp[dA,dm,val,q5,lq4.get,VM,G7.ob.get,e63,ho.fy]) ?_;simp[-cX];generalize qK:D.add K4 _=K5;have g5:I [] K4 K5:=by rw[<-qK];exact(I.refl _ _).add _
   have lr:∃tr,Lv K5 K4.ab (.cells 1 tr false)/\bc tr 0 (1*1)=some [bl bk]:=by rw[<-qK];exact⟨_,Lv.new,by simp[bc]⟩
   clear qK;have⟨tr,lr,lr0⟩:=lr;refine Fh (n:=1) alr tt4 ω (ho4.W g5 ζ) lr.get (Nat.le_refl _) lr0 rfl (λ q hq=>ω) (λ q hq=>ω) ?_;intro v2 K7' wP p1 p2 p3;have hn5:=g5.ab;have p2':I Y_o K4 K7':=(g5.mono ζ).trans p2;have Qh:∀y,y<K4.ab->(if y<K4.ab then c3 y else((10:Nat),(0:Nat)))=c3 y:=λ y G=>aq G;have Yp:=(G7.RF Qh).W p2' λ y G=>by rw[aq (ho4.lt y G),hYo y G];decide
   have hR7':=((f_.W g4 ζ).RF Qh).W p2' λ y G=>by rw[aq (ho4.lt y G),hYo y G];simp
   have⟨tp7,lq7,ep7⟩:=Yp.C2;have⟨X9,g9'⟩:=Yp.eA (t':=t3.put 6 (some v2)) ζ ζ;have hcid:∀y∈[H.ab+1+1],(if y<K4.ab then c3 y else((10:Nat),(0:Nat)))=(5,0):=λ y G=>by
    have:y=H.ab+1+1:=by simpa using G
    rw[this];exact Yp.cc
   have hR9:=hR7'.W g9' λ y G=>by rw[hcid y G];simp
   have hR9':mo K6.ab (λ y=>if y<K4.ab then c3 y else((10:Nat),(0:Nat))) (K7'.put (H.ab+1+1) (some (.cells 7 (t3.put 6 (some v2)) false))) (t3.put 6 (some v2)) S.p.length:=by have⟨rv,Yr,us,r1,r2⟩:=hR9;exact⟨rv,Yr,us,by simpa using r1,r2⟩
   have nX:∀{y:Nat},c3 y=(7,0)->y<K4.ab->y∉Y_o/\y∉[H.ab+1+1]:=λ O U=>⟨(λ B=>by have F:=hYo _ B;rw[O]at F;cases F),(λ B=>by have F:=hcid _ B;rw[aq U,O]at F;cases F)⟩;have lX4:=lX3.ai g4;have lZ4:=lZ3.ai g4;have lX9:=(lX4.W p2' (nX y1 lX4.lt).1).W g9' (nX y1 lX4.lt).2;have lZ9:=(lZ4.W p2' (nX y2 lZ4.lt).1).W g9' (nX y2 lZ4.lt).2;have kI:∀y∈wP,(if y<K4.ab then c3 y else((10:Nat),(0:Nat)))=(10,0):=λ y G=>by
    rcases p3 y G with w|w
    .rw[aq (ho4.lt y w)];exact hYo y w
    .exact ao ω
   have ho9:aX (K7'.put (H.ab+1+1) (some (.cells 7 (t3.put 6 (some v2)) false))) 1 v2 (ob++[bl bk]) wP:=by refine aX.W p1 g9' λ y G B=>?_;have F:=kI y G;rw[hcid y B]at F;cases F
   simp[p1.cell,p1.co];try (refine dF (by simp[dA,dm,val,q5,lq7.get,ep7]) ?_)
   simp[Z,Yp.ob.get,p1.cell,p1.co,bq U7];exact eJ ω ⟨⟨_,_,v2,wP,_,X9,hR9',by simp[e03],ζ,by simp[jB],ho9,kI,(aq lX4.lt).trans y1,(aq lZ4.lt).trans y2⟩,lX9,lZ9,by simp[q5,VF,q149];omega⟩
  .obtain rfl:k=S.p.length:=ω
   subst dO;simp[q5,q149,Z,W1.get,VM];exact hQ ⟨_,rfl,⟨_,_,_,_,_,_,J,e03⟩⟩
theorem kgT:(fq 43,())=(some Tryz.f43,()):=κ
def o43:=fe (jd kgT)
section
variable{H K:D}{n dH p5 m g:Nat}{c:Nat->Nat×Nat}{c7:Nat->List Pt}{gA:Nat->BW}{t:CX}
theorem graph_c(Q:fr H n dH p5 m g K c c7 gA t)(hn:n<=64)(hl:∀i,(gA i).length<=1099511627776):CN 43 [.ptr dH 0] K λ v T=>GI K.ab T v ((List.range n).map gA)/\I [] K T:=by
 refine ba o43 rfl λ Q' hQ=>?_;have⟨tg,lg,kj⟩:=Q.eV.gp;simp[Q.ob.get,Q.t3,de yO];refine CA (λ j sl D=>I [] K D/\(∃ov us aL,AV sl 3 ov/\aX D 1 ov us aL/\(∀y∈aL,K.ab<=y)/\us.length=j/\∀i (A:i<us.length),∃Yi,aX D 1 us[i] (aZ (gA i)) Yi/\∀y∈Yi,y∉aL/\K.ab<=y)/\AV sl 11 (.sl g 0 1 n n true)/\AV sl 12 (ae (n:Nat))/\AV sl 13 (ae (j:Nat))/\j<=n) n ⟨I.refl _ _,⟨_,[],[],ζ,.nil,ζ,rfl,λ i A=>by simp at A⟩,ζ⟩ ?_
 rintro b1 k1-cq j sl D ⟨h,⟨ov,us,aL,s3,p,N,C,hr⟩,jR,R,U,hj⟩ ih;by_cases bB:j<n
 .have ix:j<maxLen:=by unfold maxLen;omega
  obtain⟨u,Y_u,hu,M,-⟩:=kj j bB;have F:=lg.ai h;simp[s3,jR,R,U,bB,F.get,hu];refine CW (aoC (M.W h ζ).aZ (hl j)) ?_;rintro v1 K2 ⟨r,aH,O,f1⟩;simp[-cX,O.cell,O.co];have mV:=p.W r ζ;refine vL (c:=v1) yO bK mV O.cell ω ω ?_;intro v2 K3 Z p1 p2 p3;have iW:=r.ab;have sD:=p.lt;simp[U,bq ix];refine ih ω ⟨ke (h.trans r) p2 N,⟨v2,_,Z,ζ,p1,λ y G=>?_,by simp[C],λ i A=>?_⟩,by simp[jR,R];omega⟩
  .rcases p3 y G with w|w
   .exact N y w
   .have:=h.ab;omega
  .have key:∀{w:J} {l:BW} {Yi:AT},aX K2 1 w (aZ l) Yi->(∀y∈Yi,y∉aL/\K.ab<=y)->∃Yi,aX K3 1 w (aZ l) Yi/\∀y∈Yi,y∉Z/\K.ab<=y:=λ {w l Yi} f d=>
    ⟨Yi,f.W p2 λ y G=>(d y G).1,λ y G=>⟨λ B=>by
     rcases p3 y B with z|z
     .exact(d y G).1 z
     .have:=f.lt y G;omega,(d y G).2⟩⟩
   by_cases jf:i<us.length
   .rw[HW jf];have⟨Yi,f,d⟩:=hr i jf;exact key (f.W r ζ) d
   .have s:i=us.length:=by rw[iP]at A;simp at A;omega
    subst s;rw[afb (Nat.le_refl _)];simp only[YU,afd];rw[C];exact key O λ y G=>⟨λ B=>by have:=sD y B;have:=f1 y G;omega,by have:=f1 y G;have:=h.ab;omega⟩
 .obtain rfl:j=n:=ω
  subst cq;simp[s3,R,U];refine hQ ⟨⟨p.yN ω (by simp[C]) λ i A=>?_,?_⟩,h⟩
  .have s:i<us.length:=by simpa[C]using A
   have⟨Yi,f,d⟩:=hr i s;refine⟨us[i],?_,?_⟩
   .simp[List.take_one,s]
   .simp;exact .own f λ y G=>(d y G).2
  .intro id ah es nn ax ex e;subst e;cases p with|own=>exact N _ ζ
end
end
end Go.Proofs.YtgipmaoplfkdoaaGreatDoor
