import Derived.Test.YtgipmaoplfkdoaaGreatDoorM0
import Derived.Lib.TrailingZeros
import GoSem.Core.View
set_option linter.all false
set_option maxRecDepth 100000
set_option maxHeartbeats 400000000
namespace Go.Proofs.YtgipmaoplfkdoaaGreatDoor
noncomputable section
open Go.RowKit
variable{x m c0 c1 c2 c3 c4 c5 c6 c7:Nat}{α:Type}{Ws:Nat->Nat}{f:Nat->α}
namespace PC
def fV:Nat->Nat->Nat
 |0,_=>0|n+1,x=>x%2+fV n (x/2)
theorem ajR{a b:Nat}:∀{m n:Nat},a<2^m->fV (m+n) (a+2^m*b)=fV m a+fV n b
 |0,n,h=>by
  have:a=0:=by simpa using h
  subst this;simp[fV]
 |m+1,n,h=>by
  rw[show m+1+n=(m+n)+1 by omega]
  simp only[fV]
  have e:2^(m+1)*b=2*(2^m*b):=by rw[OF];simp[Td,Nat.mul_left_comm]
  rw[e]
  have d:(a+2*(2^m*b))%2=a%2:=ω
  have c:(a+2*(2^m*b))/2=a/2+2^m*b:=ω
  rw[d,c,ajR (m:=m) (n:=n) (by rw[OF]at h;omega)]
  omega
def ads{n:Nat}:∀{x y:Nat},(∀i,x.testBit i=true->y.testBit i=true)->fV n x<=fV n y:=by
 induction n with
 |zero=>intro x y _;exact aF
 |succ n a=>
  intro x y h
  simp only[fV]
  have b:x%2<=y%2:=by have:=h 0;simp only[YW,rK]at this;omega
  have:=a (x:=x/2) (y:=y/2) λ i A=>by have:=h (i+1);rw[H9,H9]at this;exact this A
  omega
def aCg{n:Nat}:∀{x y i:Nat},(∀i,x.testBit i=true->y.testBit i=true)->i<n->x.testBit i=false->y.testBit i=true->fV n x<fV n y:=by
 induction n with
 |zero=>intro x y i _ A;omega
 |succ n b=>
  intro x y i h A Z G
  simp only[fV]
  have c:x%2<=y%2:=by have:=h 0;simp only[YW,rK]at this;omega
  have a:∀i,(x/2).testBit i=true->(y/2).testBit i=true:=λ i A=>by have:=h (i+1);rw[H9,H9]at this;exact this A
  cases i with
  |zero=>
   simp only[YW,rK,Th]at Z G
   have:=ads (n:=n) a
   omega
  |succ i=>
   rw[H9]at Z G
   have:=b a ω Z G
   omega
def qV(m:Nat):Nat->Nat
 |0=>0|n+1=>m+256*qV m n
def val:List Nat->Nat
 |[]=>0|a::l=>a+256*val l
def ON{q aD:Nat}(c:x<256)(B:m<256):(x+256*q)&&&(m+256*aD)=(x&&&m)+256*(q&&&aD):=by
 have d:x&&&m<256:=KL Nat.and_le_left c;have e:∀a b:Nat,a<256->a+256*b=2^8*b+a:=λ a b _=>ω
 rw[e _ _ c,e _ _ B,e _ _ d];apply afo;intro i;rw[YV];simp only[Tf _ (show x<2^8 by simpa using c),Tf _ (show m<2^8 by simpa using B),Tf _ (show x&&&m<2^8 by simpa using d)];by_cases h:i<8<;>simp[h]
def s1(aD x:Nat):Nat:=(x/2&&&aD)+(x&&&aD)
def s2(aD x:Nat):Nat:=(x/4&&&aD)+(x&&&aD)
def s3(aD x:Nat):Nat:=(x/16+x)&&&aD
def O5(p:Nat->Bool):Bool:=(List.range 256).all p
def O6{p:Nat->Bool}(h:O5 p=true)(a:x<256):p x=true:=yZ.1 h x (mj.2 a)
def b1:O5 (λ a=>(List.range 2).all λ c=>((a/2+128*c)&&&85)==(a/2&&&85))=true:=by decide+kernel
def b2:O5 (λ a=>(List.range 4).all λ c=>((a/4+64*c)&&&51)==(a/4&&&51))=true:=by decide+kernel
def b3:O5 (λ a=>Nat.ble (s1 85 a) 255&&Nat.ble (s2 51 (s1 85 a)) 255&&Nat.ble (s2 51 (s1 85 a)%16) 4&&Nat.ble (s2 51 (s1 85 a)/16) 4&&(s3 15 (s2 51 (s1 85 a))==fV 8 a)&&Nat.ble (fV 8 a) 8)=true:=by decide+kernel
def b4:O5 (λ a=>(List.range 16).all λ c=>(!(Nat.ble (a%16) 4&&Nat.ble (a/16) 4&&Nat.ble c 4))||(((a/16+16*c+a)&&&15)==((a/16+a)&&&15)&&Nat.ble (a/16+16*c+a) 255))=true:=by decide+kernel
theorem akk:∀{l:List Nat},(∀a∈l,a<256)->s1 (qV 85 l.length) (val l)=val (l.map (s1 85))
 |[],_=>by simp[s1,qV,val]
 |a::l,h=>by
  have d:=h a ζ
  have e:=akk (l:=l) λ b c=>h b (by simp[c])
  simp only[qi,qV,val,kB]
  rw[<-e]
  generalize val l=b
  generalize qV 85 l.length=aD
  unfold s1
  have g:(a+256*b)/2=(a/2+128*(b%2))+256*(b/2):=ω
  have c:=O6 b1 d
  rw[yZ]at c
  have c:=c (b%2) (mj.2 (H8 _ η))
  have c:(a/2+128*(b%2))&&&85=a/2&&&85:=by simpa using c
  rw[g,ON ω η,ON d η,c]
  omega
theorem akl:∀{l:List Nat},(∀a∈l,a<256)->s2 (qV 51 l.length) (val l)=val (l.map (s2 51))
 |[],_=>by simp[s2,qV,val]
 |a::l,h=>by
  have d:=h a ζ
  have e:=akl (l:=l) λ b c=>h b (by simp[c])
  simp only[qi,qV,val,kB]
  rw[<-e]
  generalize val l=b
  generalize qV 51 l.length=aD
  unfold s2
  have g:(a+256*b)/4=(a/4+64*(b%4))+256*(b/4):=ω
  have c:=O6 b2 d
  rw[yZ]at c
  have c:=c (b%4) (mj.2 (H8 _ η))
  have c:(a/4+64*(b%4))&&&51=a/4&&&51:=by simpa using c
  rw[g,ON ω η,ON d η,c]
  omega
def val_mod{l:List Nat}(h:∀a∈l,a<256/\a%16<=4):val l%16<=4:=by
 cases l with
 |nil=>simp[val]
 |cons a l=>
  have:=h a ζ
  simp only[val];omega
theorem akm:∀{l:List Nat},(∀a∈l,a<256/\a%16<=4/\a/16<=4)->s3 (qV 15 l.length) (val l)=val (l.map (s3 15))
 |[],_=>by simp[s3,qV,val]
 |a::l,h=>by
  have⟨e,O,U⟩:=h a ζ
  have d:=akm (l:=l) λ b c=>h b (by simp[c])
  have B:=val_mod (l:=l) λ b c=>⟨(h b (by simp[c])).1,(h b (by simp[c])).2.1⟩
  simp only[qi,qV,val,kB]
  rw[<-d]
  generalize val l=b at B⊢
  generalize qV 15 l.length=aD
  unfold s3
  have c:=O6 b4 e
  rw[yZ]at c
  have c:=c (b%16) (mj.2 (H8 _ η))
  have c:(a/16+16*(b%16)+a)&&&15=(a/16+a)&&&15/\a/16+16*(b%16)+a<=255:=by simpa[OC O,OC U,OC B]using c
  have g:(a+256*b)/16+(a+256*b)=(a/16+16*(b%16)+a)+256*(b/16+b):=ω
  rw[g,ON ω η,c.1]
def bytes(x:Nat):List Nat:=[x%256,x/256%256,x/65536%256,x/16777216%256,x/4294967296%256,x/1099511627776%256,x/281474976710656%256,x/72057594037927936%256]
def afV(h:x<18446744073709551616):val (bytes x)=x:=by simp only[bytes,val];omega
def Tu:∀a∈bytes x,a<256:=by intro a b;simp only[bytes,cZ,xu,xD]at b;omega
def aCf(h:x<18446744073709551616):fV 64 x=((bytes x).map (fV 8)).sum:=by
 have e:∀{a b n:Nat},a<256->fV (8+n) (a+256*b)=fV 8 a+fV n b:=λ g=>ajR (m:=8) (by simpa using g);have key:∀{l:List Nat},(∀a∈l,a<256)->fV (8*l.length) (val l)=(l.map (fV 8)).sum:=by
  intro l;induction l with
  |nil=>intro _;rfl
  |cons a l c=>
   intro h
   simp only[qi,val,kB,sr]
   rw[show 8*(l.length+1)=8+8*l.length by omega,e (h a ζ),c λ b d=>h b (by simp[d])]
 have:=key (Tu (x:=x));rw[afV h]at this;exact this
def sw(x:Nat):Nat:=s3 1085102592571150095 (s2 3689348814741910323 (s1 6148914691236517205 x))
def aFm(h:x<18446744073709551616):sw x=val ((bytes x).map (fV 8)):=by
 have p:qV 85 8=6148914691236517205:=η
 have o:qV 51 8=3689348814741910323:=η
 have n:qV 15 8=1085102592571150095:=η
 have e:∀a∈bytes x,s1 85 a<256/\s2 51 (s1 85 a)<256/\s2 51 (s1 85 a)%16<=4/\s2 51 (s1 85 a)/16<=4/\s3 15 (s2 51 (s1 85 a))=fV 8 a:=by intro a d;have:=O6 b3 (Tu a d);simp only[v8,kC,zk]at this;omega
 unfold sw;have k:=akk (l:=bytes x) Tu;rw[afV h,show(bytes x).length=8 from rfl,p]at k;have j:=akl (l:=(bytes x).map (s1 85)) λ a d=>by obtain⟨b,O,rfl⟩:=jn.1 d;exact(e b O).1
 rw[show((bytes x).map (s1 85)).length=8 from rfl,o]at j;have g:=akm (l:=((bytes x).map (s1 85)).map (s2 51)) λ a d=>by obtain⟨b,O,rfl⟩:=jn.1 d;obtain⟨c,U,rfl⟩:=jn.1 O;exact⟨(e c U).2.1,(e c U).2.2.1,(e c U).2.2.2.1⟩
 rw[show(((bytes x).map (s1 85)).map (s2 51)).length=8 from rfl,n]at g;rw[k,j,g,u_,u_];congr 1;refine SZ λ a d=>?_;exact(e a d).2.2.2.2
def aCe(h:x<256):fV 8 x<=8:=by have:=O6 b3 h;simp only[v8,kC,zk]at this;exact this.2
def dv{r q:Nat}(e:x=r+m*q)(h:r<m):x/m=q:=by rw[e,Nat.add_mul_div_left _ _ (KL (dQ _) h),Nat.div_eq_of_lt h,mQ]
def amE(j:m=c0+256*(c1+256*(c2+256*(c3+256*(c4+256*(c5+256*(c6+256*(c7+256*0))))))))(B:c0<=8)(b1:c1<=8)(b2:c2<=8)(b3:c3<=8)(b4:c4<=8)(A:c5<=8)(y:c6<=8)(v:c7<=8)(t:x=c0+(c1+(c2+(c3+(c4+(c5+(c6+(c7+0)))))))):(m+m/256+(m+m/256)/65536+(m+m/256+(m+m/256)/65536)/4294967296)%128=x/\m<=578721382704613384/\m+m/256<1157442765409226769/\m+m/256+(m+m/256)/65536<2314885530818453537/\m+m/256+(m+m/256)/65536+(m+m/256+(m+m/256)/65536)/4294967296<4629771061636907073:=by
 obtain⟨q,k⟩:∃q,q=c1+256*(c2+256*(c3+256*(c4+256*(c5+256*(c6+256*c7))))):=⟨_,rfl⟩
 have O:m/256=q:=dv (r:=c0) ω ω
 rw[O]
 clear O
 have G:m<=578721382704613384:=ω
 have C:q<=2260630401189896:=ω
 obtain⟨z,c⟩:∃z,z=m+q:=⟨_,rfl⟩
 rw[<-c]
 have d:z=(c0+c1)+256*((c1+c2)+256*((c2+c3)+256*((c3+c4)+256*((c4+c5)+256*((c5+c6)+256*((c6+c7)+256*c7)))))):=ω
 clear j k
 obtain⟨r,hr⟩:∃r,r=(c2+c3)+256*((c3+c4)+256*((c4+c5)+256*((c5+c6)+256*((c6+c7)+256*c7)))):=⟨_,rfl⟩
 have U:z/65536=r:=dv (r:=(c0+c1)+256*(c1+c2)) ω ω
 rw[U]
 clear U
 obtain⟨u,hu⟩:∃u,u=z+r:=⟨_,rfl⟩
 rw[<-hu]
 have b:u=(c0+c1+c2+c3)+256*((c1+c2+c3+c4)+256*((c2+c3+c4+c5)+256*((c3+c4+c5+c6)+256*((c4+c5+c6+c7)+256*((c5+c6+c7)+256*((c6+c7)+256*c7)))))):=ω
 have h:z<1157442765409226769:=by clear hr hu b d;omega
 have o:r<=17661175009296:=by clear c d hu b G h;omega
 have l:u<2314885530818453537:=by clear hr c d b;omega
 clear c d hr hu
 obtain⟨s,n⟩:∃s,s=(c4+c5+c6+c7)+256*((c5+c6+c7)+256*((c6+c7)+256*c7)):=⟨_,rfl⟩
 have F:u/4294967296=s:=dv (r:=(c0+c1+c2+c3)+256*((c1+c2+c3+c4)+256*((c2+c3+c4+c5)+256*(c3+c4+c5+c6)))) ω ω
 rw[F]
 clear F
 obtain⟨a,e⟩:∃a,a=2*((c1+c2+c3+c4)+256*((c2+c3+c4+c5)+256*((c3+c4+c5+c6)+256*((c4+c5+c6+c7)+256*((c5+c6+c7)+256*((c6+c7)+256*c7))))))+2*((c5+c6+c7)+256*((c6+c7)+256*c7)):=⟨_,rfl⟩
 have g:u+s=x+128*a:=ω
 have p:s<=1077952576:=by clear b g e;omega
 clear n b e
 refine⟨?_,G,h,l,ω⟩
 rw[g,Nat.add_mul_mod_self_left,YN ω]
def FI(x:Nat):Nat:=sw x+sw x/256
def FJ(x:Nat):Nat:=FI x+FI x/65536
def Ku(x:Nat):Nat:=FJ x+FJ x/4294967296
def azW(h:x<18446744073709551616):Ku x%128=fV 64 x/\sw x<=578721382704613384/\FI x<1157442765409226769/\FJ x<2314885530818453537/\Ku x<4629771061636907073:=by
 have d:=aFm h;have e:=aCf h;have c:∀a∈(bytes x).map (fV 8),a<=8:=λ a j=>by obtain⟨b,O,rfl⟩:=jn.1 j;exact aCe (Tu b O)
 obtain⟨c0,c1,c2,c3,c4,c5,c6,c7,g⟩:∃c0 c1 c2 c3 c4 c5 c6 c7,(bytes x).map (fV 8)=[c0,c1,c2,c3,c4,c5,c6,c7]:=⟨_,_,_,_,_,_,_,_,rfl⟩;rw[g]at d e c;simp only[cZ,xu,xD,forall_eq_or_imp,forall_eq]at c;simp only[val,sr,KJ]at d e;unfold Ku FJ FI;exact amE d c.1 c.2.1 c.2.2.1 c.2.2.2.1 c.2.2.2.2.1 c.2.2.2.2.2.1 c.2.2.2.2.2.2.1 c.2.2.2.2.2.2.2 e
end PC
variable{w i:Nat}{aA V:Nat->Nat}
section
open PC
def cC(aA:Nat->Nat)(i:Nat):Bool:=(aA (i/64)).testBit (i%64)
def ma(aA:Nat->Nat)(k w:Nat):Nat->Nat:=λ q=>if q=k then w else aA q
def fT(aA V:Nat->Nat):Nat->Nat:=λ q=>aA q|||V q
def nN(i:Nat):Nat->Nat:=λ q=>if q=i/64 then 2^(i%64)else 0
structure kA(aA:Nat->Nat):Prop where
 lt:∀q,aA q<18446744073709551616
 z:∀q,65536<=q->aA q=0
def pB(aA:Nat->Nat):Nat->Nat
 |0=>0|n+1=>pB aA n+fV 64 (aA n)
theorem WY:∀n,fV n 0=0
 |0=>rfl|n+1=>by simp[fV,WY n]
theorem WX:∀n x,fV n x<=n
 |0,_=>aF
 |n+1,x=>by
  have:=WX n (x/2)
  simp only[fV];omega
theorem ak1(aA:Nat->Nat):∀n,pB aA n<=64*n
 |0=>aF
 |n+1=>by
  have:=ak1 aA n
  have:=WX 64 (aA n)
  simp only[pB];omega
theorem ak2{aA:Nat->Nat}{k w:Nat}:∀n,n<=k->pB (ma aA k w) n=pB aA n
 |0,_=>rfl
 |n+1,h=>by
  have e:¬n=k:=ω
  have a:=ak2 (aA:=aA) (w:=w) n (show n<=k by omega)
  simp only[pB,a,ma,e,n_]
theorem ak5{aA:Nat->Nat}{k w:Nat}:∀n,k<n->pB (ma aA k w) n+fV 64 (aA k)=pB aA n+fV 64 w
 |0,h=>ω
 |n+1,h=>by
  by_cases e:n=k
  .subst e
   simp only[pB,ak2 n aF,ma,qk];omega
  .have:=ak5 (aA:=aA) (w:=w) n (show k<n by omega)
   simp only[pB];have a:ma aA k w n=aA n:=by simp only[ma,e,n_]
   rw[a];omega
theorem ak3{aA V:Nat->Nat}(h:∀q i,(aA q).testBit i=true->(V q).testBit i=true):∀n,pB aA n<=pB V n
 |0=>aF
 |n+1=>by
  have:=ak3 h n
  have:=ads (n:=64) (h n)
  simp only[pB];omega
theorem ak4{aA V:Nat->Nat}(h:∀q i,(aA q).testBit i=true->(V q).testBit i=true){k i:Nat}(A:i<64)(a:(aA k).testBit i=false)(O:(V k).testBit i=true):∀n,k<n->pB aA n<pB V n
 |0,Q=>ω
 |n+1,Q=>by
  by_cases e:n=k
  .subst e
   have:=ak3 h n;have:=aCg (n:=64) (h n) A a O;simp only[pB];omega
  .have:=ak4 h A a O n ω
   have:=ads (n:=64) (h n);simp only[pB];omega
def nR:(Nat->Nat)->Nat:=Classical.choose (⟨_,rfl⟩:∃f:(Nat->Nat)->Nat,f=λ aA=>pB aA 65536)
def NW(aA:Nat->Nat):nR aA=pB aA 65536:=congrFun (HS (⟨_,rfl⟩:∃f:(Nat->Nat)->Nat,f=λ aA=>pB aA 65536)) aA
def ad9(aA:Nat->Nat):nR aA<=4194304:=by have:=ak1 aA 65536;rw[NW];omega
def aFr(h:x<65536):nR (ma aA x w)+fV 64 (aA x)=nR aA+fV 64 w:=by rw[NW,NW];exact ak5 65536 h
theorem ak6:∀n,pB (λ _=>0) n=0
 |0=>rfl|n+1=>by simp[pB,ak6 n,WY]
def aFs:nR (λ _=>0)=0:=by rw[NW];exact ak6 _
def uk:cC (fT aA V) i=(cC aA i||cC V i):=by simp[cC,fT]
def GU:cC (nN i) x=decide (x=i):=by
 unfold cC nN;by_cases h:x/64=i/64
 .rw[aq h,aft,decide_eq_decide];constructor
  .intro e;omega
  .intro e;omega
 .rw[ao h];have:¬x=i:=λ e=>h (by rw[e]);simp[this]
def kA.or(h:kA aA)(g:kA V):kA (fT aA V):=⟨λ q=>YS (n:=64) (h.lt q) (g.lt q),λ q a=>by simp[fT,h.z q a,g.z q a]⟩
def kA.set(h:kA aA)(Q:x<65536)(hw:w<18446744073709551616):kA (ma aA x w):=⟨λ q=>by unfold ma;split;exact hw;exact h.lt q,λ q a=>by unfold ma;rw[ao ω];exact h.z q a⟩
def kA.one(h:i<4194304):kA (nN i):=⟨λ q=>by
 unfold nN;split
 .exact afr (a:=2) ω (show i%64<64 by omega)
 .omega,λ q b=>by unfold nN;rw[ao ω]⟩
def kA.zero:kA λ _=>0:=⟨λ _=>ω,λ _ _=>rfl⟩
def aa4(h:kA aA)(A:cC aA i=true):i<4194304:=by
 rcases kb i 4194304 with O|O
 .exact O
 .have:=h.z (i/64) ω;unfold cC at A;rw[this]at A;simp at A
def Yb(h:kA aA)(g:kA V)(he:∀i,cC aA i=cC V i):aA=V:=by
 funext q;apply afo;intro i;rcases kb i 64 with O|O
 .have:=he (64*q+i);unfold cC at this;rw[show(64*q+i)/64=q by omega,show(64*q+i)%64=i by omega]at this;exact this
 .rw[afs (aT (h.lt q) (afq (n:=2) ω O)),afs (aT (g.lt q) (afq (n:=2) ω O))]
def atH(h:kA aA)(g:kA V):nR aA<nR (fT aA V)↔∃i,cC V i=true/\cC aA i=false:=by
 rw[NW,NW];constructor
 .intro c;apply ae2;intro a;have:fT aA V=aA:=Yb (h.or g) h λ i=>by
   rw[uk];cases O:cC V i with
   |false=>simp
   |true=>
    cases U:cC aA i with|true=>rfl|false=>exact absurd ⟨i,O,U⟩ a
  rw[this]at c;omega
 .rintro⟨i,O,U⟩;have d:=aa4 g O;refine ak4 (λ q j b=>by simp[fT,b]) (k:=i/64) (i:=i%64) ω U ?_ 65536 ω;unfold cC at O;simp[fT,O]
def abJ(h:kA aA)(g:kA V)(a:¬nR aA<nR (fT aA V)):fT aA V=aA:=Yb (h.or g) h λ i=>by
 rw[uk];cases O:cC V i with
 |false=>simp
 |true=>
  cases U:cC aA i with|true=>rfl|false=>exact absurd ((atH h g).2 ⟨i,O,U⟩) a
theorem ad1:∀{a b:List Nat},a.Pairwise (·< ·)->b.Pairwise (·< ·)->(∀x,x∈a↔x∈b)->a=b
 |[],[],_,_,_=>rfl|[],y::b,_,_,h=>by have:=(h y).2 ζ;simp at this
 |x::a,[],_,_,h=>by have:=(h x).1 ζ;simp at this
 |x::a,y::b,d,c,h=>by
  rw[xw]at d c
  have j:x=y:=by
   have O:=(h x).1 ζ;have U:=(h y).2 ζ;simp only[cZ]at O U;rcases O with O|O
   .exact O
   .rcases U with U|U
    .exact U.symm
    .have:=c.1 _ O;have:=d.1 _ U;omega
  subst j
  congr 1
  refine ad1 d.2 c.2 λ z=>?_
  have g:=h z
  simp only[cZ]at g
  constructor
  .intro B
   rcases g.1 (.inr B)with e|e
   .subst e;have:=d.1 _ B;omega
   .exact e
  .intro B
   rcases g.2 (.inr B)with e|e
   .subst e;have:=c.1 _ B;omega
   .exact e
def bitsOf(w:Nat):List Nat:=(List.range 64).filter λ b=>w.testBit b
def Wx:x∈bitsOf w↔x<64/\w.testBit x=true:=by simp[bitsOf]
def akN(w:Nat):(bitsOf w).Pairwise (·< ·):=S8.filter _
def afR:bitsOf 0=[]:=by simp[bitsOf]
def ajb(b:w≠0)(h:w<18446744073709551616):Lib.ctz 64 w<64/\w.testBit (Lib.ctz 64 w)=true/\(∀j,j<Lib.ctz 64 w->w.testBit j=false)/\∀j,(w&&&(w-1)).testBit j=(decide (Lib.ctz 64 w<j)&&w.testBit j):=by
 have⟨m,B,Q⟩:=Lib.ctzFrom_spec 64 w ω h;have e:Lib.ctz 64 w=Lib.ctzFrom 64 w:=by simp[Lib.ctz,b]
 rw[e];generalize Lib.ctzFrom 64 w=k at B Q;have l:0<2^k:=Nat.two_pow_pos k;have c:w-1=2^k*(2*m)+(2^k-1):=by rw[B,YO];omega
 have a:∀j,w.testBit j=(decide (k<=j)&&(2*m+1).testBit (j-k)):=λ j=>by rw[B,Td (2^k),Nat.testBit_mul_two_pow]
 refine⟨Q,by rw[a];simp,λ j n=>by rw[a];simp;omega,λ j=>?_⟩;rw[YV,c,Tf _ ω,a];rcases Tc j k with O|O|O
 .have:¬k<=j:=ω
  simp[this]
 .subst O;simp
 .obtain⟨t,rfl⟩:∃t,j=k+(t+1):=⟨j-k-1,ω⟩;have g:¬k+(t+1)<k:=ω
  have d:k+(t+1)-k=t+1:=ω
  rw[ao g,d,H9,H9,show(2*m+1)/2=m by omega,show 2*m/2=m by omega];simp
def anM(j:w≠0)(h:w<18446744073709551616):bitsOf w=Lib.ctz 64 w::bitsOf (w&&&(w-1)):=by
 have⟨O,U,F,g⟩:=ajb j h;refine ad1 (akN _) (xw.2 ⟨λ b d=>?_,akN _⟩) λ b=>?_
 .rw[Wx,g]at d;simp at d;exact d.2.1
 .rw[cZ,Wx,Wx,g];constructor
  .rintro⟨e,a⟩;rcases Tc b (Lib.ctz 64 w)with c|c|c
   .rw[F b c]at a;cases a
   .exact .inl c
   .exact .inr ⟨e,by simp[c,a]⟩
  .rintro(rfl|⟨e,a⟩)
   .exact⟨O,U⟩
   .simp at a;exact⟨e,a.2⟩
def sW(aA:Nat->Nat)(ks:List Nat):List Nat:=ks.flatMap λ q=>(bitsOf (aA q)).map λ b=>64*q+b
def jW:(Nat->Nat)->List Nat:=Classical.choose (⟨_,rfl⟩:∃f:(Nat->Nat)->List Nat,f=λ aA=>sW aA (List.range 65536))
def Wj(aA:Nat->Nat):jW aA=sW aA (List.range 65536):=congrFun (HS (⟨_,rfl⟩:∃f:(Nat->Nat)->List Nat,f=λ aA=>sW aA (List.range 65536))) aA
def jP:(Nat->Nat)->List Nat:=Classical.choose (⟨_,rfl⟩:∃f:(Nat->Nat)->List Nat,f=λ aA=>(List.range 65536).filter λ q=>decide (aA q≠0))
def Q0(aA:Nat->Nat):jP aA=(List.range 65536).filter λ q=>decide (aA q≠0):=congrFun (HS (⟨_,rfl⟩:∃f:(Nat->Nat)->List Nat,f=λ aA=>(List.range 65536).filter λ q=>decide (aA q≠0))) aA
def aAv(aA:Nat->Nat):sW aA (jP aA)=jW aA:=by
 rw[Wj,Q0];unfold sW;generalize List.range 65536=l;induction l with
 |nil=>rfl
 |cons q l a=>
  rw[BN,List.filter_cons]
  by_cases h:aA q=0
  .simp[h,afR]
   simpa using a
  .simp only[h,ne_eq,YX,decide_true,qk,BN,a]
def Wy:x∈jP aA↔x<65536/\aA x≠0:=by rw[Q0];simp
def aFe(aA:Nat->Nat):(jP aA).Pairwise (·< ·):=by rw[Q0];exact S8.filter _
def Dm(h:kA aA):i∈jW aA↔cC aA i=true:=by
 rw[Wj];unfold sW;simp only[List.mem_flatMap,mj,jn,Wx];constructor
 .rintro⟨q,a,b,⟨O,U⟩,rfl⟩;unfold cC;rw[show(64*q+b)/64=q by omega,show(64*q+b)%64=b by omega];exact U
 .intro A;have:=aa4 h A;exact⟨i/64,ω,i%64,⟨ω,A⟩,ω⟩
end
structure bL where
 kind:Int
 aR:Int
 aG:Int
 K:Int
structure bH where
 at_:Nat×Nat×Nat
 args:List Int
 dst:Int
structure SI where
 vars:Nat
 br:Nat
 fns:Nat
 step:Nat->Int->Option Nat
 params:Nat->List Int
 Fs:Nat->List Int
structure SV where
 first:Nat->Nat
 set:Nat->Nat->Nat
 to:Nat->Nat->Nat
 aO:Nat->List bL
 wait:Nat->Bool
 iC:Int
def aM(f:Nat->α)(i:Nat)(x:α):Nat->α:=λ j=>if j=i then x else f j
theorem fE{x:α}:aM f m x m=x:=by simp[aM]
theorem gG{x:α}(h:c0≠m):aM f m x c0=f c0:=by simp[aM,h]
theorem alC:aM f x (f x)=f:=by funext j;unfold aM;split;rename_i h;rw[h];rfl
abbrev zA(aA V:Nat->Nat):Prop:=nR aA<nR (fT aA V)
namespace SV
noncomputable def take(V:SV)(i:Nat)(Ws:Nat->Nat):SV:={V with set:=aM V.set (V.first i) (fT (V.set (V.first i)) Ws),wait:=if zA (V.set (V.first i)) Ws then aM V.wait (V.first i) true else V.wait,iC:=Go.IntKind.wrap .i64 (V.iC+1)}
def tH(V:SV)(f t:Nat):SV:={V with to:=aM V.to f (fT (V.to f) (nN t))}
noncomputable def bV(V:SV)(to from_:Int):SV:=if to<0\/from_<0 then V
 else if V.first to.toNat≠V.first from_.toNat/\cC (V.to (V.first from_.toNat)) (V.first to.toNat)=false then
  (V.tH (V.first from_.toNat) (V.first to.toNat)).take (V.first to.toNat) (V.set (V.first from_.toNat))
 else V
end SV
def SI.eA(S:SI)(o:Nat):Int:=if o<S.br then((S.vars+o:Nat):Int)else-1
namespace SV
noncomputable def sA(V:SV)(S:SI)(d:bH)(f:Nat):SV:=if(S.params f).length≠d.args.length then V
 else(S.Fs f).foldl (λ V v=>V.bV d.dst v) (((S.params f).zip d.args).foldl (λ V p=>V.bV p.1 p.2) V)
noncomputable def mJ(V:SV)(S:SI)(ds:List bH)(r:bL)(o:Nat):SV:=if r.kind=3 then V.bV r.aR (S.eA o)
 else if r.kind=4 then V.bV (S.eA o) r.aG
 else if r.kind=5 then match S.step o r.K with|some q=>V.take r.aR.toNat (nN q)|none=>V
 else if S.eA o<0 then match ds[r.K.toNat]? with|some d=>V.sA S d (o-S.br)|none=>V
 else V
noncomputable def app(V:SV)(S:SI)(ds:List bH)(r:bL)(l:List Nat):SV:=l.foldl (λ V o=>V.mJ S ds r o) V
noncomputable def merge(V:SV)(i j:Nat):SV:=⟨λ x=>if V.first x=i then j else V.first x,aM V.set j (fT (V.set j) (V.set i)),aM V.to j (fT (V.to j) (V.to i)),aM (aM V.aO j (V.aO j++V.aO i)) i [],aM (aM V.wait i false) j true,Go.IntKind.wrap .i64 (V.iC+1)⟩
noncomputable def push(V:SV)(i:Nat)(l:List Nat):SV:=l.foldl (λ V k=>if V.first k≠i then V.take k (V.set i)else V) V
def pop(V:SV)(i:Nat):SV:={V with wait:=aM V.wait i false}
noncomputable def apps(V:SV)(S:SI)(ds:List bH)(rs:List bL)(l:List Nat):SV:=rs.foldl (λ V r=>V.app S ds r l) V
noncomputable def round(V:SV)(S:SI)(ds:List bH)(i:Nat):SV:=((V.pop i).apps S ds (V.aO i) (jW (V.set i))).push i (jW (((V.pop i).apps S ds (V.aO i) (jW (V.set i))).to i))
structure Ok(V:SV)(S:SI)(N:Nat):Prop where
 lt:∀x,x<N->V.first x<N
 id:∀x,V.first (V.first x)=V.first x
 wd:∀i,kA (V.set i)
 wt:∀i,kA (V.to i)
 tn:∀i k,cC (V.to i) k=true->k<N
 sn:∀i o,cC (V.set i) o=true->o<S.br+S.fns
section
variable{V V' xp:SV}{S:SI}{ds:List bH}{N:Nat}
theorem Ok.take{V:SV}{S:SI}{N i:Nat}{Ws:Nat->Nat}(h:V.Ok S N)(hw:kA Ws)(b:∀o,cC Ws o=true->o<S.br+S.fns):(V.take i Ws).Ok S N:=⟨h.lt,h.id,λ j=>by
 show kA (aM V.set (V.first i) _ j);unfold aM;split
 .exact(h.wd _).or hw
 .exact h.wd j,h.wt,h.tn,λ j o a=>by
 replace a:cC (aM V.set (V.first i) (fT (V.set (V.first i)) Ws) j) o=true:=a;unfold aM at a;split at a
 .rw[uk,xt]at a;rcases a with a|a
  .exact h.sn _ _ a
  .exact b _ a
 .exact h.sn j o a⟩
theorem Ok.tH{V:SV}{S:SI}{N f t:Nat}(h:V.Ok S N)(a:t<N)(b:N<=4194304):(V.tH f t).Ok S N:=⟨h.lt,h.id,h.wd,λ j=>by
 show kA (aM V.to f _ j);unfold aM;split
 .exact(h.wt _).or (.one ω)
 .exact h.wt j,λ j k Q=>by
 replace Q:cC (aM V.to f (fT (V.to f) (nN t)) j) k=true:=Q;unfold aM at Q;split at Q
 .rw[uk,GU,xt]at Q;rcases Q with Q|Q
  .exact h.tn _ _ Q
  .simp at Q;omega
 .exact h.tn j k Q,h.sn⟩
theorem Ok.pop{i:Nat}(h:V.Ok S N):(V.pop i).Ok S N:=⟨h.lt,h.id,h.wd,h.wt,h.tn,h.sn⟩
theorem Ok.merge{i j:Nat}(h:V.Ok S N)(c:V.first j=j)(d:i≠j)(e:j<N):(V.merge i j).Ok S N:=by
 have b:∀x,(V.merge i j).first x=if V.first x=i then j else V.first x:=λ _=>rfl
 refine⟨λ x Z=>?_,λ x=>?_,λ x=>?_,λ x=>?_,λ x k Q=>?_,λ x o a=>?_⟩
 .rw[b];split
  .exact e
  .exact h.lt x Z
 .rw[b x];by_cases q:V.first x=i
  .rw[aq q,b,c,ao (qj d)]
  .rw[ao q,b,h.id,ao q]
 .show kA (aM V.set j _ x);unfold aM;split
  .exact(h.wd _).or (h.wd _)
  .exact h.wd x
 .show kA (aM V.to j _ x);unfold aM;split
  .exact(h.wt _).or (h.wt _)
  .exact h.wt x
 .replace Q:cC (aM V.to j (fT (V.to j) (V.to i)) x) k=true:=Q;unfold aM at Q;split at Q
  .rw[uk,xt]at Q;exact Q.elim (h.tn _ _) (h.tn _ _)
  .exact h.tn _ _ Q
 .replace a:cC (aM V.set j (fT (V.set j) (V.set i)) x) o=true:=a;unfold aM at a;split at a
  .rw[uk,xt]at a;exact a.elim (h.sn _ _) (h.sn _ _)
  .exact h.sn _ _ a
end
def m_(f:Nat->Nat):Nat->Nat
 |0=>0|n+1=>m_ f n+f n
theorem ad6{f:Nat->Nat}{k x:Nat}:∀n,n<=k->m_ (aM f k x) n=m_ f n
 |0,_=>rfl
 |n+1,h=>by
  simp only[m_,ad6 n (show n<=k by omega),gG (show n≠k by omega)]
theorem J0{f:Nat->Nat}{k x:Nat}:∀n,k<n->m_ (aM f k x) n+f k=m_ f n+x
 |0,h=>ω
 |n+1,h=>by
  by_cases e:n=k
  .subst e
   simp only[m_,ad6 n (Nat.le_refl _),fE];omega
  .have:=J0 (f:=f) (x:=x) n (show k<n by omega)
   simp only[m_,gG e];omega
theorem ad5{f:Nat->Nat}{c:Nat}(h:∀i,f i<=c):∀n,m_ f n<=n*c
 |0=>by simp[m_]
 |n+1=>by
  have:=ad5 h n
  have:=h n
  simp only[m_];rw[ve];omega
theorem NV{f g:Nat->Nat}:∀n,(∀i,i<n->f i=g i)->m_ f n=m_ g n
 |0,_=>rfl|n+1,h=>by simp only[m_,NV n λ i A=>h i ω,h n ω]
def xG(b:Bool):Nat:=if b=true then 1 else 0
theorem anh(b:Bool):xG b<=1:=by unfold xG;split<;>omega
def px(V:SV)(N:Nat):Nat:=m_ (λ i=>xG (decide (V.first i=i))) N
noncomputable def Nq(V:SV)(N:Nat):Nat:=m_ (λ i=>4194304-nR (V.set i)) N
def wc(V:SV)(N:Nat):Nat:=m_ (λ i=>xG (V.wait i)) N
noncomputable def mu(V:SV)(N:Nat):Nat:=(px V N*(N*4194304+1)+Nq V N)*(N+1)+wc V N
def fx(V:SV)(N:Nat):Prop:=∀i,V.wait i=true->V.first i=i/\i<N
section
variable{V V' xp:SV}{S:SI}{ds:List bH}{N:Nat}
theorem ayq(V:SV)(N:Nat):Nq V N<=N*4194304:=ad5 (λ i=>ω) N
theorem alJ(V:SV)(N:Nat):wc V N<=N:=by have:=ad5 (f:=λ i=>xG (V.wait i)) (c:=1) (λ i=>anh _) N;unfold wc;omega
theorem ajk(h:x*c4+m<c0*c4+c1)(hw:c2<=c5):(x*c4+m)*(c5+1)+c2<(c0*c4+c1)*(c5+1)+c3:=by have:(x*c4+m+1)*(c5+1)<=(c0*c4+c1)*(c5+1):=nW _ h;rw[ve]at this;omega
theorem abw(h:V.Ok S N)(hw:kA Ws)(A:m<N):mu (V.take m Ws) N<=mu V N:=by
 by_cases g:zA (V.set (V.first m)) Ws
 .refine tL (ajk ?_ (alJ _ _));show px V N*_+_<_;have e:Nq (V.take m Ws) N=m_ (aM (λ m=>4194304-nR (V.set m)) (V.first m) (4194304-nR (fT (V.set (V.first m)) Ws))) N:=by refine NV N λ j _=>?_;show 4194304-nR (aM V.set (V.first m) (fT (V.set (V.first m)) Ws) j)=_;unfold aM;split<;>rfl
  have b:=J0 (f:=λ m=>4194304-nR (V.set m)) (x:=4194304-nR (fT (V.set (V.first m)) Ws)) N (h.lt m A);have b1:=ad9 (fT (V.set (V.first m)) Ws);have b2:=ad9 (V.set (V.first m));rw[e];unfold Nq;have a:=g;unfold zA at a;omega
 .have e:V.take m Ws={V with iC:=Go.IntKind.wrap .i64 (V.iC+1)}:=by unfold take;rw[ao g,abJ (h.wd _) hw g,alC]
  rw[e];exact Nat.le_refl _
theorem ayM(A:m<N)(hw:V.wait m=true):mu (V.pop m) N<mu V N:=by
 have e:wc (V.pop m) N=m_ (aM (λ m=>xG (V.wait m)) m 0) N:=by refine NV N λ j _=>?_;show xG (aM V.wait m false j)=_;unfold aM;split<;>rfl
 have b:=J0 (f:=λ m=>xG (V.wait m)) (x:=0) N A;have a:xG (V.wait m)=1:=by rw[hw];rfl
 have:wc (V.pop m) N+1=wc V N:=by rw[e];unfold wc;omega
 show(px V N*_+Nq V N)*_+wc (V.pop m) N<(px V N*_+Nq V N)*_+wc V N;omega
theorem ayL(A:V.first m=m)(g:V.first c0=c0)(d:m≠c0)(h:m<N):mu (V.merge m c0) N<mu V N:=by
 refine ajk ?_ (alJ _ _);have e:px (V.merge m c0) N=m_ (aM (λ x=>xG (decide (V.first x=x))) m 0) N:=by
  refine NV N λ x _=>?_;show xG (decide ((if V.first x=m then c0 else V.first x)=x))=_;by_cases q:x=m
  .subst q;rw[fE,aq A,OJ (λ q=>d q.symm)];rfl
  .rw[gG q];by_cases a:V.first x=m
   .rw[aq a];have:¬V.first x=x:=λ e=>q (by rw[<-e];exact a);rw[OJ this];by_cases c:c0=x
    .subst c;exact absurd (a.symm.trans g) d
    .rw[OJ c]
   .rw[ao a]
 have k:=J0 (f:=λ x=>xG (decide (V.first x=x))) (x:=0) N h;have j:xG (decide (V.first m=m))=1:=by rw[Ti A];rfl
 have b:=ayq (V.merge m c0) N;have:px (V.merge m c0) N+1=px V N:=by rw[e];unfold px;omega
 rw[<-this,ve];omega
theorem fx.take(h:V.fx N)(d:∀x,V.first (V.first x)=V.first x)(c:∀x,x<N->V.first x<N){i:Nat}{Ws:Nat->Nat}(A:i<N):(V.take i Ws).fx N:=by
 intro j b;have a:(if zA (V.set (V.first i)) Ws then aM V.wait (V.first i) true else V.wait) j=true:=b;show V.first j=j/\j<N;split at a
 .unfold aM at a;split at a
  .rename_i e;rw[e];exact⟨d i,c i A⟩
  .exact h j a
 .exact h j a
theorem fx.pop(h:V.fx N){i:Nat}:(V.pop i).fx N:=λ j b=>by
 have a:aM V.wait i false j=true:=b;unfold aM at a;split at a
 .cases a
 .exact h j a
theorem fx.merge{i j:Nat}(h:V.fx N)(b:V.first j=j)(d:i≠j)(g:j<N):(V.merge i j).fx N:=by
 intro x Z;have a:aM (aM V.wait i false) j true x=true:=Z;show(if V.first x=i then j else V.first x)=x/\x<N;unfold aM at a;split at a
 .rename_i e;subst e;rw[b,ao (λ q=>d q.symm)];exact⟨rfl,g⟩
 .split at a
  .cases a
  .rename_i k c;obtain⟨O,U⟩:=h x a;rw[O,ao c];exact⟨rfl,U⟩
structure dq(S:SI)(N:Nat)(V V':SV):Prop where
 ok:V'.Ok S N
 rel:V'.aO=V.aO
 wt:V.fx N->V'.fx N
 mu:mu V' N<=mu V N
theorem dq.refl(h:V.Ok S N):dq S N V V:=⟨h,rfl,id,Nat.le_refl _⟩
theorem dq.trans(h:dq S N V V')(g:dq S N V' xp):dq S N V xp:=⟨g.ok,g.rel.trans h.rel,λ q=>g.wt (h.wt q),aY g.mu h.mu⟩
theorem dq.take{i:Nat}{Ws:Nat->Nat}(h:V.Ok S N)(hw:kA Ws)(a:∀o,cC Ws o=true->o<S.br+S.fns)(A:i<N):dq S N V (V.take i Ws):=⟨h.take hw a,rfl,λ q=>q.take h.id h.lt A,abw h hw A⟩
theorem dq.bV{a b:Int}(h:V.Ok S N)(e:a<N)(d:N<=4194304):dq S N V (V.bV a b):=by
 unfold SV.bV;split
 .exact .refl h
 .split
  .have c:=h.lt a.toNat ω;have g:=dq.take (h.tH (f:=V.first b.toNat) c d) (h.wd (V.first b.toNat)) (h.sn _) c;exact⟨g.ok,g.rel,g.wt,g.mu⟩
  .exact .refl h
theorem dq.all{f:SV->α->SV}{l:List α}(a:∀x∈l,∀V:SV,V.Ok S N->dq S N V (f V x)):∀{V:SV},V.Ok S N->dq S N V (l.foldl f V):=by induction l with|nil=>intro V h;exact .refl h|cons x l b=>intro V h;have g:=a x ζ V h;exact g.trans (b (λ y G=>a y (by simp[G])) g.ok)
theorem dq.push{i:Nat}{l:List Nat}(a:∀k∈l,k<N)(h:V.Ok S N):dq S N V (V.push i l):=.all (λ k Q V h=>by
 split
 .exact .take h (h.wd _) (h.sn _) (a k Q)
 .exact .refl h) h
end
structure oQ(S:SI)(ds:List bH):Prop where
 N:S.vars+S.br<=2097152
 fns:S.fns<=64
 step:∀o k q,S.step o k=some q->q<S.br
 ps:∀f,∀v∈S.params f,v<S.vars
 ds:∀d∈ds,d.dst<S.vars
structure uS(S:SI)(ds:List bH)(r:bL):Prop where
 a:r.aR<S.vars
 f:r.kind=5->0<=r.aR
section
variable{V V' xp:SV}{S:SI}{ds:List bH}
theorem SI.Pw{S:SI}{ds:List bH}(a:oQ S ds)(o:Nat):S.eA o<(S.vars+S.br:Nat):=by unfold SI.eA;split<;>omega
theorem dq.sA{d:bH}{f:Nat}(c:oQ S ds)(hd:d∈ds)(h:V.Ok S (S.vars+S.br)):dq S (S.vars+S.br) V (V.sA S d f):=by
 have j:=c.N;unfold SV.sA;split
 .exact .refl h
 .have g:=dq.all (l:=(S.params f).zip d.args) (f:=λ V p=>V.bV p.1 p.2) (λ p e V Q=>.bV Q (by have:=c.ps f p.1 (KI (a:=p.1) (b:=p.2) e).1;omega) ω) h;exact g.trans (.all (λ v _ V Q=>.bV Q (by have:=c.ds d hd;omega) ω) g.ok)
theorem dq.mJ{r:bL}{o:Nat}(b:oQ S ds)(hr:uS S ds r)(h:V.Ok S (S.vars+S.br)):dq S (S.vars+S.br) V (V.mJ S ds r o):=by
 have j:=b.N;have g:=hr.a;unfold SV.mJ;split
 .exact .bV h ω ω
 .split
  .exact .bV h (SI.Pw b o) ω
  .split
   .rename_i e;split
    .rename_i q c;have:=b.step _ _ _ c;exact .take h (.one ω) (λ x Z=>by rw[GU]at Z;simp at Z;omega) (by have:=hr.f e;omega)
    .exact .refl h
   .split
    .split
     .rename_i d hd;exact .sA b (oS hd) h
     .exact .refl h
    .exact .refl h
theorem dq.apps(a:oQ S ds){rs:List bL}(hr:∀r∈rs,uS S ds r){l:List Nat}(h:V.Ok S (S.vars+S.br)):dq S (S.vars+S.br) V (V.apps S ds rs l):=.all (λ r B _ Q=>.all (λ _ _ _ Q=>.mJ a (hr r B) Q) Q) h
theorem Xf(a:oQ S ds)(h:V.Ok S (S.vars+S.br))(hr:∀r∈V.aO x,uS S ds r):dq S (S.vars+S.br) (V.pop x) (V.round S ds x):=by have g:=dq.apps a hr (l:=jW (V.set x)) (h.pop (i:=x));exact g.trans (.push (λ k Q=>g.ok.tn _ _ ((Dm (g.ok.wt _)).1 Q)) g.ok)
end
end SV
end
end Go.Proofs.YtgipmaoplfkdoaaGreatDoor
