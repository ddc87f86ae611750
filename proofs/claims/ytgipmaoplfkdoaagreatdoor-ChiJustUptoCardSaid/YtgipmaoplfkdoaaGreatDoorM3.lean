import Derived.Test.YtgipmaoplfkdoaaGreatDoorM2
import Derived.Laws.Bits64b
import Derived.Laws.BitsLemmas
import Derived.Laws.Entries
set_option linter.all false
set_option maxRecDepth 100000
set_option maxHeartbeats 400000000
namespace Go.Proofs.YtgipmaoplfkdoaaGreatDoor
noncomputable section
open Go.RowKit
variable{H:D}{f r l0 dH lJ lU m2 c2 n2:Nat}{α β th vX yP BC FE Kk Sj α9 aGZ:Type}{rs:List ResultVar}{P:J->D->Prop}{l:AT}{E:aK}{zs:BW}{x:Int}{s:J}{g:List BW}{L':Nat->BW}{f':Nat->J}{ff:Fn}{fc:AU}{kY qW:Bool}{u2:CX}{dst:Option Tmp}{k:List fg}{Y:aE}{aj:dE->aE->D->Prop}{a b:α}{c d:β}{x2 y2:th}{x3 y3:vX}{x4 y4:yP}{x5 y5:BC}{x6 y6:FE}{x7 y7:Kk}{x8 y8:Sj}{x9 y9:α9}{x10 y10:aGZ}{L:List α}{As R':α->AU->Prop}
def fa(h:(a,c)=(b,d)):a=b:=iQ Prod.fst h
def fb(h:(a,c)=(b,d)):c=d:=iQ Prod.snd h
def hkB:Bool:=(List.range 308).all λ f=>[163,78,77,134,221,102,210,13,35,50,58].contains f||(E0.Q.get f).isNone
theorem avc:hkB=true:=κ
def eO(f:Nat)(h:(Nat.blt f 308&&![163,78,77,134,221,102,210,13,35,50,58].contains f)=true):E0.Q.get f=none:=by have k:=yZ.1 avc f (by simp only[v8,tK]at h;exact mj.2 h.1);rw[v8,ae1]at h;rw[h.2,Bool.false_or,Option.isNone_iff_eq_none]at k;exact k
def fq(f:Nat):Option Func:=E0.ft.get f
def tq(f:Nat):Option TI:=E0.tt.get f
def pq(f r:Nat):Option (List di):=(Tr.get E0.pl f).bind (λ x=>Tr.get x r)
def fe{c:Option Func}(h:fq f=c):E0.ft.get f=c:=h
def te{c:Option TI}(h:tq f=c):E0.tt.get f=c:=h
def pe{c:Option (List di)}(h:pq f r=c):(Tr.get E0.pl f).bind (λ x=>Tr.get x r)=c:=h
def ba{f:fD}{fn:Func}{c:Code}{args:AU}(u:E0.ft.get f=some fn)(q:((Nat.blt f 308&&![163,78,77,134,221,102,210,13,35,50,58].contains f),fn.body,fn.ntmps,fn.results.toList)=(true,some c,r,rs))(h:∀j:J->D->Prop,(∀{v H'},P v H'->j v H')->aD E0 [.code c] ⟨Tr.e.iM 0 args,args.length+(r-args.length),[],none,f⟩ H (qb E0 rs j)):CN f args H P:=alX (eO f (iQ Prod.fst q)) u (iQ Prod.snd q) λ j w=>h j λ h=>w h
def im{f:fD}{fn:Func}{c:Code}{args:AU}(q:E0.ft.get f=some fn)(j:((Nat.blt f 308&&![163,78,77,134,221,102,210,13,35,50,58].contains f),fn.body,fn.ntmps,fn.results.toList)=(true,some c,r,rs))(h:aD E0 [.code c] ⟨Tr.e.iM 0 args,args.length+(r-args.length),[],none,f⟩ H (qb E0 rs P)):CN f args H P:=aet (eO f (iQ Prod.fst j)) q (zj (iQ Prod.snd j)).1 (zj (zj (iQ Prod.snd j)).2).1 (zj (zj (iQ Prod.snd j)).2).2 h
def jd(h:(a,c)=(b,d)):=fa h
def jq(h:(a,c,x2)=(b,d,y2)):=fa (fb h)
def jr(h:(a,c,x2,x3)=(b,d,y2,y3)):=fa (fb (fb h))
def js(h:(a,c,x2,x3,x4)=(b,d,y2,y3,y4)):=fa (fb (fb (fb h)))
def jt(h:(a,c,x2,x3,x4,x5)=(b,d,y2,y3,y4,y5)):=fa (fb (fb (fb (fb h))))
def ju(h:(a,c,x2,x3,x4,x5,x6)=(b,d,y2,y3,y4,y5,y6)):=fa (fb (fb (fb (fb (fb h)))))
def jv(h:(a,c,x2,x3,x4,x5,x6,x7)=(b,d,y2,y3,y4,y5,y6,y7)):=fa (fb (fb (fb (fb (fb (fb h))))))
def jw(h:(a,c,x2,x3,x4,x5,x6,x7,x8)=(b,d,y2,y3,y4,y5,y6,y7,y8)):=fa (fb (fb (fb (fb (fb (fb (fb h)))))))
def jx(h:(a,c,x2,x3,x4,x5,x6,x7,x8,x9)=(b,d,y2,y3,y4,y5,y6,y7,y8,y9)):=fa (fb (fb (fb (fb (fb (fb (fb (fb h))))))))
def jy(h:(a,c,x2,x3,x4,x5,x6,x7,x8,x9,x10)=(b,d,y2,y3,y4,y5,y6,y7,y8,y9,y10)):=fa (fb (fb (fb (fb (fb (fb (fb (fb (fb h)))))))))
def jU:=eO 3 rfl
theorem B0:(E0.Q.get 163,E0.Q.get 78,E0.Q.get 77,E0.Q.get 134,E0.Q.get 221,E0.Q.get 102,E0.Q.get 210,E0.Q.get 58,fq 57,())=(some 2,some 3,some 4,some 1,some 1,some 6,some 7,some 5,some Tryz.f57,()):=κ
def ahO:=jd B0
def avb:=jq B0
def ava:=jr B0
def au7:=js B0
def au9:=jt B0
def aau:=ju B0
def ahP:=jv B0
def au6:=jw B0
def aqD:=fe (jx B0)
theorem B9:(fq 14,fq 15,fq 16,fq 17,fq 18,fq 19,fq 20,fq 21,fq 22,fq 23,())=(some Tryz.f14,some Tryz.f15,some Tryz.f16,some Tryz.f17,some Tryz.f18,some Tryz.f19,some Tryz.f20,some Tryz.f21,some Tryz.f22,some Tryz.f23,()):=κ
def aqT:=fe (jd B9)
def aq2:=fe (jq B9)
def arc:=fe (jr B9)
def ari:=fe (js B9)
def aro:=fe (jt B9)
def arw:=fe (ju B9)
def arH:=fe (jv B9)
def arS:=fe (jw B9)
def ar1:=fe (jx B9)
def ar4:=fe (jy B9)
theorem Ck:(fq 24,fq 25,fq 26,fq 28,fq 37,fq 46,fq 48,fq 55,fq 56,fq 66,())=(some Tryz.f24,some Tryz.f25,some Tryz.f26,some Tryz.f28,some Tryz.f37,some Tryz.f46,some Tryz.f48,some Tryz.f55,some Tryz.f56,some Tryz.f66,()):=κ
def asd:=fe (jd Ck)
def asp:=fe (jq Ck)
def asz:=fe (jr Ck)
def asK:=fe (js Ck)
def asL:=fe (jt Ck)
def asM:=fe (ju Ck)
def asN:=fe (jv Ck)
def asO:=fe (jw Ck)
def asP:=fe (jx Ck)
def asQ:=fe (jy Ck)
theorem Cv:(fq 67,fq 68,fq 69,fq 70,fq 71,fq 72,fq 73,fq 74,fq 75,fq 76,())=(some Tryz.f67,some Tryz.f68,some Tryz.f69,some Tryz.f70,some Tryz.f71,some Tryz.f72,some Tryz.f73,some Tryz.f74,some Tryz.f75,some Tryz.f76,()):=κ
def asR:=fe (jd Cv)
def asS:=fe (jq Cv)
def asT:=fe (jr Cv)
def asU:=fe (js Cv)
def asV:=fe (jt Cv)
def asW:=fe (ju Cv)
def asX:=fe (jv Cv)
def asY:=fe (jw Cv)
def asZ:=fe (jx Cv)
def as2:=fe (jy Cv)
theorem CG:(fq 79,fq 80,fq 81,fq 82,fq 83,fq 84,fq 85,fq 86,fq 87,fq 88,())=(some Tryz.f79,some Tryz.f80,some Tryz.f81,some Tryz.f82,some Tryz.f83,some Tryz.f84,some Tryz.f85,some Tryz.f86,some Tryz.f87,some Tryz.f88,()):=κ
def as4:=fe (jd CG)
def as5:=fe (jq CG)
def as6:=fe (jr CG)
def as7:=fe (js CG)
def as8:=fe (jt CG)
def as9:=fe (ju CG)
def ata:=fe (jv CG)
def atb:=fe (jw CG)
def atc:=fe (jx CG)
def atd:=fe (jy CG)
theorem CH:(fq 89,fq 90,fq 91,fq 92,fq 93,fq 94,fq 95,fq 96,fq 97,fq 98,())=(some Tryz.f89,some Tryz.f90,some Tryz.f91,some Tryz.f92,some Tryz.f93,some Tryz.f94,some Tryz.f95,some Tryz.f96,some Tryz.f97,some Tryz.f98,()):=κ
def ate:=fe (jd CH)
def atf:=fe (jq CH)
def atg:=fe (jr CH)
def ath:=fe (js CH)
def ati:=fe (jt CH)
def atj:=fe (ju CH)
def atk:=fe (jv CH)
def atl:=fe (jw CH)
def atm:=fe (jx CH)
def atn:=fe (jy CH)
theorem CJ:(fq 99,fq 103,fq 106,fq 108,fq 109,fq 110,fq 111,fq 117,fq 118,fq 121,())=(some Tryz.f99,some Tryz.f103,some Tryz.f106,some Tryz.f108,some Tryz.f109,some Tryz.f110,some Tryz.f111,some Tryz.f117,some Tryz.f118,some Tryz.f121,()):=κ
def ato:=fe (jd CJ)
def aqv:=fe (jq CJ)
def aqw:=fe (jr CJ)
def aqx:=fe (js CJ)
def aqy:=fe (jt CJ)
def aqz:=fe (ju CJ)
def aqA:=fe (jv CJ)
def aqB:=fe (jw CJ)
def aqC:=fe (jx CJ)
def aqE:=fe (jy CJ)
theorem CK:(fq 122,fq 125,fq 126,fq 127,fq 128,fq 129,fq 130,fq 131,fq 132,fq 135,())=(some Tryz.f122,some Tryz.f125,some Tryz.f126,some Tryz.f127,some Tryz.f128,some Tryz.f129,some Tryz.f130,some Tryz.f131,some Tryz.f132,some Tryz.f135,()):=κ
def aqF:=fe (jd CK)
def aqG:=fe (jq CK)
def aqH:=fe (jr CK)
def aqI:=fe (js CK)
def aqJ:=fe (jt CK)
def aqK:=fe (ju CK)
def aqL:=fe (jv CK)
def aqM:=fe (jw CK)
def aqN:=fe (jx CK)
def aqO:=fe (jy CK)
theorem CL:(fq 136,fq 137,fq 138,fq 139,fq 140,fq 141,fq 142,fq 143,fq 146,fq 147,())=(some Tryz.f136,some Tryz.f137,some Tryz.f138,some Tryz.f139,some Tryz.f140,some Tryz.f141,some Tryz.f142,some Tryz.f143,some Tryz.f146,some Tryz.f147,()):=κ
def aqP:=fe (jd CL)
def aqQ:=fe (jq CL)
def aqR:=fe (jr CL)
def aqS:=fe (js CL)
def aqU:=fe (jt CL)
def aqV:=fe (ju CL)
def aqW:=fe (jv CL)
def aqX:=fe (jw CL)
def aqY:=fe (jx CL)
def aqZ:=fe (jy CL)
theorem CM:(fq 148,fq 149,fq 150,fq 151,fq 152,fq 153,fq 155,fq 156,fq 157,fq 158,())=(some Tryz.f148,some Tryz.f149,some Tryz.f150,some Tryz.f151,some Tryz.f152,some Tryz.f153,some Tryz.f155,some Tryz.f156,some Tryz.f157,some Tryz.f158,()):=κ
def aq0:=fe (jd CM)
def aq1:=fe (jq CM)
def aq3:=fe (jr CM)
def aq4:=fe (js CM)
def aq5:=fe (jt CM)
def aq6:=fe (ju CM)
def aq7:=fe (jv CM)
def aq8:=fe (jw CM)
def aq9:=fe (jx CM)
def ara:=fe (jy CM)
theorem B_:(fq 159,fq 160,fq 161,fq 162,fq 164,fq 176,fq 177,fq 178,fq 179,fq 180,())=(some Tryz.f159,some Tryz.f160,some Tryz.f161,some Tryz.f162,some Tryz.f164,some Tryz.f176,some Tryz.f177,some Tryz.f178,some Tryz.f179,some Tryz.f180,()):=κ
def arb:=fe (jd B_)
def ard:=fe (jq B_)
def are:=fe (jr B_)
def arf:=fe (js B_)
def arh:=fe (jt B_)
def arj:=fe (ju B_)
def ark:=fe (jv B_)
def arl:=fe (jw B_)
def arn:=fe (jx B_)
def arp:=fe (jy B_)
theorem Cb:(fq 181,fq 186,fq 187,fq 188,fq 189,fq 190,fq 191,fq 192,fq 193,fq 194,())=(some Tryz.f181,some Tryz.f186,some Tryz.f187,some Tryz.f188,some Tryz.f189,some Tryz.f190,some Tryz.f191,some Tryz.f192,some Tryz.f193,some Tryz.f194,()):=κ
def arq:=fe (jd Cb)
def ars:=fe (jq Cb)
def art:=fe (jr Cb)
def aru:=fe (js Cb)
def arv:=fe (jt Cb)
def arx:=fe (ju Cb)
def ary:=fe (jv Cb)
def arz:=fe (jw Cb)
def arA:=fe (jx Cb)
def arB:=fe (jy Cb)
theorem Cc:(fq 195,fq 196,fq 197,fq 198,fq 199,fq 200,fq 201,fq 202,fq 203,fq 204,())=(some Tryz.f195,some Tryz.f196,some Tryz.f197,some Tryz.f198,some Tryz.f199,some Tryz.f200,some Tryz.f201,some Tryz.f202,some Tryz.f203,some Tryz.f204,()):=κ
def arC:=fe (jd Cc)
def arD:=fe (jq Cc)
def arE:=fe (jr Cc)
def arF:=fe (js Cc)
def arG:=fe (jt Cc)
def arI:=fe (ju Cc)
def arJ:=fe (jv Cc)
def arK:=fe (jw Cc)
def arL:=fe (jx Cc)
def arM:=fe (jy Cc)
theorem Cd:(fq 205,fq 206,fq 207,fq 208,fq 209,fq 211,fq 212,fq 213,fq 214,fq 215,())=(some Tryz.f205,some Tryz.f206,some Tryz.f207,some Tryz.f208,some Tryz.f209,some Tryz.f211,some Tryz.f212,some Tryz.f213,some Tryz.f214,some Tryz.f215,()):=κ
def arN:=fe (jd Cd)
def arO:=fe (jq Cd)
def arP:=fe (jr Cd)
def arQ:=fe (js Cd)
def arR:=fe (jt Cd)
def arT:=fe (ju Cd)
def arU:=fe (jv Cd)
def arV:=fe (jw Cd)
def arW:=fe (jx Cd)
def arX:=fe (jy Cd)
theorem Ce:(fq 216,fq 217,fq 218,fq 219,fq 220,fq 228,fq 230,fq 233,fq 234,fq 235,())=(some Tryz.f216,some Tryz.f217,some Tryz.f218,some Tryz.f219,some Tryz.f220,some Tryz.f228,some Tryz.f230,some Tryz.f233,some Tryz.f234,some Tryz.f235,()):=κ
def ag0:=fe (jd Ce)
def arY:=fe (jq Ce)
def arZ:=fe (jr Ce)
def ar0:=fe (js Ce)
def ar2:=fe (jt Ce)
def ar3:=fe (ju Ce)
def ar5:=fe (jv Ce)
def ar6:=fe (jw Ce)
def ar7:=fe (jx Ce)
def ar8:=fe (jy Ce)
theorem Cf:(fq 236,fq 237,fq 238,fq 239,fq 240,fq 241,fq 242,fq 243,fq 244,fq 245,())=(some Tryz.f236,some Tryz.f237,some Tryz.f238,some Tryz.f239,some Tryz.f240,some Tryz.f241,some Tryz.f242,some Tryz.f243,some Tryz.f244,some Tryz.f245,()):=κ
def ar9:=fe (jd Cf)
def asa:=fe (jq Cf)
def asb:=fe (jr Cf)
def asc:=fe (js Cf)
def ase:=fe (jt Cf)
def asf:=fe (ju Cf)
def asg:=fe (jv Cf)
def ash:=fe (jw Cf)
def asi:=fe (jx Cf)
def asj:=fe (jy Cf)
theorem Cg:(fq 246,fq 247,fq 248,fq 249,fq 250,fq 251,fq 252,fq 253,fq 254,fq 255,())=(some Tryz.f246,some Tryz.f247,some Tryz.f248,some Tryz.f249,some Tryz.f250,some Tryz.f251,some Tryz.f252,some Tryz.f253,some Tryz.f254,some Tryz.f255,()):=κ
def asl:=fe (jd Cg)
def asm:=fe (jq Cg)
def asn:=fe (jr Cg)
def aso:=fe (js Cg)
def asq:=fe (jt Cg)
def asr:=fe (ju Cg)
def ass:=fe (jv Cg)
def ast:=fe (jw Cg)
def asu:=fe (jx Cg)
def asv:=fe (jy Cg)
theorem Ch:(fq 256,fq 257,fq 259,fq 260,fq 261,fq 263,fq 264,fq 265,fq 266,fq 267,())=(some Tryz.f256,some Tryz.f257,some Tryz.f259,some Tryz.f260,some Tryz.f261,some Tryz.f263,some Tryz.f264,some Tryz.f265,some Tryz.f266,some Tryz.f267,()):=κ
def asw:=fe (jd Ch)
def asx:=fe (jq Ch)
def asy:=fe (jr Ch)
def asA:=fe (js Ch)
def asB:=fe (jt Ch)
def asC:=fe (ju Ch)
def asD:=fe (jv Ch)
def asE:=fe (jw Ch)
def asF:=fe (jx Ch)
def asG:=fe (jy Ch)
theorem Ci:(fq 277,fq 278,fq 279,tq 1,tq 3,tq 4,tq 5,tq 9,tq 22,tq 24,())=(some Tryz.f277,some Tryz.f278,some Tryz.f279,some ⟨(.func #[] #[] false),1,8,[(.lit .nilFunc)]⟩,some ⟨(.int .i64),1,8,[(.lit (.int .i64 0))]⟩,some ⟨.bool,1,1,[(.lit (.bool false))]⟩,some ⟨(.int .u8),1,1,[(.lit (.int .u8 0))]⟩,some ⟨.string,1,16,[(.lit (.string ByteArray.empty))]⟩,some ⟨(.slice 63),1,24,[(.lit (.slice none 0 0))]⟩,some ⟨(.struct #[⟨ "Funcs",22,0,false,"","",0⟩]),1,24,[(.lit (.slice none 0 0))]⟩,()):=κ
def asH:=fe (jd Ci)
def asI:=fe (jq Ci)
def asJ:=fe (jr Ci)
def tt1:=te (js Ci)
def qF:=te (jt Ci)
def tt4:=te (ju Ci)
def tt5:=te (jv Ci)
def DH:=te (jw Ci)
def nf:=te (jx Ci)
def aF1:=te (jy Ci)
theorem Cj:(tq 27,tq 31,tq 33,tq 34,tq 38,tq 41,tq 48,tq 50,tq 51,tq 52,())=(some ⟨(.pointer 104),1,8,[(.lit (.pointer none))]⟩,some ⟨(.pointer 116),1,8,[(.lit (.pointer none))]⟩,some ⟨(.slice 38),1,24,[(.lit (.slice none 0 0))]⟩,some ⟨(.slice 50),1,24,[(.lit (.slice none 0 0))]⟩,some ⟨(.struct #[⟨ "Kind",5,0,false,"","",0⟩,⟨ "A",3,1,false,"","",8⟩,⟨ "B",3,2,false,"","",16⟩,⟨ "K",3,3,false,"","",24⟩]),4,32,[(.lit (.int .u8 0)),(.lit (.int .i64 0)),(.lit (.int .i64 0)),(.lit (.int .i64 0))]⟩,some ⟨(.slice 3),1,24,[(.lit (.slice none 0 0))]⟩,some ⟨(.struct #[⟨ "Func",3,0,false,"","",0⟩,⟨ "Block",3,1,false,"","",8⟩,⟨ "At",3,2,false,"","",16⟩]),3,24,[(.lit (.int .i64 0)),(.lit (.int .i64 0)),(.lit (.int .i64 0))]⟩,some ⟨(.struct #[⟨ "At",48,0,false,"","",0⟩,⟨ "Args",41,3,false,"","",24⟩,⟨ "Dst",3,4,false,"","",48⟩]),5,56,[(.lit (.int .i64 0)),(.lit (.int .i64 0)),(.lit (.int .i64 0)),(.lit (.slice none 0 0)),(.lit (.int .i64 0))]⟩,some ⟨(.int .u8),1,1,[(.lit (.int .u8 0))]⟩,some ⟨(.slice 9),1,24,[(.lit (.slice none 0 0))]⟩,()):=κ
def aF7:=te (jd Cj)
def aGa:=te (jq Cj)
def Fz:=te (jr Cj)
def XC:=te (js Cj)
def R_:=te (jt Cj)
def bK:=te (ju Cj)
def aef:=te (jv Cj)
def aln:=te (jw Cj)
def aGb:=te (jx Cj)
def fw:=te (jy Cj)
theorem Cl:(tq 54,tq 58,tq 60,tq 61,tq 63,tq 70,tq 72,tq 76,tq 90,tq 92,())=(some ⟨(.struct #[⟨ "Op",51,0,false,"","",0⟩,⟨ "Dst",9,1,false,"","",8⟩,⟨ "A",9,2,false,"","",24⟩,⟨ "B",9,3,false,"","",40⟩,⟨ "N",3,4,false,"","",56⟩,⟨ "Fn",9,5,false,"","",64⟩,⟨ "Args",52,6,false,"","",80⟩,⟨ "Labels",52,7,false,"","",104⟩]),8,128,[(.lit (.int .u8 0)),(.lit (.string ByteArray.empty)),(.lit (.string ByteArray.empty)),(.lit (.string ByteArray.empty)),(.lit (.int .i64 0)),(.lit (.string ByteArray.empty)),(.lit (.slice none 0 0)),(.lit (.slice none 0 0))]⟩,some ⟨(.slice 54),1,24,[(.lit (.slice none 0 0))]⟩,some ⟨(.struct #[⟨ "Label",9,0,false,"","",0⟩,⟨ "Code",58,1,false,"","",16⟩]),2,40,[(.lit (.string ByteArray.empty)),(.lit (.slice none 0 0))]⟩,some ⟨(.slice 60),1,24,[(.lit (.slice none 0 0))]⟩,some ⟨(.struct #[⟨ "Name",9,0,false,"","",0⟩,⟨ "Params",52,1,false,"","",16⟩,⟨ "Blocks",61,2,false,"","",40⟩]),3,64,[(.lit (.string ByteArray.empty)),(.lit (.slice none 0 0)),(.lit (.slice none 0 0))]⟩,some ⟨(.slice 48),1,24,[(.lit (.slice none 0 0))]⟩,some ⟨(.slice 4),1,24,[(.lit (.slice none 0 0))]⟩,some ⟨(.slice 41),1,24,[(.lit (.slice none 0 0))]⟩,some ⟨(.int .u8),1,1,[(.lit (.int .u8 0))]⟩,some ⟨(.struct #[⟨ "Rule",90,0,false,"","",0⟩,⟨ "At",48,1,false,"","",8⟩]),4,32,[(.lit (.int .u8 0)),(.lit (.int .i64 0)),(.lit (.int .i64 0)),(.lit (.int .i64 0))]⟩,()):=κ
def alo:=te (jd Cl)
def nT:=te (jq Cl)
def alp:=te (jr Cl)
def nh:=te (js Cl)
def alq:=te (jt Cl)
def XD:=te (ju Cl)
def alr:=te (jv Cl)
def yO:=te (jw Cl)
def aGc:=te (jx Cl)
def aGd:=te (jy Cl)
theorem Cm:(tq 95,tq 98,tq 99,tq 101,tq 102,tq 104,tq 105,tq 111,tq 112,tq 113,())=(some ⟨(.pointer 186),1,8,[(.lit (.pointer none))]⟩,some ⟨(.struct #[⟨ "f",3,0,false,"","gnomon/sites",0⟩,⟨ "name",9,1,false,"","gnomon/sites",8⟩]),2,24,[(.lit (.int .i64 0)),(.lit (.string ByteArray.empty))]⟩,some ⟨(.pointer 189),1,8,[(.lit (.pointer none))]⟩,some ⟨(.map 48 3),1,8,[(.lit (.map none))]⟩,some ⟨(.slice 111),1,24,[(.lit (.slice none 0 0))]⟩,some ⟨(.struct #[⟨ "p",24,0,false,"","gnomon/sites",0⟩,⟨ "vars",95,1,false,"","gnomon/sites",24⟩,⟨ "funcs",99,2,false,"","gnomon/sites",32⟩,⟨ "sites",102,3,false,"","gnomon/sites",40⟩,⟨ "by",101,4,false,"","gnomon/sites",64⟩,⟨ "of",41,5,false,"","gnomon/sites",72⟩,⟨ "points",70,6,false,"","gnomon/sites",96⟩]),7,120,[(.lit (.slice none 0 0)),(.lit (.pointer none)),(.lit (.pointer none)),(.lit (.slice none 0 0)),(.lit (.map none)),(.lit (.slice none 0 0)),(.lit (.slice none 0 0))]⟩,some ⟨(.func #[9] #[3] false),1,8,[(.lit .nilFunc)]⟩,some ⟨(.struct #[⟨ "at",48,0,false,"","gnomon/sites",0⟩,⟨ "base",3,3,false,"","gnomon/sites",24⟩,⟨ "n",3,4,false,"","gnomon/sites",32⟩]),5,40,[(.lit (.int .i64 0)),(.lit (.int .i64 0)),(.lit (.int .i64 0)),(.lit (.int .i64 0)),(.lit (.int .i64 0))]⟩,some ⟨(.map 3 33),1,8,[(.lit (.map none))]⟩,some ⟨(.map 3 4),1,8,[(.lit (.map none))]⟩,()):=κ
def aGe:=te (jd Cm)
def als:=te (jq Cm)
def aGf:=te (jr Cm)
def aFC:=te (js Cm)
def NZ:=te (jt Cm)
def aFD:=te (ju Cm)
def aFE:=te (jv Cm)
def alg:=te (jw Cm)
def aFF:=te (jx Cm)
def aed:=te (jy Cm)
theorem Cn:(tq 114,tq 116,tq 117,tq 118,tq 121,tq 134,tq 135,tq 149,tq 169,tq 170,())=(some ⟨(.slice 117),1,24,[(.lit (.slice none 0 0))]⟩,some ⟨(.struct #[⟨ "m",27,0,false,"","gnomon/solve",0⟩,⟨ "nodes",114,1,false,"","gnomon/solve",8⟩,⟨ "rels",112,2,false,"","gnomon/solve",32⟩,⟨ "dials",34,3,false,"","gnomon/solve",40⟩,⟨ "wait",113,4,false,"","gnomon/solve",64⟩,⟨ "first",41,5,false,"","gnomon/solve",72⟩,⟨ "steps",3,6,false,"","gnomon/solve",96⟩]),7,104,[(.lit (.pointer none)),(.lit (.slice none 0 0)),(.lit (.map none)),(.lit (.slice none 0 0)),(.lit (.map none)),(.lit (.slice none 0 0)),(.lit (.int .i64 0))]⟩,some ⟨(.pointer 121),1,8,[(.lit (.pointer none))]⟩,some ⟨(.pointer 193),1,8,[(.lit (.pointer none))]⟩,some ⟨(.struct #[⟨ "Set",118,0,true,"","",0⟩,⟨ "to",118,1,false,"","gnomon/solve",8⟩]),2,16,[(.lit (.pointer none)),(.lit (.pointer none))]⟩,some ⟨(.struct #[⟨ "m",27,0,false,"","gnomon/rule",0⟩,⟨ "at",48,1,false,"","gnomon/rule",8⟩,⟨ "i",54,4,false,"","gnomon/rule",32⟩,⟨ "l",33,12,false,"","gnomon/rule",160⟩,⟨ "d",34,13,false,"","gnomon/rule",184⟩]),14,208,[(.lit (.pointer none)),(.lit (.int .i64 0)),(.lit (.int .i64 0)),(.lit (.int .i64 0)),(.lit (.int .u8 0)),(.lit (.string ByteArray.empty)),(.lit (.string ByteArray.empty)),(.lit (.string ByteArray.empty)),(.lit (.int .i64 0)),(.lit (.string ByteArray.empty)),(.lit (.slice none 0 0)),(.lit (.slice none 0 0)),(.lit (.slice none 0 0)),(.lit (.slice none 0 0))]⟩,some ⟨(.map 51 1),1,8,[(.lit (.map none))]⟩,some ⟨(.struct #[⟨ "Succ",76,0,false,"","",0⟩,⟨ "Pred",76,1,false,"","",24⟩]),2,48,[(.lit (.slice none 0 0)),(.lit (.slice none 0 0))]⟩,some ⟨(.slice 170),1,24,[(.lit (.slice none 0 0))]⟩,some ⟨(.pointer 229),1,8,[(.lit (.pointer none))]⟩,()):=κ
def aee:=te (jd Cn)
def aFG:=te (jq Cn)
def alh:=te (jr Cn)
def aFH:=te (js Cn)
def aFI:=te (jt Cn)
def aFJ:=te (ju Cn)
def aFK:=te (jv Cn)
def aFL:=te (jw Cn)
def R9:=te (jx Cn)
def ali:=te (jy Cn)
theorem Co:(tq 183,tq 184,tq 186,tq 187,tq 189,tq 190,tq 191,tq 193,tq 194,tq 199,())=(some ⟨(.slice 98),1,24,[(.lit (.slice none 0 0))]⟩,some ⟨(.map 98 3),1,8,[(.lit (.map none))]⟩,some ⟨(.struct #[⟨ "by",184,0,false,"","gnomon/ids",0⟩,⟨ "l",183,1,false,"","gnomon/ids",8⟩]),2,32,[(.lit (.map none)),(.lit (.slice none 0 0))]⟩,some ⟨(.map 9 3),1,8,[(.lit (.map none))]⟩,some ⟨(.struct #[⟨ "by",187,0,false,"","gnomon/ids",0⟩,⟨ "l",52,1,false,"","gnomon/ids",8⟩]),2,32,[(.lit (.map none)),(.lit (.slice none 0 0))]⟩,some ⟨(.func #[48,54] #[4] false),1,8,[(.lit .nilFunc)]⟩,some ⟨(.map 3 199),1,8,[(.lit (.map none))]⟩,some ⟨(.struct #[⟨ "words",191,0,false,"","gnomon/bits",0⟩,⟨ "n",3,1,false,"","gnomon/bits",8⟩]),2,16,[(.lit (.map none)),(.lit (.int .i64 0))]⟩,some ⟨(.map 3 3),1,8,[(.lit (.map none))]⟩,some ⟨(.int .u64),1,8,[(.lit (.int .u64 0))]⟩,()):=κ
def J9:=te (jd Co)
def aFM:=te (jq Co)
def aFN:=te (jr Co)
def aFO:=te (js Co)
def aFP:=te (jt Co)
def aFQ:=te (ju Co)
def aFR:=te (jv Co)
def aFS:=te (jw Co)
def alj:=te (jx Co)
def aFT:=te (jy Co)
theorem Cp:(tq 200,tq 212,tq 214,tq 216,tq 227,tq 229,tq 231,tq 236,tq 250,tq 252,())=(some ⟨(.int .u64),1,8,[(.lit (.int .u64 0))]⟩,some ⟨(.pointer 216),1,8,[(.lit (.pointer none))]⟩,some ⟨(.slice 41),1,24,[(.lit (.slice none 0 0))]⟩,some ⟨(.struct #[⟨ "rows",214,0,true,"","gnomon/scc",0⟩,⟨ "when",41,1,false,"","gnomon/scc",24⟩,⟨ "low",41,2,false,"","gnomon/scc",48⟩,⟨ "wait",41,3,false,"","gnomon/scc",72⟩,⟨ "comp",41,4,false,"","gnomon/scc",96⟩,⟨ "clock",3,5,false,"","gnomon/scc",120⟩]),6,128,[(.lit (.slice none 0 0)),(.lit (.slice none 0 0)),(.lit (.slice none 0 0)),(.lit (.slice none 0 0)),(.lit (.slice none 0 0)),(.lit (.int .i64 0))]⟩,some ⟨(.map 9 231),1,8,[(.lit (.map none))]⟩,some ⟨(.struct #[⟨ "Func",63,0,true,"","",0⟩,⟨ "flow",149,3,false,"","gnomon/sound",64⟩,⟨ "tree",41,5,false,"","gnomon/sound",112⟩,⟨ "defs",227,6,false,"","gnomon/sound",136⟩]),7,144,[(.lit (.string ByteArray.empty)),(.lit (.slice none 0 0)),(.lit (.slice none 0 0)),(.lit (.slice none 0 0)),(.lit (.slice none 0 0)),(.lit (.slice none 0 0)),(.lit (.map none))]⟩,some ⟨(.struct #[⟨ "block",3,0,false,"","gnomon/sound",0⟩,⟨ "at",3,1,false,"","gnomon/sound",8⟩]),2,16,[(.lit (.int .i64 0)),(.lit (.int .i64 0))]⟩,some ⟨(.array 64 5),64,64,(List.replicate 64 (.lit (.int .u8 0)))⟩,some ⟨(.slice 252),1,24,[(.lit (.slice none 0 0))]⟩,some ⟨(.struct #[⟨ "node",3,0,false,"","gnomon/scc",0⟩,⟨ "edge",3,1,false,"","gnomon/scc",8⟩]),2,16,[(.lit (.int .i64 0)),(.lit (.int .i64 0))]⟩,()):=κ
def aFU:=te (jd Cp)
def aFV:=te (jq Cp)
def alk:=te (jr Cp)
def aFW:=te (js Cp)
def aFX:=te (jt Cp)
def aFY:=te (ju Cp)
def aFZ:=te (jv Cp)
def aF0:=te (jw Cp)
def Fy:=te (jx Cp)
def alm:=te (jy Cp)
theorem Cq:(tq 255,tq 256,tq 259,tq 260,tq 261,tq 290,tq 292,E0.ky.get 3,E0.ky.get 9,E0.ky.get 48,())=(some ⟨(.pointer 259),1,8,[(.lit (.pointer none))]⟩,some ⟨(.map 51 290),1,8,[(.lit (.map none))]⟩,some ⟨(.struct #[⟨ "p",24,0,false,"","gnomon/names",0⟩,⟨ "shapes",256,1,false,"","gnomon/names",24⟩]),2,32,[(.lit (.slice none 0 0)),(.lit (.map none))]⟩,some ⟨(.func #[] #[48,4] false),1,8,[(.lit .nilFunc)]⟩,some ⟨(.map 90 260),1,8,[(.lit (.map none))]⟩,some ⟨(.struct #[⟨ "dst",4,0,false,"","gnomon/names",0⟩,⟨ "a",4,1,false,"","gnomon/names",1⟩,⟨ "b",4,2,false,"","gnomon/names",2⟩,⟨ "n",4,3,false,"","gnomon/names",3⟩,⟨ "fn",4,4,false,"","gnomon/names",4⟩,⟨ "args",4,5,false,"","gnomon/names",5⟩,⟨ "labels",4,6,false,"","gnomon/names",6⟩]),7,7,[(.lit (.bool false)),(.lit (.bool false)),(.lit (.bool false)),(.lit (.bool false)),(.lit (.bool false)),(.lit (.bool false)),(.lit (.bool false))]⟩,some ⟨(.map 9 4),1,8,[(.lit (.map none))]⟩,some (.one (.i .i64)),some (.one (.s)),some (.agg [.i .i64,.i .i64,.i .i64]),()):=κ
def aF2:=te (jd Cq)
def aF3:=te (jq Cq)
def aF4:=te (jr Cq)
def aF5:=te (js Cq)
def aF6:=te (jt Cq)
def aF8:=te (ju Cq)
def aF9:=te (jv Cq)
def ky3:=jw Cq
def ky9:=jx Cq
def axk:=jy Cq
theorem Cr:(E0.ky.get 51,E0.ky.get 90,E0.ky.get 92,E0.ky.get 98,())=(some (.one (.i .u8)),some (.one (.i .u8)),some (.agg [.i .u8,.i .i64,.i .i64,.i .i64]),some (.agg [.i .i64,.s]),()):=κ
def axl:=jd Cr
def axm:=jq Cr
def axn:=jr Cr
def axo:=js Cr
theorem Cs:(pq 14 7,pq 14 8,pq 14 11,pq 14 13,pq 14 18,pq 14 20,pq 14 22,pq 14 23,pq 14 26,pq 15 7,())=(some ab3,some ab4,some abW,some abX,some abY,some abZ,some ab0,some ab1,some ab2,some aci,()):=κ
def aAW:=pe (jd Cs)
def aAX:=pe (jq Cs)
def aAP:=pe (jr Cs)
def aAQ:=pe (js Cs)
def aAR:=pe (jt Cs)
def aAS:=pe (ju Cs)
def aAT:=pe (jv Cs)
def aAU:=pe (jw Cs)
def aAV:=pe (jx Cs)
def aBa:=pe (jy Cs)
theorem Ct:(pq 15 16,pq 15 18,pq 15 23,pq 16 12,pq 22 3,pq 23 3,pq 23 7,pq 23 10,pq 23 15,pq 25 4,())=(some acf,some acg,some ach,some acj,some acy,some acB,some acC,some acz,some acA,some acI,()):=κ
def aA7:=pe (jd Ct)
def aA8:=pe (jq Ct)
def aA9:=pe (jr Ct)
def aBb:=pe (js Ct)
def aBo:=pe (jt Ct)
def aBr:=pe (ju Ct)
def aBs:=pe (jv Ct)
def aBp:=pe (jw Ct)
def aBq:=pe (jx Ct)
def aBy:=pe (jy Ct)
theorem Cu:(pq 26 3,pq 26 4,pq 26 6,pq 66 5,pq 66 9,pq 67 6,pq 67 15,pq 71 3,pq 71 6,pq 71 7,())=(some acJ,some acK,some acL,some acS,some acT,some acV,some acU,some acW,some acX,some acY,()):=κ
def aBz:=pe (jd Cu)
def aBA:=pe (jq Cu)
def aBB:=pe (jr Cu)
def aBI:=pe (js Cu)
def aBJ:=pe (jt Cu)
def aBL:=pe (ju Cu)
def aBK:=pe (jv Cu)
def aBM:=pe (jw Cu)
def aBN:=pe (jx Cu)
def aBO:=pe (jy Cu)
theorem Cx:(pq 75 1,pq 76 8,pq 76 22,pq 76 23,pq 76 24,pq 76 32,pq 76 33,pq 80 7,pq 82 10,pq 82 12,())=(some acZ,some ac5,some ac0,some ac1,some ac2,some ac3,some ac4,some ac6,some ac7,some ac8,()):=κ
def aBP:=pe (jd Cx)
def aBV:=pe (jq Cx)
def aBQ:=pe (jr Cx)
def aBR:=pe (js Cx)
def aBS:=pe (jt Cx)
def aBT:=pe (ju Cx)
def aBU:=pe (jv Cx)
def aBW:=pe (jw Cx)
def aBX:=pe (jx Cx)
def aBY:=pe (jy Cx)
theorem Cy:(pq 82 14,pq 83 0,pq 84 0,pq 84 1,pq 85 0,pq 87 1,pq 89 0,pq 90 0,pq 91 0,pq 91 4,())=(some ac9,some ada,some adb,some ade,some adf,some adg,some adh,some adi,some adj,some adk,()):=κ
def aBZ:=pe (jd Cy)
def aB0:=pe (jq Cy)
def aB1:=pe (jr Cy)
def aB2:=pe (js Cy)
def aB3:=pe (jt Cy)
def aB4:=pe (ju Cy)
def aB5:=pe (jv Cy)
def aB6:=pe (jw Cy)
def aB7:=pe (jx Cy)
def aB8:=pe (jy Cy)
theorem Cz:(pq 91 8,pq 92 1,pq 97 1,pq 103 6,pq 103 11,pq 111 3,pq 117 3,pq 118 7,pq 122 3,pq 126 2,())=(some adl,some adm,some adn,some abL,some abK,some abM,some abN,some abO,some abP,some abR,()):=κ
def aB9:=pe (jd Cz)
def aCa:=pe (jq Cz)
def aCb:=pe (jr Cz)
def aAE:=pe (js Cz)
def aAD:=pe (jt Cz)
def aAF:=pe (ju Cz)
def aAG:=pe (jv Cz)
def aAH:=pe (jw Cz)
def aAI:=pe (jx Cz)
def aAK:=pe (jy Cz)
theorem CC:(pq 126 14,pq 138 3,pq 138 6,pq 139 6,pq 140 1,pq 150 9,pq 151 7,pq 151 8,pq 151 13,pq 151 17,())=(some abQ,some abS,some abT,some abU,some abV,some ab5,some aca,some acb,some ab6,some ab7,()):=κ
def aAJ:=pe (jd CC)
def aAL:=pe (jq CC)
def aAM:=pe (jr CC)
def aAN:=pe (js CC)
def aAO:=pe (jt CC)
def aAY:=pe (ju CC)
def aA3:=pe (jv CC)
def aA4:=pe (jw CC)
def aAZ:=pe (jx CC)
def aA0:=pe (jy CC)
theorem CD:(pq 151 18,pq 151 25,pq 153 0,pq 155 1,pq 180 1,pq 180 2,pq 187 1,pq 188 14,pq 196 12,pq 203 14,())=(some ab8,some ab9,some acd,some ace,some ack,some acm,some acn,some aco,some acp,some acq,()):=κ
def aA1:=pe (jd CD)
def aA2:=pe (jq CD)
def aA5:=pe (jr CD)
def aA6:=pe (js CD)
def aBc:=pe (jt CD)
def aBd:=pe (ju CD)
def aBe:=pe (jv CD)
def aBf:=pe (jw CD)
def aBg:=pe (jx CD)
def aBh:=pe (jy CD)
theorem CE:(pq 204 2,pq 204 4,pq 206 1,pq 211 6,pq 215 6,pq 220 2,pq 243 1,pq 245 1,pq 249 1,pq 253 2,())=(some acr,some acs,some acu,some acv,some acw,some acx,some acD,some acE,some acF,some acG,()):=κ
def aBi:=pe (jd CE)
def aBj:=pe (jq CE)
def aBk:=pe (jr CE)
def aBl:=pe (js CE)
def aBm:=pe (jt CE)
def aBn:=pe (ju CE)
def aBt:=pe (jv CE)
def aBu:=pe (jw CE)
def aBv:=pe (jx CE)
def aBw:=pe (jy CE)
theorem aqd:(pq 256 3,())=(some acH,()):=κ
def aBx:=pe (jd aqd)
attribute [simp] tt1 qF tt4 tt5 DH nf aF1 aF7 aGa Fz XC R_ bK aef aln aGb fw alo nT alp nh alq XD alr yO aGc aGd aGe als aGf aFC NZ aFD aFE alg aFF aed aee aFG alh aFH aFI aFJ aFK aFL R9 ali J9 aFM aFN aFO aFP aFQ aFR aFS alj aFT aFU aFV alk aFW aFX aFY aFZ aF0 Fy alm aF2 aF3 aF4 aF5 aF6 aF8 aF9 ky3 ky9 axk axl axm axn axo aAW aAX aAP aAQ aAR aAS aAT aAU aAV aBa aA7 aA8 aA9 aBb aBo aBr aBs aBp aBq aBy aBz aBA aBB aBI aBJ aBL aBK aBM aBN aBO aBP aBV aBQ aBR aBS aBT aBU aBW aBX aBY aBZ aB0 aB1 aB2 aB3 aB4 aB5 aB6 aB7 aB8 aB9 aCa aCb aAE aAD aAF aAG aAH aAI aAK aAJ aAL aAM aAN aAO aAY aA3 aA4 aAZ aA0 aA1 aA2 aA5 aA6 aBc aBd aBe aBf aBg aBh aBi aBj aBk aBl aBm aBn aBt aBu aBv aBw aBx
section
variable{α:Type}{R:α->AU->Prop}{H:D}{sv fv:J}{L:List α}
def DN(f:fD)(es:Nat):Prop:=∀{α:Type} {R:α->AU->Prop} {H:D} {sv fv:J} {L:List α} (aJ:Nat->D->Prop) (bZ:Nat->D->Prop),(∀i K,aJ i K->aW K es R sv L)->aJ 0 H->
    (∀i (A:i<L.length) M K,aJ i K->R L[i] M->CF E0 fv [.agg M] K λ v T=>∃b,v=.lit (.bool b)/\(b=true->bZ i T)/\(b=false->aJ (i+1) T))->
    CN f [sv,fv] H λ v H'=>(∃i,i<L.length/\v=ae i/\bZ i H')\/(v=ae (-1)/\aJ L.length H')
def DO(f:fD):Prop:=∀{α:Type} {R:α->AU->Prop} {H:D} {sv fv:J} {L:List α} (aJ:Nat->D->Prop) (bZ:Nat->D->Prop),(∀i K,aJ i K->aW K 1 R sv L)->aJ 0 H->
    (∀i (A:i<L.length) c K,aJ i K->R L[i] [c]->CF E0 fv [c] K λ v T=>∃b,v=.lit (.bool b)/\(b=true->bZ i T)/\(b=false->aJ (i+1) T))->
    CN f [sv,fv] H λ v H'=>(∃i,i<L.length/\v=ae i/\bZ i H')\/(v=ae (-1)/\aJ L.length H')
def VW:DN 213 2/\DN 264 3/\DN 267 8:=by
 refine⟨?_,?_,?_⟩<;>intro α R H sv fv L aJ bZ j u G;all_goals
  first
   |refine im arV rfl ?_|refine im asD rfl ?_|refine im asG rfl ?_
  simp[(j _ _ u).aN nh,(j _ _ u).aN nf,(j _ _ u).aN nT];refine CA (λ i sl K=>aJ i K/\AV sl 0 sv/\AV sl 1 fv/\AV sl 7 (ae L.length)/\AV sl 8 (ae i)/\i<=L.length) L.length ⟨u,ζ⟩ ?_
  rintro b kk-Q i sl K ⟨q,C,B,z,w,A⟩ D;by_cases h:i<L.length
  .obtain⟨id,ah,ax,ex,n,t,ro,M,rfl,F,N,J,I⟩:=(j _ _ q).at_ h;have:=(j _ _ q).cP;simp[C,B,z,w,h,F.get,bY J,N];refine vM (G i h _ K q I) ?_;rintro v T ⟨c,rfl,O,U⟩;cases c with
   |true=>simp;exact⟨i,h,rfl,O rfl⟩
   |false=>
    simp[w,bq (aT h this)]
    exact D ω ⟨U rfl,by simp[C,B,z,dz h]⟩
  .obtain rfl:i=L.length:=ω
   subst Q;simp[z,w,q]
def QS:DO 259/\DO 228:=by
 refine⟨?_,?_⟩<;>intro α R H sv fv L aJ bZ j u G;all_goals
  first
   |refine im asy rfl ?_|refine im ar3 rfl ?_
  simp[(j _ _ u).aN fw,(j _ _ u).aN bK];refine CA (λ i sl K=>aJ i K/\AV sl 0 sv/\AV sl 1 fv/\AV sl 7 (ae L.length)/\AV sl 8 (ae i)/\i<=L.length) L.length ⟨u,ζ⟩ ?_
  rintro b kk-Q i sl K ⟨q,C,B,z,w,A⟩ D;by_cases h:i<L.length
  .obtain⟨id,ah,ax,ex,n,t,ro,c,rfl,F,N,J,I⟩:=(j _ _ q).gL h;have:=(j _ _ q).cP;simp[C,B,z,w,h,F.get,J,N];refine vM (G i h _ K q I) ?_;rintro v T ⟨c,rfl,O,U⟩;cases c with
   |true=>simp;exact⟨i,h,rfl,O rfl⟩
   |false=>
    simp[w,bq (aT h this)]
    exact D ω ⟨U rfl,by simp[C,B,z,dz h]⟩
  .obtain rfl:i=L.length:=ω
   subst Q;simp[z,w,q]
theorem DN.p{f:fD}{es:Nat}(Z:DN f es){p:α->Bool}(C:aW H es R sv L)(D:∀x∈L,∀M K,I [] H K->R x M->CF E0 fv [.agg M] K λ v T=>v=.lit (.bool (p x))/\I [] K T):CN f [sv,fv] H λ v H'=>v=ae (idxOf p L)/\I [] H H':=by
 refine(Z (λ i K=>I [] H K/\∀j (h:j<L.length),j<i->p L[j]=false) (λ i K=>I [] H K/\∃h:i<L.length,p L[i]=true/\∀j (h:j<L.length),j<i->p L[j]=false) (λ i K G=>C.W G.1 λ _ _ _ h=>h) ⟨aw,λ j _ h=>ω⟩ ?_).mono ?_
 .rintro i A M K ⟨q,u⟩ F
  refine(D _ (cG A) _ K q F).mono ?_;rintro v T ⟨rfl,z⟩;refine⟨_,rfl,λ w=>⟨q.trans z,A,w,u⟩,λ w=>⟨q.trans z,λ j h B=>?_⟩⟩;rcases pH.1 B with O|rfl
  .exact u j h O
  .exact w
 .rintro v H' (⟨i,A,rfl,q,_,w,u⟩|⟨rfl,q,u⟩)
  .exact⟨by rw[MV A w u],q⟩
  .exact⟨by rw[QT λ j h=>u j h h],q⟩
theorem DO.p{f:fD}(Z:DO f){p:α->Bool}(C:aW H 1 R sv L)(D:∀x∈L,∀c K,I [] H K->R x [c]->CF E0 fv [c] K λ v T=>v=.lit (.bool (p x))/\I [] K T):CN f [sv,fv] H λ v H'=>v=ae (idxOf p L)/\I [] H H':=by
 refine(Z (λ i K=>I [] H K/\∀j (h:j<L.length),j<i->p L[j]=false) (λ i K=>I [] H K/\∃h:i<L.length,p L[i]=true/\∀j (h:j<L.length),j<i->p L[j]=false) (λ i K G=>C.W G.1 λ _ _ _ h=>h) ⟨aw,λ j _ h=>ω⟩ ?_).mono ?_
 .rintro i A c K ⟨q,u⟩ F
  refine(D _ (cG A) _ K q F).mono ?_;rintro v T ⟨rfl,z⟩;refine⟨_,rfl,λ w=>⟨q.trans z,A,w,u⟩,λ w=>⟨q.trans z,λ j h B=>?_⟩⟩;rcases pH.1 B with O|rfl
  .exact u j h O
  .exact w
 .rintro v H' (⟨i,A,rfl,q,_,w,u⟩|⟨rfl,q,u⟩)
  .exact⟨by rw[MV A w u],q⟩
  .exact⟨by rw[QT λ j h=>u j h h],q⟩
def awF:DO 259:=QS.1
def aoZ{p:α->Bool}(h:aW H 2 R sv L)(q:∀x∈L,∀M K,I [] H K->R x M->CF E0 fv [.agg M] K λ v T=>v=.lit (.bool (p x))/\I [] K T):CN 250 [sv,fv] H λ v H'=>v=.lit (.bool (L.any p))/\I [] H H':=by
 refine im asq rfl ?_
 simp
 refine CW (DN.p VW.1 h q) ?_
 rintro v H' ⟨rfl,j⟩
 have e:decide (0<=idxOf p L)=L.any p:=by rw[qH,rK];exact VZ
 simp[j,e]
def ao0{p:α->Bool}(h:aW H 8 R sv L)(q:∀x∈L,∀M K,I [] H K->R x M->CF E0 fv [.agg M] K λ v T=>v=.lit (.bool (p x))/\I [] K T):CN 246 [sv,fv] H λ v H'=>v=.lit (.bool (L.any p))/\I [] H H':=by
 refine im asl rfl ?_
 simp
 refine CW (DN.p VW.2.2 h q) ?_
 rintro v H' ⟨rfl,j⟩
 have e:decide (0<=idxOf p L)=L.any p:=by rw[qH,rK];exact VZ
 simp[j,e]
def Tz{p:α->Bool}(h:aW H 1 R sv L)(q:∀x∈L,∀c K,I [] H K->R x [c]->CF E0 fv [c] K λ v T=>v=.lit (.bool (p x))/\I [] K T):CN 216 [sv,fv] H λ v H'=>v=.lit (.bool (L.any p))/\I [] H H':=by
 refine im ag0 rfl ?_
 simp
 refine CW (DO.p QS.1 h q) ?_
 rintro v H' ⟨rfl,j⟩
 have e:decide (0<=idxOf p L)=L.any p:=by rw[qH,rK];exact VZ
 simp[j,e]
end
section
variable{E:aK}{k:List fg}{Y:aE}{H:D}{aj:dE->aE->D->Prop}{all:List Oper}
def dF(h:∀i∈l,∃o w,all[i]?=some o/\dA Y all o.guard=some w/\(w=true->dm E Y o H))(z:aD E k Y H aj):aD E (.again all l::k) Y H aj:=by
 induction l with
 |nil=>exact z
 |cons i l q=>
  have⟨o,w,O,U,F⟩:=h i ζ
  exact aEc ⟨o,w,O,U,F,q λ j u=>h j (by simp[u])⟩
end
def apF(a:Int):Pm a a=true:=by cases a<;>simp[Pm]
theorem ago:∀(l:List UInt8),zr l l=true
 |[]=>rfl
 |x::l=>by
  show aB false (zr l l) (Nat.beq x.toNat x.toNat)=true
  rw[ago l];simp
section
variable{k:IntKind}{n:Int}{b x:Bool}{s:aI}{i o e l c:Nat}
def IA:fy (.lit (.int k n)) (.lit (.int k n))=true:=by show aB false (Pm n n) (k==k)=true;rw[apF];simp
def apA:fy (.lit (.bool b)) (.lit (.bool b))=true:=by cases b<;>rfl
def agn:fy (.lit (.string s)) (.lit (.string s))=true:=ago _
attribute [simp] IA apA agn
@[simp]def aHn:fy (.ptr i o) (.ptr i o)=true:=by
  show aB false (Nat.beq o o) (Nat.beq i i)=true
  simp
@[simp]def aHo:fy (.sl i o e l c x) (.sl i o e l c x)=true:=by
  show aB false (aB false (aB false (aB false (aB false (aB (aB true false x) x x) (Nat.beq c c)) (Nat.beq l l)) (Nat.beq e e)) (Nat.beq o o)) (Nat.beq i i)=true
  cases x<;>simp
@[simp]def aHk:fy .eF .eF=true:=rfl
@[simp]def aHl:fy (.map i) (.map i)=true:=by
  show Nat.beq i i=true
  simp
@[simp]def aHm:fy (.lit (.slice none i c)) (.lit (.slice none i c))=true:=by
  show aB false (Nat.beq c c) (Nat.beq i i)=true
  simp
end
theorem aW.fy{H:D}{es:Nat}{α:Type}{R:α->AU->Prop}{v:J}{L:List α}(h:aW H es R v L):Go.Proofs.YtgipmaoplfkdoaaGreatDoor.fy v v=true:=by cases h<;>simp
variable{H':D}{v:J}
def Ht{n:Nat}{args:AU}(Q:E.Q.get f=some (n+2))(h:vD E (n+2) args H=.ok (v,H'))(j:P v H'):C E (.call f args) H P:=by refine⟨1,v,H',?_,j⟩;show cB (E.at 1).Q f (λ h=>eC (oU (E.at 1) (mw (E.at 1) 0) f args H) (λ q=>eC (oU (E.at 1) (mw (E.at 1) 0) f args H) (λ _=>vD (E.at 1) h args H) q) h) (oU (E.at 1) (mw (E.at 1) 0) f args H)=_;have e:(E.at 1).Q.get f=some (n+2):=Q;rw[jJ,e];show vD (E.at 1) (n+2) args H=_;rw[aaL];exact h
section
variable{β:Type}
theorem ai5:∀(l:List aC) (k:List aC->R β),Fc (l.map J.lit) k=k l
 |[],k=>rfl
 |v::l,k=>by
  show(Fc (l.map J.lit) λ l'=>k (v::l'))=_
  rw[ai5 l]
theorem RU:∀(h:BW) (k:BW->R β),q_ (h.map (Value.int .i64)) k=k (lK h)
 |[],k=>rfl
 |n::l,k=>by
  show(q_ (l.map (Value.int .i64)) λ r=>MW n r k)=_
  rw[RU l,aa7];rfl
theorem akF:∀(h:List aI) (k:List aI->R β),Af (h.map Value.string) k=k (vJ h)
 |[],k=>by rw[vJ];rfl
 |n::l,k=>by
  show(Af (l.map Value.string) λ r=>MY n r k)=_
  rw[akF l,aba,vJ]
theorem Wm:∀(l:BW) (k:AU->R β),vK l k=k (l.map λ n=>J.lit (.int .i64 n))
 |[],k=>rfl
 |n::l,k=>by
  show(vK l λ l'=>k (J.lit (.int .i64 n)::l'))=_
  rw[Wm l];rfl
theorem akR:∀(l:List aI) (k:AU->R β),Fv l k=k (l.map λ s=>J.lit (.string s))
 |[],k=>rfl
 |n::l,k=>by
  show(Fv l λ l'=>k (J.lit (.string n)::l'))=_
  rw[akR l];rfl
end
section
variable{α:Type}{enc:α->aC}{sc:List α->List α}{Ag:List aC->(AU->R (J×D))->R (J×D)}{H:D}{id ah ax m:Nat}{ex:Bool}{t:CX}
def aFc(z:∀(h:List α) (k:AU->R (J×D)),Ag (h.map enc) k=k ((sc h).map λ n=>J.lit (enc n))){zs:List α}(q:H.get id=some (.cells m t false))(B:ah+zs.length<=m)(u:zs≠[])(A:zs.length<=1152921504606846976)(w:bc t ah zs.length=some (zs.map λ n=>J.lit (enc n)))(k:D->R (J×D)):DE Ag (.sl id ah 1 zs.length ax ex) H k=k (H.put id (some (.cells m (t.iM ah ((sc zs).map λ n=>J.lit (enc n))) false))):=by
 obtain⟨n,j⟩:∃n,zs.length=n+1:=⟨zs.length-1,by have:=za.2 u;omega⟩
 have e:(zs.map λ n=>J.lit (enc n))=(zs.map enc).map J.lit:=by rw[u_];rfl
 unfold DE pz
 dsimp only
 rw[qS,q]
 dsimp only
 rw[show Nat.beq 1 1=true from rfl,pS,Ns,Rh,BR,show Nat.ble (ah+zs.length) m=true by simpa using B,pS,bY w,j,WD,<-j,show Nat.ble zs.length 1152921504606846976=true by simpa using A,pS,e,ai5,z]
 rw[qS,q]
 dsimp only
 rw[Di,FD,Bz]
end
def aFb(h:BW)(k:AU->R (J×D)):(λ j k=>q_ j λ h=>vK h k) (h.map (Value.int .i64)) k=k ((lK h).map λ n=>J.lit (Value.int .i64 n)):=by show q_ (h.map (Value.int .i64)) (λ h=>vK h k)=_;rw[RU,Wm]
def aFd(h:List aI)(k:AU->R (J×D)):(λ j k=>Af j λ h=>Fv h k) (h.map Value.string) k=k ((vJ h).map λ n=>J.lit (Value.string n)):=by show Af (h.map Value.string) (λ h=>Fv h k)=_;rw[akF,akR]
variable{ex:Bool}{M:AU}{aH:AT}{t:CX}
def Tr.px(z:AU)(sz:Nat):Nat->Nat->CX->CX
 |0,_,t=>t|k+1,ah,t=>Tr.px z sz k ah (t.iM (ah+k*sz) z)
theorem wX{β:Type}{z:AU}{sz:Nat}:∀{n ah:Nat} {t:CX} {k:CX->R β},Ac z sz n ah t k=k (Tr.px z sz n ah t)
 |0,_,_,_=>rfl|n+1,ah,t,k=>by rw[adJ,wX];rfl
theorem Bp{x:J}:∀{n ah:Nat} {t:CX} {j:Nat},(Tr.px [x] 1 n ah t).get j=if ah<=j/\j<ah+n then some x else t.get j
 |0,ah,t,j=>by
  rw[ao ω];rfl
 |n+1,ah,t,j=>by
  unfold Tr.px
  rw[Bp,Tr.vn]
  by_cases h:ah<=j/\j<ah+n
  .rw[aq h,aq ω]
  .rw[ao h]
   by_cases U:j=ah+n
   .subst U;simp
   .rw[ao ξ,ao ω]
theorem Xa{z:AU}{sz:Nat}:∀{n ah:Nat} {t:CX} {j:Nat},j<ah->(Tr.px z sz n ah t).get j=t.get j
 |0,ah,t,j,h=>rfl
 |n+1,ah,t,j,h=>by
  unfold Tr.px
  rw[Xa h,Tr.vn,ao ω]
def rU{f:Nat->β}(h:0<r):eC c f r=f (r-1):=by cases r with|zero=>omega|succ r=>rfl
def M5(l:BW):(lK l).length=l.length:=(yB l).length_eq
def awY(l:List aI):(vJ l).length=l.length:=(V9 l).length_eq
abbrev aZ(l:BW):AU:=l.map λ n=>ae n
abbrev strs(l:List aI):AU:=l.map λ s=>str s
def aX.uC(h:aX H 1 v M aH)(z:0<M.length):∃id ax ex t,v=.sl id 0 1 M.length ax ex/\aH=[id]/\Lv H id (.cells ax t false)/\(∀j,j<M.length->t.get j=M[j]?)/\M.length<=ax/\(ex=false->0<ax)/\ax<=maxLen:=by
 cases h with
 |nil=>simp at z
 |own O U F w u q=>
  rw[BR]at O U F
  subst U
  exact⟨_,_,_,_,rfl,rfl,O,F,w,u,q⟩
def aX.kq{ax:Nat}(O:Lv H f (.cells ax t false))(U:M.length=r)(F:∀j,j<r->t.get j=M[j]?)(u:r<=ax)(q:ex=false->0<ax)(h:ax<=maxLen):aX H 1 (.sl f 0 1 r ax ex) M [f]:=.own (by rw[BR];exact O) ω (λ j w=>F j ω) u q h
theorem aX.aZ{L:BW}(h:aX H 1 v (aZ L) aH):aW H 1 (One λ n=>ae n) v L:=h.yN ω ζ λ i A=>by simp[One,A,List.take_one]
theorem aX.strs{L:List aI}(h:aX H 1 v (strs L) aH):aW H 1 (One λ n=>str n) v L:=h.yN ω ζ λ i A=>by simp[One,A,List.take_one]
section
variable{α:Type}{enc:α->aC}{sc:List α->List α}{Ag:List aC->(AU->R (J×D))->R (J×D)}{H:D}{v:J}{aH:AT}
def akM(N:∀(q:List α) (k:AU->R (J×D)),Ag (q.map enc) k=k ((sc q).map λ n=>J.lit (enc n)))(w:∀q,(sc q).length=q.length){zs:List α}(h:aX H 1 v (zs.map λ n=>J.lit (enc n)) aH)(V:zs.length<=1152921504606846976):∃K,aX K 1 v ((sc zs).map λ n=>J.lit (enc n)) aH/\I aH H K/\∀k:D->R (J×D),DE Ag v H k=k K:=by
 by_cases u:zs=[]
 .subst u
  have e:sc []=[]:=BM (by rw[w];rfl);refine⟨H,by rw[e];exact h,aw,λ k=>?_⟩;cases h with
  |nil=>rfl
  |@own id n ax ex t _ O U F h4 h5 Z=>
   have Q:n=0:=by simpa using U.symm
   subst Q
   unfold DE pz
   dsimp only
   rw[qS,O.get]
   simp
   rfl
 .have G:0<(zs.map λ n=>J.lit (enc n)).length:=by have:=za.2 u;simpa using this
  obtain⟨id,ax,ex,t,rfl,rfl,z,A,C,he,B⟩:=h.uC G;rw[bW]at A C⊢;have W:bc t 0 zs.length=some (zs.map λ n=>J.lit (enc n)):=adG ζ A;refine⟨H.put id (some (.cells ax (t.iM 0 ((sc zs).map λ n=>J.lit (enc n))) false)),.kq (t:=t.iM 0 ((sc zs).map λ n=>J.lit (enc n))) ⟨z.lt,by rw[D.eR,aq rfl]⟩ (by simp[w]) (λ j X=>?_) C he B,aw.put (.inr ζ),λ k=>aFc N z.get ω u V W k⟩;rw[Tr.vn,aq (by simp[w];omega),Ax]
end
def XQ(Q:E.Q.get f=some 6)(h:aX H 1 v (aZ zs) aH)(w:zs.length<=1152921504606846976):C E (.call f [v]) H λ u K=>u=.dh []/\aX K 1 v (aZ (lK zs)) aH/\I aH H K:=by
 have⟨K,O,U,F⟩:=akM (Ag:=λ j k=>q_ j λ q=>vK q k) aFb M5 h w
 refine Ht (n:=4) Q (v:=.dh []) (H':=K) ?_ ⟨rfl,O,U⟩
 exact F λ H'=>.ok (J.dh [],H')
def aeu(Q:E.Q.get f=some 7){zs:List aI}(h:aX H 1 v (strs zs) aH)(w:zs.length<=1152921504606846976):C E (.call f [v]) H λ u K=>u=.dh []/\aX K 1 v (strs (vJ zs)) aH/\I aH H K:=by
 have⟨K,O,U,F⟩:=akM (Ag:=λ j k=>Af j λ q=>Fv q k) aFd awY h w
 refine Ht (n:=5) Q (v:=.dh []) (H':=K) ?_ ⟨rfl,O,U⟩
 exact F λ H'=>.ok (J.dh [],H')
def aa3(p:α->Bool)(L:List α):(idxOf p L=-1/\∀x∈L,p x=false)\/∃i,∃h:i<L.length,idxOf p L=(i:Nat)/\p L[i]=true/\∀j (h:j<L.length),j<i->p L[j]=false:=by
 unfold idxOf;cases h:L.findIdx? p with
 |none=>
  rw[KB]at h
  exact .inl ⟨rfl,λ x Z=>by simpa using h x Z⟩
 |some i=>
  rw[KD]at h
  have⟨A,u,w⟩:=h
  exact .inr ⟨i,A,rfl,u,λ j h q=>by simpa using w j q⟩
def filter_all{p:α->Bool}(h:∀x∈L,p x=false):(L.filter λ x=>!p x)=L:=by rw[List.filter_eq_self];intro x Z;simp[h x Z]
def Ln{p:α->Bool}(j:f<L.length):((L.take (f+1)).filter p)=(L.take f).filter p++(if p L[f]=true then[L[f]]else[]):=by rw[mI,bf j,YD];by_cases h:p L[f]=true<;>simp[h]
def Dj(L:BW)(i:Nat):Bool:=decide (i=0)||decide (L[i]?≠L[i-1]?)
def mL(L:BW)(j:Nat):BW:=(List.range j).filterMap λ i=>if Dj L i=true then L[i]? else none
def AG(L:BW):BW:=mL L L.length
def TC(j:f<zs.length):mL zs (f+1)=mL zs f++(if Dj zs f=true then[zs[f]]else[]):=by unfold mL;rw[YK,List.filterMap_append];by_cases h:Dj zs f=true<;>simp[h,j]
def ZG:(mL zs f).length<=f:=aY (List.length_filterMap_le _ _) ζ
def apc:x∈AG zs↔x∈zs:=by
 unfold AG mL;rw[YJ];constructor
 .rintro⟨i,_,h⟩;split at h
  .exact oS h
  .cases h
 .intro Z;obtain⟨i,A,rfl⟩:=rJ Z;induction i with
  |zero=>exact⟨0,mj.2 A,by simp[Dj,A]⟩
  |succ i j=>
   by_cases e:zs[i+1]=zs[i]
   .rw[e];exact j ω (cG _)
   .refine⟨i+1,mj.2 A,?_⟩
    have:Dj zs (i+1)=true:=by unfold Dj;rw[afk,bf A,bf ω];simp[e]
    rw[aq this,bf A]
section
variable{E:aK}{t e:aS}{d0 d:TypeDesc}{es bs a0 b0:Nat}{z0 z:AU}
def am4{x:J}(w:E.tt.get t=some ⟨.slice e,a0,b0,z0⟩)(he:E.tt.get e=some ⟨d,es,bs,z⟩)(N:0<es)(A:aX H es s M aH)(Z:∀{β:Type} (k:Nat->AU->R β),pz es x H k=k 0 [])(B:∀m,M.length=m*es->m*bs<=140737488355328):∃H',cX E t s x H=val s H'/\aX H' es s M aH/\I aH H H'/\H'.ab=H.ab:=by
 unfold cX tS
 rw[vW,w]
 dsimp only
 rw[vW,he]
 dsimp only
 rw[Z]
 cases A with
 |nil=>exact⟨H,rfl,.nil,aw,rfl⟩
 |@own id m ax ex t0 _ O U F h C j=>
  have u:m*bs<=140737488355328:=B m U
  have q:m<=9223372036854775807:=aY h j
  have G:m*es<=ax*es:=nW _ h
  refine⟨H.put id (some (.cells (ax*es) t0 false)),?_,.own ⟨O.lt,by rw[D.eR,aq rfl]⟩ U F h C j,aw.put (.inr ζ),rfl⟩
  simp only[Ns,Rh,mQ,xx,show Nat.beq es es=true by simp,pS,show fX []=true from rfl,Pz,qS,O.get,show Nat.ble m 9223372036854775807=true by simpa using q,show Nat.ble (m*bs) 140737488355328=true by simpa using u]
  rw[show Nat.ble m ax=true by simpa using h,pS,Di,show Nat.ble (m*es) (ax*es)=true by simpa using G,pS,FD,Bz]
  rfl
def KU{x:J}{new:AU}{n:Nat}(A:E.tt.get t=some ⟨.slice e,a0,b0,z0⟩)(he:E.tt.get e=some ⟨d,es,bs,z⟩)(D:0<es)(C:aX H es s M aH)(Z:∀{β:Type} (k:Nat->AU->R β),pz es x H k=k n new)(u:new.length=n*es)(N:fX new=true)(F:∀m,M.length=m*es->(m+n)*bs<=140737488355328)(Q:∀m,M.length=m*es->m+n<=9223372036854775807):∃v' H' ids',cX E t s x H=val v' H'/\aX H' es v' (M++new) ids'/\I aH H H'/\(∀y∈ids',y∈aH\/H.ab<=y):=by
 rcases ze n with rfl|O
 .rw[OG]at u
  have:=BM u;subst this;have⟨H',q,j,h,w⟩:=am4 A he D C Z λ m B=>by have:=F m B;rwa[xx]at this
  exact⟨s,H',aH,q,by rw[HU];exact j,h,λ y G=>.inl G⟩
 .have⟨v',H',ids',q,j,h,w,_⟩:=am3 A he D C Z O u N F Q
  exact⟨v',H',ids',q,j,h,w⟩
def am2{x c:J}(h:E.tt.get t=some ⟨.slice e,a0,b0,z0⟩)(he:E.tt.get e=some ⟨d,1,bs,z⟩)(j:aX H 1 s M aH)(Z:∀{β:Type} (k:Nat->AU->R β),pz 1 x H k=k 1 [c])(q:km c=true)(u:(M.length+1)*bs<=140737488355328)(w:M.length+1<=9223372036854775807):∃v' H' ids',cX E t s x H=val v' H'/\aX H' 1 v' (M++[c]) ids'/\I aH H H'/\(∀y∈ids',y∈aH\/H.ab<=y):=KU h he ω j Z ζ (by simp[q]) (λ m B=>by rw[BR]at B;rw[<-B];exact u) (λ m B=>ω)
end
def aDH{t:Tr α}{ah:Nat}:∀{n:Nat},(∀j,j<n->∃x,t.get (ah+j)=some x)->∃M,bc t ah n=some M:=by intro n h;refine⟨(List.range n).pmap (λ j (q:∃x,t.get (ah+j)=some x)=>q.choose) (λ j q=>h j (mj.1 q)),iB.2 ⟨ζ,λ i A=>?_⟩⟩;rw[List.getElem?_pmap];simp only[List.getElem?_range A,Option.pmap_some];exact(h i A).choose_spec
theorem YY:∀{l:AU},(∀x∈l,km x=true)->fX l=true
 |[],_=>rfl|x::l,h=>by rw[all_cons,YY (l:=l) λ y G=>h y (by simp[G])];rw[h x ζ];rfl
def amV{l:AU}(h:fX l=true):∀x∈l,km x=true:=by
 induction l with
 |nil=>intro x Z;simp at Z
 |cons y l j=>
  rw[all_cons]at h
  intro x Z
  cases G:km y with
  |false=>rw[G]at h;cases h
  |true=>
   rw[G]at h
   rcases cZ.1 Z with rfl|Z
   .exact G
   .exact j h x Z
def aW.amX(h:aW H f As v L)(C:0<f)(V:∀a M,As a M->fX M=true):∃M:AU,M.length=L.length*f/\fX M=true/\(∀i (A:i<L.length),As L[i] ((M.drop (i*f)).take f))/\∀{K:D},I [] H K->∀{γ:Type} (k:Nat->AU->R γ),pz f v K k=k L.length M:=by
 cases h with
 |nil=>exact⟨[],ζ,rfl,λ i A=>by simp at A,λ _ _ _=>rfl⟩|eF=>exact⟨[],ζ,rfl,λ i A=>by simp at A,λ _ _ _=>rfl⟩
 |@sl id ah ax ex n t ro L O U F h4 X=>
  have z:∀i (A:i<L.length),∃M,M.length=f/\(∀j,j<f->t.get (ah+i*f+j)=M[j]?)/\As L[i] M:=by intro i A;have⟨M,c1,c2⟩:=F i A;have⟨c3,c4⟩:=iB.1 c1;exact⟨M,c3,c4,c2⟩
  have J:∀j,j<L.length*f->∃i,i<L.length/\j=i*f+j%f/\j%f<f:=by intro j q;have hd:j/f<L.length:=(afl C).2 q;exact⟨j/f,hd,by rw[Td];exact(Nat.div_add_mod _ _).symm,H8 _ C⟩
  have⟨M,G⟩:=aDH (t:=t) (ah:=ah) (n:=L.length*f) λ j q=>by
   have⟨i,A,w,B⟩:=J j q;have⟨c,c1,c2,c3⟩:=z i A;refine⟨c[j%f]' ω,?_⟩
   have:=c2 (j%f) B;rw[bf ω]at this;have e:ah+j=ah+i*f+j%f:=ω
   rw[e];exact this
  have⟨Q,N⟩:=iB.1 G
  have u:∀i (A:i<L.length),∃c,(M.drop (i*f)).take f=c/\As L[i] c:=by
   intro i A;have⟨c,c1,c2,c3⟩:=z i A;refine⟨c,?_,c3⟩;have W:i*f+f<=L.length*f:=by have:=nW f (dz A);rw[ve]at this;exact this
   refine SU λ j=>?_;by_cases q:j<f
   .rw[rI,aq q,v_,<-c2 j q,<-N _ ω,vd]
   .rw[y_ (by rw[eK];omega),y_ ω]
  refine⟨M,Q,?_,λ i A=>by have⟨c,c1,c2⟩:=u i A;rw[c1];exact c2,λ {K} g {γ} k=>?_⟩
  .refine YY λ x Z=>?_
   obtain⟨j,q,rfl⟩:=rJ Z;have⟨i,A,w,B⟩:=J j ω;have⟨c,c1,c2⟩:=u i A;refine amV (V _ _ c2) _ ?_;rw[<-c1];have e:((M.drop (i*f)).take f)[j%f]?=some M[j]:=by rw[rI,aq B,v_,<-w,bf q]
   exact oS e
  .unfold pz
   dsimp only;rw[qS,(O.ai g).get];dsimp only;rw[show Nat.beq f f=true by simp,pS,Ns,Rh,show Nat.ble (ah+L.length*f) n=true by simpa using U,pS,bY G]
variable{K T:D}{S:AT}{lo:Nat}{L:Nat->BW}
def xh(lo:Nat)(v:J):Prop:=∀id ah es n ax ex,v=.sl id ah es n ax ex->lo<=id
def xh.mono(h:xh lo v)(j:f<=lo):xh f v:=λ id ah es n ax ex e=>aY j (h id ah es n ax ex e)
def xh.zero:xh 0 v:=λ _ _ _ _ _ _ _=>dQ _
def aW.Uk{L:List α}(h:aW H f As v L)(ge:xh lo v)(g:I S H H')(j:∀x∈S,x<lo)(q:∀a M,a∈L->As a M->R' a M):aW H' f R' v L:=by cases h with|nil=>exact .nil|eF=>exact .eF|sl O U F w u=>exact .sl (O.W g λ B=>by have:=j _ B;have:=ge _ _ _ _ _ _ rfl;omega) U (λ i h=>let⟨M,a,b⟩:=F i h;⟨M,a,q _ _ (cG h) b⟩) w u
structure NI(lo:Nat)(K:D)(v:J)(l:List Int):Prop where
 sl:aW K 1 (One λ n=>ae n) v l
 ge:xh lo v
def SB(lo:Nat)(K:D)(l:BW)(M:AU):Prop:=∃u,M=[u]/\NI lo K u l
structure GI(lo:Nat)(K:D)(v:J)(g:List (List Int)):Prop where
 sl:aW K 1 (SB lo K) v g
 ge:xh lo v
def NI.W(h:NI lo K v zs)(g:I S K T)(j:∀x∈S,x<lo):NI lo T v zs:=⟨h.sl.Uk h.ge g j λ _ _ _ h=>h,h.ge⟩
def NI.ai(h:NI lo K v zs)(g:I [] K T):NI lo T v zs:=h.W g ζ
def SB.W{l:BW}(h:SB lo K l M)(g:I S K T)(j:∀x∈S,x<lo):SB lo T l M:=by have⟨u,O,U⟩:=h;exact⟨u,O,U.W g j⟩
def GI.IM{l:List BW}(h:GI lo K v l)(g:I S K T)(j:∀x∈S,x<lo):GI lo T v l:=⟨h.sl.Uk h.ge g j λ _ _ _ h=>h.W g j,h.ge⟩
def GI.ai{l:List BW}(h:GI lo K v l)(g:I [] K T):GI lo T v l:=h.IM g ζ
def GI.mono{Bc:Nat}{l:List BW}(h:GI lo K v l)(j:Bc<=lo):GI Bc K v l:=⟨by have:=h.sl;cases this with|nil=>exact .nil|eF=>exact .eF|sl O U F w q=>exact .sl O U (λ i h=>let⟨M,a,⟨u,b1,b2⟩⟩:=F i h;⟨M,a,u,b1,b2.sl,b2.ge.mono j⟩) w q,h.ge.mono j⟩
theorem NI.own{lo:Nat}{K:D}{v:J}{l:BW}{aH:AT}(h:aX K 1 v (aZ l) aH)(A:∀y∈aH,lo<=y):NI lo K v l:=⟨h.aZ,by intro id ah es n ax ex e;subst e;cases h with|own=>exact A _ ζ⟩
def GI.row(h:GI lo K v g)(A:f<g.length):∃id ah ax ex n t ro u,v=.sl id ah 1 g.length ax ex/\Lv K id (.cells n t ro)/\ah+f<n/\t.get (ah+f)=some u/\NI lo K u g[f]/\lo<=id:=by have⟨id,ah,ax,ex,n,t,ro,c,j,w,B,z,u,hu,q⟩:=h.sl.gL A;cases hu;exact⟨id,ah,ax,ex,n,t,ro,c,j,w,B,z,q,h.ge _ _ _ _ _ _ j⟩
def NI.num(h:NI lo K v zs){i:Nat}(A:i<zs.length):∃id ah ax ex n t ro,v=.sl id ah 1 zs.length ax ex/\Lv K id (.cells n t ro)/\ah+i<n/\t.get (ah+i)=some (ae zs[i])/\lo<=id:=by have⟨id,ah,ax,ex,n,t,ro,c,j,q,z,w,u⟩:=h.sl.gL A;cases u;exact⟨id,ah,ax,ex,n,t,ro,j,q,z,w,h.ge _ _ _ _ _ _ j⟩
structure mh(K:D)(id lo n:Nat)(L:Nat->List Int):Prop where
 il:id<lo
 ln:lo<=K.ab
 ob:∃t,Lv K id (.cells n t false)/\∃aH:Nat->List Nat,(∀x,x<n->∃u,t.get x=some u/\aX K 1 u (aZ (L x)) (aH x)/\∀y∈aH x,lo<=y)/\∀x y,x<n->y<n->x≠y->∀z∈aH x,z∉aH y
def mh.init(q:∀x,x<f->t.get x=some (.lit (.slice none 0 0)))(h:Lv H r (.cells f t false)):mh H r H.ab f λ _=>[]:=⟨h.lt,aF,t,h,λ _=>[],λ x Z=>⟨_,q x Z,.nil,ζ⟩,λ _ _ _ _ _ z j=>by simp at j⟩
def mh.lt{id n:Nat}(h:mh K id lo n L):id<K.ab:=by have⟨t,O,_⟩:=h.ob;exact O.lt
def mh.W{id n:Nat}(h:mh K id lo n L)(g:I S K T)(j:∀x∈S,x≠id/\x<lo):mh T id lo n L:=by have⟨t,O,aH,U,F⟩:=h.ob;refine⟨h.il,aY h.ln g.ab,t,O.W g (λ Z=>(j _ Z).1 rfl),aH,λ x Z=>?_,F⟩;have⟨u,a,b,c⟩:=U x Z;exact⟨u,a,b.W g λ y G B=>by have:=(j _ B).2;have:=c y G;omega,c⟩
def mh.use(h:mh K f lo r L){x:Nat}(Z:x<r):∃t u aH,Lv K f (.cells r t false)/\t.get x=some u/\aX K 1 u (aZ (L x)) aH/\(∀y∈aH,lo<=y)/\(∀T q l' ids',I aH K T->aX T 1 q (aZ l') ids'->(∀y∈ids',y∈aH\/K.ab<=y)->mh (T.put f (some (.cells r (t.put x (some q)) false))) f lo r (λ y=>if y=x then l' else L y))/\(∀T l',I aH K T->aX T 1 u (aZ l') aH->mh T f lo r (λ y=>if y=x then l' else L y)):=by
 have⟨t,O,aH,U,F⟩:=h.ob
 have⟨u,a,b,c⟩:=U x Z
 have cR:∀T:D,I (aH x) K T->Lv T f (.cells r t false):=λ T g=>O.W g λ B=>by have:=c _ B;have:=h.il;omega
 have jf:=h.il
 have X:=h.ln
 refine⟨t,u,aH x,O,a,b,c,λ T q l' ids' g V A=>?_,λ T l' g V=>?_⟩
 .have l1:=cR T g
  have gp:I [f] T (T.put f (some (.cells r (t.put x (some q)) false))):=aw.put (.inr ζ);refine⟨jf,aY X g.ab,_,⟨l1.lt,by rw[D.eR,aq rfl]⟩,λ y=>if y=x then ids' else aH y,λ y G=>?_,λ y z G j QR w hw=>?_⟩
  .by_cases e:y=x
   .subst e;refine⟨q,ζ,?_,?_⟩
    .dsimp only;rw[aq rfl,aq rfl];refine V.W gp λ z j B=>?_;simp at B;rcases A z j with h|h
     .have:=c z h;omega
     .have:=O.lt;omega
    .dsimp only;rw[aq rfl];intro z j;rcases A z j with h|h
     .exact c z h
     .have:=O.lt;omega
   .have⟨u2,N,b2,c2⟩:=U y G;refine⟨u2,by simp[e,N],?_,by dsimp only;rw[ao e];exact c2⟩;dsimp only;rw[ao e,ao e];refine(b2.W g λ z j B=>F y x G Z e z j B).W gp λ z j B=>?_;simp at B;have:=c2 z j;omega
  .have key:∀y,y<r->y≠x->∀w∈ids',w∉aH y:=by
    intro y G Q w hw B;rcases A w hw with h|h
    .exact F x y Z G (qj Q) w h B
    .have⟨u2,N,b2,c2⟩:=U y G;have:=b2.lt w B;omega
   dsimp only at hw⊢;by_cases J:y=x
   .rw[aq J]at hw;have C:z≠x:=by rintro rfl;exact QR J
    rw[ao C];exact key z j C w hw
   .rw[ao J]at hw;by_cases C:z=x
    .rw[aq C];intro B;exact key y G J w B hw
    .rw[ao C];exact F y z G j QR w hw
 .refine⟨jf,aY X g.ab,t,cR T g,aH,λ y G=>?_,F⟩
  by_cases e:y=x
  .subst e;exact⟨u,a,by rw[aq rfl];exact V,c⟩
  .have⟨u2,N,b2,c2⟩:=U y G;exact⟨u2,N,by rw[ao e];exact b2.W g λ z j B=>F y x G Z e z j B,c2⟩
def mh.gi(h:mh K f lo r L)(w:r<=maxLen)(z:g.length=r)(he:∀i (A:i<g.length),g[i]=L i)(q:l0<=f):GI l0 K (.sl f 0 1 r r ex) g:=by
 have⟨t,O,aH,U,F⟩:=h.ob;subst z;refine⟨.sl O ω (λ i A=>?_) aF w,λ jO _ _ _ _ _ e=>by cases e;exact q⟩;have⟨u,a,b,c⟩:=U i A;refine⟨[u],iB.2 ⟨rfl,λ j B=>?_⟩,u,rfl,?_⟩
 .obtain rfl:j=0:=ω
  simp[a]
 .rw[he i A];exact .own b λ y G=>by have:=c y G;have:=h.il;omega
def mh.congr(h:mh K f lo r L)(he:∀x,x<r->L x=L' x):mh K f lo r L':=by have⟨t,O,aH,U,F⟩:=h.ob;exact⟨h.il,h.ln,t,O,aH,λ x Z=>by rw[<-he x Z];exact U x Z,F⟩
structure iD(K:D)(id n:Nat)(f:Nat->J):Prop where
 ob:∃t,Lv K id (.cells n t false)/\∀x,x<n->t.get x=some (f x)
def iD.W{id n:Nat}{f:Nat->J}(h:iD K id n f)(g:I S K T)(j:id∉S):iD T id n f:=by have⟨t,O,U⟩:=h.ob;exact⟨t,O.W g j,U⟩
def iD.lt{id n:Nat}{f:Nat->J}(h:iD K id n f):id<K.ab:=by have⟨t,O,_⟩:=h.ob;exact O.lt
def iD.congr{f:Nat->J}(h:iD K r l0 f)(he:∀x,x<l0->f x=f' x):iD K r l0 f':=by have⟨t,O,U⟩:=h.ob;exact⟨t,O,λ x Z=>by rw[<-he x Z];exact U x Z⟩
def abq(c:Nat):Bool:=(decide (97<=c)&&decide (c<=122))||(decide (65<=c)&&decide (c<=90))||decide (c=95)
def OP(i:Nat)(c:Nat):Bool:=!abq c&&(decide (i=0)||((decide (c<48)||decide (57<c))&&decide (c≠46)))
def F4(s:aI)(i:Nat):Bool:=match s.data[i]? with|some c=>OP i c.toNat|none=>false
def mZ(s:aI):Bool:=decide (s≠⟨#[]⟩)&&decide (s.size<=64)&&decide (s≠⟨#[110,117,108,108]⟩)&&(List.range s.size).all λ i=>!F4 s i
def aiL{s:aI}(h:mZ s=true):s≠⟨#[]⟩/\s≠⟨#[110,117,108,108]⟩:=by unfold mZ at h;simp at h;exact⟨h.1.1.1,h.1.2⟩
def awU{s:aI}(A:f<s.size)(h:F4 s f=true):mZ s=false:=by
 have:((List.range s.size).all λ f=>!F4 s f)=false:=by rw[Yy];exact⟨f,mj.2 A,by simp[h]⟩
 unfold mZ;rw[this];simp
def awV{s:aI}(w:¬s=⟨#[]⟩)(z:¬(64:Int)<s.size)(u:¬s=⟨#[110,117,108,108]⟩)(h:∀j,j<s.size->F4 s j=false):mZ s=true:=by
 have O:s.size<=64:=ω
 unfold mZ;simp only[v8,rK,yZ,mj];exact⟨⟨⟨w,O⟩,u⟩,λ j q=>by rw[h j q];rfl⟩
def M4(s:aI)(H:D):CN 233 [.lit (.string s)] H (λ v H'=>H'=H/\v=.lit (.bool (mZ s))):=by
 refine im ar6 rfl ?_;by_cases w:s=⟨#[]⟩
 .simp[w,mZ]
 by_cases F:(64:Int)<s.size
 .have:¬s.size<=64:=ω
  simp[w,F,mZ,this,abk DH]
 by_cases u:s=⟨#[110,117,108,108]⟩
 .have:s.size=4:=by rw[u];rfl
  simp[u,mZ,abk DH];simp[<-u,this]
 simp[w,F,u,abk DH];refine bu (α:=Nat) (aJ:=λ i sl H'=>H'=H/\AV sl 0 (str s)/\AV sl 18 (ae s.size)/\AV sl 19 (ae i)/\i<=s.size/\∀j,j<i->F4 s j=false) (mu:=λ i=>s.size-i) ?_ 0 _ _ ?B;case B=>simp
 rintro b kk-Q i sl H' ⟨rfl,G,q,h,A,I⟩ N;by_cases J:i<s.size
 .have V:i<s.data.size:=J;have C:s.data[i]?=some s.data[i]:=HO V;have z:F4 s i=OP i s.data[i].toNat:=by unfold F4;rw[C]
  generalize s.data[i]=c at C z;generalize U:c.toNat=n at z;have I':(i:Int)<s.size:=ω
  have key:∀x:Bool,OP i n=x->(x=false->∀j,j<i+1->F4 s j=false):=by
   rintro x Z rfl j W;rcases pH.1 W with O|rfl
   .exact I j O
   .rw[z,Z]
  have hw:IntKind.wrap .i64 ((i:Int)+1)=(i:Int)+1:=fQ ω ω;simp[G,q,h,I',C,U];by_cases a1:(97:Int)<=n<;>by_cases a2:(n:Int)<=122<;>(try (exfalso;omega))<;>by_cases a3:(65:Int)<=n<;>(try (exfalso;omega))<;>by_cases a4:(n:Int)<=90<;>(try (exfalso;omega))<;>by_cases a5:(n:Int)=95<;>(try (exfalso;omega))<;>by_cases a6:(n:Int)<48<;>(try (exfalso;omega))<;>by_cases a7:(57:Int)<n<;>(try (exfalso;omega))<;>by_cases X:(n:Int)=46<;>(try (exfalso;omega))<;>by_cases a9:i=0<;>simp[a1,a2,a3,a4,a5,a6,a7,X,a9,h,hw]<;>first
   |(refine N (i+1) _ _ ω ⟨rfl,by simp[G],by simp[q],by simp<;>omega,ω,key false ?_ rfl⟩
     simp[OP,abq];omega)
   |(refine awU J ?_
     rw[z];simp[OP,abq];omega)
 .obtain rfl:i=s.size:=ω
  subst Q;simp[q,h];exact awV w F u I
def GV(o:Int):Bool:=decide (o=10)||decide (o=11)
def M1(o:Int):Bool:=decide (o=12)||decide (o=13)||decide (o=14)
def Tw(o:Int)(H:D):CN 239 [u8 o] H λ v H'=>H'=H/\v=bl (GV o):=by refine im asc rfl ?_;by_cases O:o=10<;>by_cases U:o=11<;>simp[O,U,GV]
def apt(o:Int)(H:D):CN 244 [u8 o] H λ v H'=>H'=H/\v=bl (M1 o):=by refine im asi rfl ?_;by_cases O:o=12<;>by_cases U:o=13<;>by_cases F:o=14<;>simp[O,U,F,M1]
def wo(operand:Bool)(s:aI):Bool:=decide (s≠⟨#[]⟩)&&!mZ s&&!(operand&&decide (s=⟨#[110,117,108,108]⟩))
def ano(operand:Bool)(s:aI)(H:D){id:Nat}{ro:Bool}(h:H.get id=some (.cells 1 t ro))(j:AV t 0 (bl operand)):CN 263 [str s,.ptr id 0] H λ v H'=>H'=H/\v=bl (wo operand s):=by
 refine im asC rfl ?_
 by_cases O:s=⟨#[]⟩
 .simp[O,wo]
 .cases U:mZ s<;>cases operand<;>simp[O,U,h,j,wo,cE (M4 _ _)]
variable{HB:D}{vf:J}
structure lD(H:D)(p:List aQ)(vf:J)(id mid:Nat):Prop where
 ob:∃t ro,Lv H id (.cells 2 t ro)/\AV t 0 vf/\AV t 1 (.map mid)
 pr:oO H vf p
def lD.W{p:List aQ}(h:lD H p vf f r)(g:I [] H H'):lD H' p vf f r:=by have⟨t,ro,O,U,F⟩:=h.ob;exact⟨⟨t,ro,O.ai g,U,F⟩,h.pr.zB g⟩
def I.new(g:I [] H K)(o o':AO):I [] H ((K.add o).put K.ab (some o')):=(g.add _).put (.inl g.ab)
def aoS{p:List aQ}(cj:Nat->Nat->Nat->D->Prop)(bZ:D->Prop)(hw:lD HB p vf r l0)(Q:∀f b i K,cj f b i K->I [] HB K)(B:∀f b i K T,cj f b i K->I [] K T->cj f b i T)(h0:cj 0 0 0 H)(hc:∃t ro,H.get dH=some (.cells 1 t ro)/\AV t 0 (.ptr r 0))(hf:∀f b i x M K,At p f b i x->cj f b i K->ku HB x M->CF E0 s [wV f b i,.agg M] K λ v T=>∃c,v=bl c/\(c=true->cj f b (i+1) T)/\(c=false->bZ T))(hb:∀f b fn bk K,p[f]?=some fn->fn.blocks[b]?=some bk->cj f b bk.code.length K->cj f (b+1) 0 K)(hg:∀f fn K,p[f]?=some fn->cj f fn.blocks.length 0 K->cj (f+1) 0 0 K):CN 279 [s,.ptr dH 0] H λ _ K=>bZ K\/cj p.length 0 0 K:=by
 refine im asJ rfl ?_
 have⟨t,ro,O,U⟩:=hc
 have⟨t',sY,F,h4,h5⟩:=hw.ob
 have h6:=hw.pr
 have g0:=Q _ _ _ _ h0
 simp[O,U,(F.ai g0).get,h4,h6.aN nf]
 refine CA (λ f sl K=>cj f 0 0 K/\AV sl 0 s/\AV sl 13 vf/\AV sl 14 (ae p.length)/\AV sl 15 (ae f)/\f<=p.length) p.length ⟨h0,ζ⟩ ?_
 rintro b1 k1-cq f sl K ⟨h,u,w,q,j,kH⟩ sO
 by_cases z:f<p.length
 .have⟨kQ,ig,kD,iR,n1,t1,py,kE,dc,cT,iy,eZ,eI⟩:=h6.at_ z
  obtain⟨vp,vb,rfl,eY,W⟩:=eI;have g1:=Q _ _ _ _ h;simp[w,q,j,z,dc,(cT.ai g1).get,bY eZ,iy,W.aN nh,eY.cell,W.cell];refine CA (λ b sl K=>cj f b 0 K/\AV sl 0 s/\AV sl 13 vf/\AV sl 14 (ae p.length)/\AV sl 15 (ae f)/\AV sl 3 (ae f)/\AV sl 21 vb/\AV sl 22 (ae p[f].blocks.length)/\AV sl 23 (ae b)/\b<=p[f].blocks.length) (p[f].blocks.length) ⟨B _ _ _ _ _ h (I.new aw _ _),by simp[u,w,q,j,dc]⟩ ?_
  rintro b2 k2-dO b sl K ⟨h,u,w,q,j,s3,J,A,C,jM⟩ eJ;by_cases G:b<p[f].blocks.length
  .have⟨lJ,lU,rN,kY,n2,t2,qW,mR,fp,ck,gV,iz,iv⟩:=W.at_ G;obtain⟨vc,rfl,V⟩:=iv;have g2:=Q _ _ _ _ h;simp[J,A,C,G,fp,(ck.ai g2).get,bY iz,gV,V.aN nT,V.cell];refine CA (λ i sl K=>cj f b i K/\AV sl 0 s/\AV sl 13 vf/\AV sl 14 (ae p.length)/\AV sl 15 (ae f)/\AV sl 3 (ae f)/\AV sl 21 vb/\AV sl 22 (ae p[f].blocks.length)/\AV sl 23 (ae b)/\AV sl 5 (ae b)/\AV sl 29 vc/\AV sl 30 (ae p[f].blocks[b].code.length)/\AV sl 31 (ae i)/\i<=p[f].blocks[b].code.length) (p[f].blocks[b].code.length) ⟨B _ _ _ _ _ h (I.new aw _ _),by simp[u,w,q,j,s3,J,A,C,fp]⟩ ?_
   rintro b3 k3-jU i sl K ⟨h,u,w,q,j,s3,J,A,C,s5,Dz,X,Z,jf⟩ jg;by_cases N:i<p[f].blocks[b].code.length
   .have⟨yy,Aa,xJ,wv,n3,t3,Bq,BV,jD,fF,mM,kh,f_⟩:=V.at_ N;obtain⟨va,vl,rfl,iU,fo,oi⟩:=f_;have g3:=Q _ _ _ _ h;simp[u,s3,s5,Dz,X,Z,N,jD,(fF.ai g3).get,bY kh,mM,iU.cell,fo.cell];have gn:=λ o o'=>I.new (I.refl [] K) o o';refine vM (hf f b i p[f].blocks[b].code[i] _ _ ⟨_,_,bf z,bf G,bf N⟩ (B _ _ _ _ _ h (gn _ _)) ⟨va,vl,rfl,iU,fo,oi⟩) ?_;rintro v T ⟨c,rfl,og,k8⟩;cases c with
    |true=>
     simp[Z,bq (aT N V.cP)]
     exact jg ω ⟨og rfl,by simp[u,w,q,j,s3,J,A,C,s5,Dz,X,dz N]⟩
    |false=>simp;exact .inl (k8 rfl)
   .obtain rfl:i=p[f].blocks[b].code.length:=ω
    subst jU;have Gm:=hb f b _ _ _ (bf z) (bf G) h;simp[X,Z,C,bq (aT G W.cP)];exact eJ ω ⟨Gm,by simp[u,w,q,j,s3,J,A,dz G]⟩
  .obtain rfl:b=p[f].blocks.length:=ω
   subst dO;have Gm:=hg f _ _ (bf z) h;simp[A,C,j,bq (aT z h6.cP)];exact sO ω ⟨Gm,by simp[u,w,q,dz z]⟩
 .obtain rfl:f=p.length:=ω
  subst cq;simp[q,j,h]
variable{o:AO}
structure lO(n:Nat)(H H':D):Prop where
 ab:H.ab<=H'.ab
 get:∀i,i<n->H'.get i=H.get i
structure Su(n:Nat)(H H':D):Prop where
 ab:H.ab<=H'.ab
 get:∀i,n<=i->i<H.ab->H'.get i=H.get i
def I.u(g:I [] H H')(n:Nat):Su n H H':=⟨g.ab,λ i _ h=>g.get i h ζ⟩
theorem I.n{H H':D}(g:I [] H H'){n:Nat}(h:n<=H.ab):lO n H H':=⟨g.ab,λ i A=>g.get i ω ζ⟩
def lO.refl(n:Nat)(H:D):lO n H H:=⟨aF,λ _ _=>rfl⟩
theorem lO.trans{n:Nat}{H H' j:D}(h:lO n H H')(U:lO n H' j):lO n H j:=⟨aY h.ab U.ab,λ i A=>(U.get i A).trans (h.get i A)⟩
def lO.put{n:Nat}(h:lO n H H'){k:Nat}{o:Option AO}(Q:n<=k):lO n H (H'.put k o):=⟨h.ab,λ i A=>by rw[D.eR,ao ω];exact h.get i A⟩
def lO.add{n:Nat}(h:lO n H H')(Q:n<=H'.ab):lO n H (H'.add o):=⟨afp h.ab,λ i A=>by rw[D.jK,ao ω];exact h.get i A⟩
def I.C0(h:I [] HB H)(g:lO f H H')(j:HB.ab<=f):I [] HB H':=⟨aY h.ab g.ab,λ i A _=>(g.get i ω).trans (h.get i A ζ)⟩
def Lv.u(h:Lv H r o)(g:Su f H H')(j:f<=r):Lv H' r o:=⟨aT h.lt g.ab,(g.get _ j h.lt).trans h.get⟩
def Lv.eu{k:Nat}{o':Option AO}(h:Lv H f o)(Q:f≠k):Lv (H.put k o') f o:=⟨h.lt,by rw[D.eR,ao Q];exact h.get⟩
def Lv.put_eq{o':AO}(h:Lv H f o):Lv (H.put f (some o')) f o':=⟨h.lt,by rw[D.eR,aq rfl]⟩
def Lv.add{id:Nat}{o':AO}(h:Lv H id o):Lv (H.add o') id o:=⟨KM h.lt,by rw[ag6 h.lt];exact h.get⟩
def Lv.new:Lv (H.add o) H.ab o:=⟨sx _,PN⟩
def aoU(id:Nat)(H:D):CN 266 [.ptr id 0] H λ v K=>K=H.add (.cells 1 (Tr.e.put 0 (some (.ptr id 0))) false)/\v=.fn (.func 279) [] [.ptr H.ab 0]:=by refine im asF rfl ?_;simp
def agO{p:List aQ}{fa:AU}(cj:Nat->Nat->Nat->D->Prop)(bZ:Nat->Nat->Nat->D->Prop)(hw:lD HB p vf r l0)(hB:∀f b i K,cj f b i K->I [] HB K)(B:∀f b i K T,cj f b i K->lO H.ab K T->cj f b i T)(hd:∀f b i K T,bZ f b i K->lO H.ab K T->bZ f b i T)(h0:cj 0 0 0 H)(hf:∀f b i x M K,At p f b i x->cj f b i K->ku HB x M->CF E0 (.fn ff fa fc) [wV f b i,.agg M] K λ v T=>Su H.ab K T/\∃c,v=bl c/\(c=true->bZ f b i T)/\(c=false->cj f b (i+1) T))(hb:∀f b fn bk K,p[f]?=some fn->fn.blocks[b]?=some bk->cj f b bk.code.length K->cj f (b+1) 0 K)(hg:∀f fn K,p[f]?=some fn->cj f fn.blocks.length 0 K->cj (f+1) 0 0 K):CN 241 [.ptr r 0,.fn ff fa fc] H λ v K=>(∃(f b i:Nat) (x:bp),v=.dh [wV f b i,bl true]/\At p f b i x/\bZ f b i K)\/(v=.dh [wV 0 0 0,bl false]/\cj p.length 0 0 K):=by
 refine im asf rfl ?_
 simp[cE (aoU _ _)]
 refine HA (gv:=.fn (.func 279) [] [.ptr (H.ab+1+1+1) 0]) ζ ?_
 refine⟨_,_,_,Im,?_⟩
 simp
 generalize hL:LR.mk _ _ _ _ _ _ _=L
 generalize j:D.add _ _=q
 have e5:q.ab=H.ab+6:=by rw[<-j];rfl
 have i0:Lv q H.ab (.cells 1 (Tr.e.put 0 (some (J.fn ff fa fc))) false):=by rw[<-j];exact Lv.new.add.add.add.add.add
 have i1:Lv q (H.ab+1) (.cells 3 (((Tr.e.put 0 (some (ae 0))).put 1 (some (ae 0))).put 2 (some (ae 0))) false):=by rw[<-j];exact(Lv.new (H:=H.add _)).add.add.add.add
 have i2:Lv q (H.ab+2) (.cells 1 (Tr.e.put 0 (some (bl false))) false):=by rw[<-j];exact(Lv.new (H:=(H.add _).add _)).add.add.add
 have i3:Lv q (H.ab+3) (.cells 1 (Tr.e.put 0 (some (.ptr r 0))) false):=by rw[<-j];exact(Lv.new (H:=((H.add _).add _).add _)).add.add
 have i4:Lv q (H.ab+4) .deferred:=by rw[<-j];exact(Lv.new (H:=(((H.add _).add _).add _).add _)).add
 have i5:Lv q (H.ab+5) (LR.ob L .ready none):=by rw[<-j];exact Lv.new
 have g5:I [] H q:=by rw[<-j];exact((((aw.add _).add _).add _).add _).add _|>.add _
 clear j
 have eL:L.ps=[10,11]/\L.size=18:=by rw[<-hL];exact⟨rfl,rfl⟩
 refine(aoS (HB:=HB) (vf:=vf) (λ f b i K=>cj f b i K/\Lv K H.ab (.cells 1 (Tr.e.put 0 (some (J.fn ff fa fc))) false)/\Lv K (H.ab+1) (.cells 3 (((Tr.e.put 0 (some (ae 0))).put 1 (some (ae 0))).put 2 (some (ae 0))) false)/\Lv K (H.ab+2) (.cells 1 (Tr.e.put 0 (some (bl false))) false)/\Lv K (H.ab+4) .deferred/\Lv K (H.ab+5) (LR.ob L .ready none)) (λ K=>∃(f b i:Nat) (x:bp),At p f b i x/\bZ f b i K/\(∃t,Lv K (H.ab+1) (.cells 3 t false)/\AV t 0 (ae f)/\AV t 1 (ae b)/\AV t 2 (ae i))/\(∃t,Lv K (H.ab+2) (.cells 1 t false)/\AV t 0 (bl true))/\Lv K (H.ab+4) .deferred/\Lv K (H.ab+5) (LR.ob L .done (some .ret))) hw (λ f b i K h=>hB _ _ _ _ h.1) (λ f b i K T h g=>⟨B _ _ _ _ _ h.1 ?_,h.2.1.ai g,h.2.2.1.ai g,h.2.2.2.1.ai g,h.2.2.2.2.1.ai g,h.2.2.2.2.2.ai g⟩) ⟨B _ _ _ _ _ h0 (g5.n aF),i0,i1,i2,i4,i5⟩ ⟨_,_,i3.get,ζ⟩ ?_ (λ f b fn bk K O U h=>⟨hb _ _ _ _ _ O U h.1,h.2⟩) (λ f fn K O h=>⟨hg _ _ _ O h.1,h.2⟩)).mono ?_
 .exact g.n (tL h.2.1.lt)
 .rintro f b i x M K V ⟨Q,k0,k1,k2,k4,z⟩ Z
  simp;obtain⟨va,vl,rfl,kl,mO,hr⟩:=Z;refine Hu (λ Y C=>∃s t6 t7,Y=⟨s,18,[],some (H.ab+5),241⟩/\s.get 3=some (.ptr H.ab 0)/\s.get 4=some (.ptr (H.ab+1) 0)/\s.get 5=some (.ptr (H.ab+2) 0)/\s.get 6=some (.ptr K.ab 0)/\s.get 7=some (.ptr (K.ab+1) 0)/\I [] K C/\Lv C K.ab (.cells 3 t6 false)/\bc t6 0 3=some [ae f,ae b,ae i]/\Lv C (K.ab+1) (.cells 8 t7 false)/\bc t7 0 8=some [u8 x.op,str x.dst,str x.a,str x.b,ae x.n,str x.fn,va,vl]) z.get (by rw[eL.1];rfl) (by rw[eL.1,eL.2];simp) ?_ ?_
  .rw[<-hL];simp[kl.cell,mO.cell,bc];refine⟨(I.new aw _ _).trans (I.new aw _ _),_,(Lv.new (H:=K)).put_eq.add.eu (bC (sx _)),ζ,_,(Lv.new (H:=(K.add _).put _ _)).put_eq,ζ⟩
  .rintro Y C ⟨s,t6,t7,rfl,s3,s4,s5,s6,s7,w,q6,r6,q7,r7⟩;refine⟨none,L,(z.ai w).get,?_⟩;have m0:=(k0.ai w).eu (k:=H.ab+5) (o':=some (LR.ob L .busy none)) ω;have m1:=(k1.ai w).eu (k:=H.ab+5) (o':=some (LR.ob L .busy none)) ω;have m2:=(k2.ai w).eu (k:=H.ab+5) (o':=some (LR.ob L .busy none)) ω;have eO:=z.lt;have m4:=(k4.ai w).eu (k:=H.ab+5) (o':=some (LR.ob L .busy none)) ω;have X:=q6.eu (k:=H.ab+5) (o':=some (LR.ob L .busy none)) ω;have m7:=q7.eu (k:=H.ab+5) (o':=some (LR.ob L .busy none)) ω;have m5:=(z.ai w).put_eq (o':=LR.ob L .busy none);have gN:lO H.ab K (C.put (H.ab+5) (some (LR.ob L .busy none))):=(w.n ω).put ω;generalize C.put (H.ab+5) (some (LR.ob L .busy none))=K2 at m0 m1 m2 m4 m5 X m7 gN;rw[<-iQ LR.bd hL];dsimp only;simp[s3,s6,s7,m0.get,X.get,m7.get,bY r6,bY r7];have gA:=hB _ _ _ _ Q;have LH:HB.ab<=H.ab:=(hB _ _ _ _ h0).ab;have hJ2:=B _ _ _ _ _ Q gN;refine vM (hf f b i x _ K2 V hJ2 ⟨va,vl,rfl,kl,mO,hr⟩) ?_;rintro v T ⟨A,c,rfl,O,U⟩;have n0:=m0.u A aF;have n1:=m1.u A ω;have n2:=m2.u A ω;have n4:=m4.u A ω;have n5:=m5.u A ω;have n6:=X.u A ω;cases c with
   |true=>
    simp[s4,s5,s6,n1.get,n2.get,n6.get,bY r6]
    have a1:=(n1.put_eq (o':=.cells 3 ((((((Tr.e.put 0 (some (ae 0))).put 1 (some (ae 0))).put 2 (some (ae 0))).put 0 (some (ae f))).put 1 (some (ae b))).put 2 (some (ae i))) false)).eu (k:=H.ab+2) (o':=some (.cells 1 ((Tr.e.put 0 (some (bl false))).put 0 (some (bl true))) false)) ω
    have a2:=(n2.eu (k:=H.ab+1) (o':=some (.cells 3 ((((((Tr.e.put 0 (some (ae 0))).put 1 (some (ae 0))).put 2 (some (ae 0))).put 0 (some (ae f))).put 1 (some (ae b))).put 2 (some (ae i))) false)) ω).put_eq (o':=.cells 1 ((Tr.e.put 0 (some (bl false))).put 0 (some (bl true))) false)
    have a5:=(n5.eu (k:=H.ab+1) (o':=some (.cells 3 ((((((Tr.e.put 0 (some (ae 0))).put 1 (some (ae 0))).put 2 (some (ae 0))).put 0 (some (ae f))).put 1 (some (ae b))).put 2 (some (ae i))) false)) ω).eu (k:=H.ab+2) (o':=some (.cells 1 ((Tr.e.put 0 (some (bl false))).put 0 (some (bl true))) false)) ω
    have a4:=(n4.eu (k:=H.ab+1) (o':=some (.cells 3 ((((((Tr.e.put 0 (some (ae 0))).put 1 (some (ae 0))).put 2 (some (ae 0))).put 0 (some (ae f))).put 1 (some (ae b))).put 2 (some (ae i))) false)) ω).eu (k:=H.ab+2) (o':=some (.cells 1 ((Tr.e.put 0 (some (bl false))).put 0 (some (bl true))) false)) ω
    refine⟨_,_,L,a5.get,.inl ⟨rfl,f,b,i,⟨x,V⟩,hd _ _ _ _ _ (O rfl) ((((lO.refl _ _).put ?_).put ?_).put ?_),⟨_,a1.eu ?_,?_⟩,⟨_,a2.eu ?_,?_⟩,a4.eu ?_,a5.put_eq⟩⟩<;>first|omega|simp
   |false=>
    simp
    refine⟨_,_,L,n5.get,.inr ⟨rfl,B _ _ _ _ _ (U rfl) ((lO.refl _ _).put ω),n0.eu ω,n1.eu ω,n2.eu ω,n4.eu ω,n5.put_eq⟩⟩
 .rintro _ K (⟨f,b,i,x,V,hD,⟨t,q1,t0,t1,t2⟩,⟨t',q2,W⟩,q4,q5⟩|⟨Q,k0,k1,k2,k4,z⟩)
  .refine⟨_,_,L,q5.get,ζ,?_⟩;have G:=q1.eu (k:=H.ab+5) (o':=some (LR.ob L .exhausted (some .ret))) ω;have F:=q2.eu (k:=H.ab+5) (o':=some (LR.ob L .exhausted (some .ret))) ω;have z4:=q4.eu (k:=H.ab+5) (o':=some (LR.ob L .exhausted (some .ret))) ω;have N:=hd _ _ _ _ _ hD ((lO.refl _ _).put (k:=H.ab+5) (o:=some (LR.ob L .exhausted (some .ret))) ω);have e1:bc t 0 3=some [ae f,ae b,ae i]:=by simp[bc,t0,t1,t2]
   show MX E0 _ .ret _ _ _;generalize K.put (H.ab+1+1+1+1+1) (some (LR.ob L .exhausted (some .ret)))=K9 at G F z4 N;simp[G.get,F.get,z4.get,bY e1,W];exact⟨f,b,i,⟨rfl,rfl,rfl⟩,⟨x,V⟩,hd _ _ _ _ _ N ((lO.refl _ _).put ω)⟩
  .refine⟨_,_,L,z.get,ζ,?_⟩;have G:=k1.eu (k:=H.ab+5) (o':=some (LR.ob L .exhausted none)) ω;have F:=k2.eu (k:=H.ab+5) (o':=some (LR.ob L .exhausted none)) ω;have z4:=k4.eu (k:=H.ab+5) (o':=some (LR.ob L .exhausted none)) ω;have Gm:=B _ _ _ _ _ Q ((lO.refl _ _).put (k:=H.ab+5) (o:=some (LR.ob L .exhausted none)) ω);show aD E0 _ _ _ _;generalize K.put (H.ab+1+1+1+1+1) (some (LR.ob L .exhausted none))=K9 at G F z4 Gm;have w2:¬H.ab+1+1=H.ab:=ω
   have w3:¬H.ab+1+1+1=H.ab:=ω
   have w4:¬H.ab=H.ab+1+1:=ω
   simp[G.get,F.get,z4.get,w2,w3];refine B _ _ _ _ _ Gm ((((lO.refl _ _).put ?_).put ?_).put ?_)<;>omega
section
variable{E:aK}{t:aS}{k yk:IntKind}{a b x y:Int}{H:D}
def KX:fh E .and t (.lit (.int k a)) (.lit (.int k b)) H=val (.lit (.int k (Go.bits .and k a b))) H:=by simp[fh,Go.binOp,lY,pure,Op.intBits,Go.bits]
def Zh:fh E .or t (.lit (.int k a)) (.lit (.int k b)) H=val (.lit (.int k (Go.bits .or k a b))) H:=by simp[fh,Go.binOp,lY,pure,Op.intBits,Go.bits]
def afM(h:0<=y)(O:y<=k.bits):fh E .shr t (.lit (.int k x)) (.lit (.int yk y)) H=val (.lit (.int k (x/2^y.toNat))) H:=by simp[fh,Go.binOp,lY,pure,shift_shr k yk x y h O]
def afL(h:0<=y)(O:y<=k.bits):fh E .shl t (.lit (.int k x)) (.lit (.int yk y)) H=val (.lit (.int k (k.wrap (x*2^y.toNat)))) H:=by simp[fh,Go.binOp,lY,pure,shift_shl k yk x y h O]
def Tq(h:0<=y)(O:y<=64):fh E .shr t (.lit (.int .u64 x)) (.lit (.int yk y)) H=val (.lit (.int .u64 (x/2^y.toNat))) H:=afM h O
def afN(h:0<=y)(O:y<=64):fh E .shr t (.lit (.int .i64 x)) (.lit (.int yk y)) H=val (.lit (.int .i64 (x/2^y.toNat))) H:=afM h O
def anj(h:0<=y)(O:y<=64):fh E .shl t (.lit (.int .u64 x)) (.lit (.int yk y)) H=val (.lit (.int .u64 (IntKind.wrap .u64 (x*2^y.toNat)))) H:=afL h O
def ani(h:0<=y)(O:y<=64):fh E .shl t (.lit (.int .i64 x)) (.lit (.int yk y)) H=val (.lit (.int .i64 (IntKind.wrap .i64 (x*2^y.toNat)))) H:=afL h O
@[simp]def aHg{kk:aC->R β}{d:R β}:lY (Conv.intToInt k x) kk d=kk (.int k (k.wrap x)):=rfl
def wrap_u64{x:Int}(h:0<=x)(O:x<18446744073709551616):IntKind.wrap .u64 x=x:=by rw[IntKind.wrap_u64];omega
end
section
variable{E:aK}{t e:aS}{d:TypeDesc}{bs a0 b0:Nat}{z0 z:AU}{K:D}
def afU:aB r f (Nat.ble f r)=min f r:=by
 cases h:Nat.ble f r with
 |true=>rw[pS,FU (by simpa using h)]
 |false=>
  rw[Di,Nat.min_eq_right]
  rcases YM f r with j|j
  .rw[show Nat.ble f r=true by simpa using j]at h;cases h
  .exact j
def af6(j:E.tt.get t=some ⟨.slice e,a0,b0,z0⟩)(he:E.tt.get e=some ⟨d,1,bs,z⟩){n m:Nat}{u:CX}(q:K.get f=some (.cells n u false))(C:K.get lJ=some (.cells n2 u2 qW))(B:m=min m2 l0)(D:0<m)(hr:bc u2 lU m=some fc)(h:fX fc=true)(O:r+l0<=n)(U:lU+m<=n2):AF E t (.sl f r 1 l0 dH ex) (.sl lJ lU 1 m2 c2 kY) K=val (.lit (.int .i64 m)) (K.put f (some (.cells n (u.iM r fc) false))):=by
 unfold AF tS Ng Pr
 rw[vW,j]
 dsimp only
 rw[vW,he]
 dsimp only
 rw[afU,Pz,<-B]
 obtain⟨m',rfl⟩:∃m',m=m'+1:=⟨m-1,ω⟩
 have A:m'+1<=l0:=ω
 have w:m'+1<=m2:=ω
 simp[qS,C,q,bY hr,O,U,A,w,h]
def ao4(h:E.tt.get t=some ⟨.slice e,a0,b0,z0⟩)(he:E.tt.get e=some ⟨d,1,bs,z⟩)(B:min m2 l0=0):AF E t (.sl f r 1 l0 dH ex) (.sl lJ lU 1 m2 c2 kY) K=val (.lit (.int .i64 0)) K:=by
 unfold AF tS Ng Pr
 rw[vW,h]
 dsimp only
 rw[vW,he]
 dsimp only
 rw[afU,Pz,B]
 rfl
def Fi{r:R dS}(h:r=val v T)(j:MD E dst v k Y T aj):MO E r dst k Y aj:=by rw[h];exact j
end
def jF(p:List aQ)(q:Nat->Nat->Nat->bp->Bool):Prop:=∃f b i x,At p f b i x/\q f b i x=true
def aqm{p:List aQ}{fa:AU}(q:Nat->Nat->Nat->bp->Bool)(hw:lD HB p vf r l0)(J:I [] HB H)(G:∀f b i x M K,At p f b i x->I [] H K->ku HB x M->CF E0 (.fn ff fa fc) [wV f b i,.agg M] K λ v T=>v=bl (q f b i x)/\I [] K T):CN 241 [.ptr r 0,.fn ff fa fc] H λ v K=>∃(f b i:Nat) (c:Bool),v=.dh [wV f b i,bl c]/\(jF p q->c=true)/\I [] H K:=by
 refine(agO (λ f b i K=>I [] H K/\∀f' b' i' x,At p f' b' i' x->yS f' b' i' f b i->q f' b' i' x=false) (λ f b i K=>I [] H K) hw (λ f b i K h=>J.trans h.1) (λ f b i K T h g=>⟨h.1.C0 g aF,h.2⟩) (λ f b i K T h g=>h.C0 g aF) ⟨aw,λ f' b' i' x _ h=>by unfold yS at h;omega⟩ ?_ ?_ ?_).mono ?_
 .rintro f b i x M K z ⟨g,w⟩ Z
  refine(G f b i x M K z g Z).mono ?_;rintro v T ⟨rfl,B⟩;refine⟨B.u _,_,rfl,λ h=>g.trans B,λ h=>⟨g.trans B,λ f' b' i' C j A=>?_⟩⟩;by_cases he:f'=f/\b'=b/\i'=i
  .obtain⟨rfl,rfl,rfl⟩:=he;have⟨fn,bk,Q,N,a3⟩:=z;have⟨D,F,b1,b2,b3⟩:=j;rw[Q]at b1;cases b1;rw[N]at b2;cases b2;rw[a3]at b3;cases b3;exact h
  .exact w _ _ _ _ j (by unfold yS at A⊢;omega)
 .rintro f b fn bk K O U ⟨g,w⟩
  refine⟨g,λ f' b' i' C j A=>w _ _ _ _ j ?_⟩;have⟨D,F,b1,b2,b3⟩:=j;unfold yS at A⊢;by_cases he:f'=f/\b'=b
  .obtain⟨rfl,rfl⟩:=he;rw[O]at b1;cases b1;rw[U]at b2;cases b2;have:=(cW.1 b3).1;omega
  .omega
 .rintro f fn K O ⟨g,w⟩
  refine⟨g,λ f' b' i' C j A=>w _ _ _ _ j ?_⟩;have⟨D,F,b1,b2,b3⟩:=j;unfold yS at A⊢;by_cases he:f'=f
  .subst he;rw[O]at b1;cases b1;have:=(cW.1 b2).1;omega
  .omega
 .rintro v K (⟨f,b,i,x,rfl,z,g⟩|⟨rfl,g,w⟩)
  .exact⟨f,b,i,true,rfl,λ _=>rfl,g⟩
  .refine⟨0,0,0,false,rfl,?_,g⟩;rintro⟨f,b,i,x,z,Z⟩;have V:f<p.length:=by have⟨fn,bk,O,_⟩:=z;exact(cW.1 O).1
   rw[w f b i x z (by unfold yS;omega)]at Z;exact Z
def ag1{p:List aQ}(cj:Nat->D->Prop)(bZ:Nat->D->Prop)(hw:lD HB p vf r l0)(J:∀f K,cj f K->I [] HB K)(B:∀f K T,cj f K->lO H.ab K T->cj f T)(hd:∀f K T,bZ f K->lO H.ab K T->bZ f T)(N:cj 0 H)(hf:∀f x M K,p[f]?=some x->cj f K->qe HB x M->CF E0 s [ae f,.agg M] K λ v T=>Su H.ab K T/\∃c,v=bl c/\(c=true->bZ f T)/\(c=false->cj (f+1) T)):CN 236 [.ptr r 0,s] H λ v K=>(∃(f:Nat) (x:aQ),v=.dh [wV f 0 0,bl true]/\p[f]?=some x/\bZ f K)\/(v=.dh [wV 0 0 0,bl false]/\cj p.length K):=by
 refine im ar9 rfl ?_
 have⟨t',sY,F,h4,h5⟩:=hw.ob
 have z:=hw.pr
 have O:=J _ _ N
 simp[bC (F.ai O).lt,(F.ai O).get,h4,z.aN nf]
 generalize G:D.add _ _=H1
 have a1:Lv H1 H.ab (.cells 3 (((Tr.e.put 0 (some (ae 0))).put 1 (some (ae 0))).put 2 (some (ae 0))) false):=by rw[<-G];exact Lv.new
 have gH:I [] H H1:=by rw[<-G];exact(I.refl [] H).add _
 clear G
 refine CA (λ f sl K=>cj f K/\Lv K H.ab (.cells 3 (((Tr.e.put 0 (some (ae 0))).put 1 (some (ae 0))).put 2 (some (ae 0))) false)/\AV sl 1 s/\AV sl 4 (.ptr H.ab 0)/\AV sl 12 vf/\AV sl 13 (ae p.length)/\AV sl 14 (ae f)/\f<=p.length) p.length ⟨B _ _ _ N (gH.n aF),a1,ζ⟩ ?_
 rintro b1 k1-cq f sl K ⟨w,c4,s1,q,Q,A,C,kH⟩ X
 by_cases h:f<p.length
 .have⟨kQ,ig,kD,iR,n1,t1,py,kE,V,cT,iy,eZ,eI⟩:=z.at_ h
  obtain⟨vp,vb,rfl,U,W⟩:=eI;have g1:=J _ _ w;simp[s1,Q,A,C,h,V,(cT.ai g1).get,bY eZ,iy,U.cell,W.cell];refine vM (hf f p[f] _ _ (bf h) (B _ _ _ w ((I.new aw _ _).n ?_)) ⟨vp,vb,rfl,U,W⟩) ?_
  .exact tL c4.lt
  rintro v T ⟨gU,c,rfl,q1,Z⟩;have j:=(c4.ai (I.new (I.refl [] K) _ _)).u gU aF;cases c with
  |true=>
   simp[q,j.get]
   exact⟨f,rfl,⟨_,bf h⟩,hd _ _ _ (q1 rfl) ((lO.refl _ _).put aF)⟩
  |false=>
   simp[C,bq (aT h z.cP)]
   exact X ω ⟨Z rfl,j,by simp[s1,q,Q,A,dz h,V]⟩
 .obtain rfl:f=p.length:=ω
  subst cq;simp[A,C,q,c4.get];exact B _ _ _ w ((lO.refl _ _).put aF)
def ayU{x:aQ}(s:aI)(H:D)(Z:qe HB x M)(h:Lv H f (.cells 1 t kY))(u:AV t 0 (str s)):CN 265 [.agg M,.ptr f 0] H λ v H'=>v=bl (decide (x.name=s))/\I [] H H':=by
 obtain⟨vp,vb,rfl,j,q⟩:=Z
 refine im asE rfl ?_
 simp[j.cell,q.cell,bC h.lt,h.get,u]
 exact aw.add _
def WE{p:List aQ}(s:aI)(H:D)(hw:lD HB p vf f r)(q:I [] HB H):CN 238 [.ptr f 0,str s] H λ v K=>v=ae (idxOf (λ x=>decide (x.name=s)) p)/\I [] H K:=by
 refine im asb rfl ?_
 have⟨t',z,F,w,A⟩:=hw.ob
 have j:=F.ai q
 simp[bC j.lt,j.get,w]
 have g:I [] H (H.add (.cells 1 (Tr.e.put 0 (some (str s))) false)):=aw.add _
 refine CW (DN.p VW.2.1 (p:=λ x=>decide (x.name=s)) (hw.pr.zB (q.trans g)) ?_) ?_
 .rintro x Z M K h u
  simp;exact ayU s K u (Lv.new.ai h) ζ
 .rintro v K ⟨rfl,h⟩
  simp[g.trans h]
def RA(aG:Prop)(H:D)(v:J)(K:D):Prop:=∃(f b i:Nat) (c:Bool),v=.dh [wV f b i,bl c]/\(aG->c=true)/\I [] H K
def sj(au:fD)(HB:D)(id:Nat)(aG:Prop):Prop:=∀H,I [] HB H->CN au [.ptr id 0] H (RA aG H)
def Cw(K:D)(h id:Nat):Prop:=∃t,Lv K h (.cells 1 t false)/\AV t 0 (.ptr id 0)
def Cw.W(h:Cw K f r)(g:I [] K T):Cw T f r:=let⟨t,O,U⟩:=h;⟨t,O.ai g,U⟩
section
variable{p:List aQ}{HB:D}{id mid:Nat}{vf:J}
def BH(au j:fD):Prop:=∀{p:List aQ} {HB:D} {id mid:Nat} {vf:J} (q:Nat->Nat->Nat->bp->Bool),lD HB p vf id mid->
    (∀h f b i x M K,Cw K h id->At p f b i x->I [] HB K->ku HB x M->CN j [wV f b i,.agg M,.ptr h 0] K λ v T=>v=bl (q f b i x)/\I [] K T)->sj au HB id (jF p q)
def RL:BH 199 252/\BH 200 253/\BH 197 245/\BH 198 248/\BH 195 243:=by
 refine⟨?_,?_,?_,?_,?_⟩<;>intro p HB id mid vf q hw w H u;all_goals
  first
   |refine im arG rfl ?_|refine im arI rfl ?_|refine im arE rfl ?_|refine im arF rfl ?_|refine im arC rfl ?_
  simp;generalize h:D.add _ _=H1;have a0:Cw H1 H.ab id:=by rw[<-h];exact⟨_,Lv.new.add,ζ⟩
  have B:Lv H1 (H.ab+1) (.cells 3 (((Tr.e.put 0 (some (ae 0))).put 1 (some (ae 0))).put 2 (some (ae 0))) false):=by rw[<-h];exact Lv.new (H:=H.add _)
  have j:I [] H H1:=by rw[<-h];exact((I.refl [] H).add _).add _
  have en:H1.ab=H.ab+2:=by rw[<-h];rfl
  clear h;refine CW (aqm q hw (u.trans j) ?_) ?_
  .intro f b i x M K A g Z;simp;exact w _ f b i x M K (a0.W g) A (u.trans (j.trans g)) Z
  .rintro v K ⟨f,b,i,c,rfl,z,g⟩;have C:=B.ai g;simp[C.get];exact⟨f,b,i,c,rfl,z,(j.trans g).put (.inl ω)⟩
def azo:BH 199 252:=RL.1
def ane:BH 200 253:=RL.2.1
def anw:BH 197 245:=RL.2.2.1
def azs:BH 198 248:=RL.2.2.2.1
def anr:BH 195 243:=RL.2.2.2.2
def isNone(p:List aQ)(s:aI):Bool:=decide (idxOf (λ x=>decide (x.name=s)) p<0)
def JO(p:List aQ)(x:bp):Bool:=(decide (x.op=10)||decide (x.op=4))&&isNone p x.fn
def azn(hw:lD HB p vf id mid):sj 199 HB id (jF p λ _ _ _ x=>JO p x):=by
 refine azo _ hw ?_;rintro w f b i x M K ⟨t,O,U⟩ B g ⟨va,vl,rfl,q,j,hr⟩;refine im ass rfl ?_;have A:¬w=K.ab:=bC O.lt;have z:¬w=K.ab+1:=by have:=O.lt;omega
 have h:=λ o o'=>((I.refl [] K).add o).add o';by_cases c1:x.op=10
 .simp[q.cell,j.cell,c1,O.get,U,A,z];refine CW (WE x.fn _ hw (g.trans (h _ _))) ?_;rintro v T ⟨rfl,u⟩;simp[JO,isNone,c1];exact(h _ _).trans u
 .by_cases c2:x.op=4
  .simp[q.cell,j.cell,c2,O.get,U,A,z];refine CW (WE x.fn _ hw (g.trans (h _ _))) ?_;rintro v T ⟨rfl,u⟩;simp[JO,isNone,c2];exact(h _ _).trans u
  .simp[q.cell,j.cell,c1,c2,JO];exact h _ _
end
end
end Go.Proofs.YtgipmaoplfkdoaaGreatDoor
