import Derived.Test.YtgipmaoplfkdoaaGreatDoorM1
import Derived.Test.YtgipmaoplfkdoaaGreatDoorProg
import Derived.Ground.GgzProg
import Derived.Ground.SlgmProg
import Derived.Lib.Strings
import Derived.Lib.Walk
import Derived.Test.YtgipmaoplfkdoaaGreatDoorRows
import Derived.Test.YtgipmaoplfkdoaaGreatDoorTie
import Derived.ProofKit
import Derived.LaidMore
import Derived.OpenShut
import Derived.Stop.Joined
import Derived.ChangeOld
import Derived.Deep.Strs
import Derived.ChangeArms
set_option linter.all false
set_option maxRecDepth 100000
set_option maxHeartbeats 400000000
namespace Go.Proofs.YtgipmaoplfkdoaaGreatDoor
noncomputable section
open Go.RowKit
instance aIy(n:Nat):OfNat di n:=⟨.op n⟩
@[simp]def aIQ(n:Nat):(OfNat.ofNat n:di)=.op (OfNat.ofNat n):=rfl
abbrev Pl:=List di
def bo:Pl:=[0,1,2,3,4,5,6,7,8,9]
def ab3:Pl:=bo++[10,11,12,.wr 13 []]
def ab4:Pl:=bo++[10]
def abW:Pl:=[0,1,2,3,4,5,6,.wr 7 []]
def abX:Pl:=bo++[10,.wr 11 []]
def abY:Pl:=[0,1,2,3,4,5,6,.wr 7 [0],8,9,.wr 10 []]
def abZ:Pl:=[0,1,2,3,4,5,6,7,.wr 8 []]
def ab0:Pl:=bo++[.wr 10 []]
def ab1:Pl:=bo++[10,11,12,13,14,.wr 15 [0],16,17,.wr 18 []]
def ab2:Pl:=bo++[10,11,.wr 12 [0],13,14,.wr 15 []]
def aci:Pl:=[0,1,2,3,4,.wr 5 [4],.wr 6 [4],7,8,9,.wr 10 [],11,12,.wr 13 []]
def acf:Pl:=bo++[10,11,12,13,14,.wr 15 [3,5],.wr 16 []]
def acg:Pl:=[0,1,2,3,4,5,.wr 6 [2],.wr 7 []]
def ach:Pl:=bo++[10,11,12,13,14,.wr 15 [3,5],.wr 16 []]
def acj:Pl:=[0,1,2,3,4,5,6,7,8,9]
def acy:Pl:=bo++[10,11,12,13,.wr 14 []]
def acB:Pl:=[0,1,2,3,4,9,.wr 5 [],6,7,8,.wr 10 [],11]
def acC:Pl:=[0,1,2,3,4,5,.wr 6 [],7,8,9,10,11]
def acz:Pl:=[0,1,2,3,4,5,6,7,.wr 8 [],9,10,11,12,13]
def acA:Pl:=[0,1,2,3,4,5,6,7,10,11,12,.wr 8 [11,12],9,13,14]
def acI:Pl:=bo++[.wr 10 []]
def acJ:Pl:=bo++[.wr 10 []]
def acK:Pl:=bo++[10,11,12,13,14,15,16,17,18]
def acL:Pl:=bo++[10,.wr 11 [],.wr 12 [],13]
def acS:Pl:=[0,1,2,3,4]
def acT:Pl:=[0,1,.wr 2 [0],3,.wr 4 [],.wr 5 []]
def acV:Pl:=[0,1,2,3,4,5,7,8,9,10,.wr 6 [10],.wr 11 [],12,13,.wr 14 [],15,16,.wr 17 []]
def acU:Pl:=bo++[10,11,.wr 12 [3],13,.wr 14 []]
def acW:Pl:=bo++[10]
def acX:Pl:=[0,1,2,3,4,5,.wr 6 []]
def acY:Pl:=[0,1,2,3,4,5,6,.wr 7 [],8,9,.wr 10 []]
def acZ:Pl:=bo++[10,11,12,13,14,15]
def ac5:Pl:=bo++[10,11,12,13,.wr 14 [],15,.wr 16 []]
def ac0:Pl:=bo++[10,11,12,13,14,15,16,17,18,19,.wr 20 []]
def ac1:Pl:=bo++[10,11,12,13,14,15,16,17,18,19,.wr 20 []]
def ac2:Pl:=bo++[10,11,12,13,14,15,16,.wr 17 [3],.wr 18 []]
def ac3:Pl:=bo++[10,11,12,13,14,15,16,17,18,19,20]
def ac4:Pl:=bo++[10,11,12,13,14,15,16,17,18,.wr 19 []]
def ac6:Pl:=[0,1,2,3,.wr 4 [0],5,6,.wr 7 [],.wr 8 []]
def ac7:Pl:=[0,1,2,3,4,5,6,.wr 7 [],8,9,10,11,12]
def ac8:Pl:=[0,1,2,3,4,.wr 5 [2],.wr 6 []]
def ac9:Pl:=bo++[10,11,12,13,.wr 14 [4,6,8],15,.wr 16 []]
def ada:Pl:=[0,1,2,3,4,5,6,7,.wr 8 [],9,10,11,12,13,14,15]
def adb:Pl:=[0,1,2,3,4,5,6,7,8,.wr 9 [],10,11,12,13,14]
def ade:Pl:=[0,1,2,3,4,5,6,8,9,10,11,12,.wr 7 [11],.wr 13 [],14,.wr 15 []]
def adf:Pl:=[0,1,2,3,4,5,6,8,9,10,11,12,13,.wr 7 [13],.wr 14 [],.wr 15 []]
def adg:Pl:=[0,1,2,3,4,5,6,8,9,10,11,12,13,15,16,.wr 7 [13],14,.wr 17 []]
def adh:Pl:=[0,1,2,3,4,5,7,8,9,10,11,12,.wr 6 [12],.wr 13 [],14,15]
def adi:Pl:=[0,1,2,3,4,5,6,7,8,.wr 9 [],10,11,12,13,14]
def adj:Pl:=bo++[12,.wr 10 [3],11,.wr 13 []]
def adk:Pl:=[0,1,2,3,.wr 4 [1],5,.wr 6 [],7,.wr 8 []]
def adl:Pl:=[0,1,2,3,4,5,6,.wr 7 [],8,9,.wr 10 []]
def adm:Pl:=bo++[10,11,12,13]
def adn:Pl:=[0,1,3,4,.wr 2 [4],6,.wr 5 [],.wr 7 [],8,.wr 9 []]
def abL:Pl:=[0,1,2,3,4,5,6,7,8,9]
def abK:Pl:=[0,1,2,3,4,5,6,7,8,9]
def abM:Pl:=[0,1,2,3,4,5,6,7,8,.wr 9 [],10,11,.wr 12 [],13,14,.wr 15 [],16,17,.wr 18 []]
def abN:Pl:=[0,1,2,3,4,5,7,8,9,.wr 6 [],10,.wr 11 []]
def abO:Pl:=[0,1,2,3,5,.wr 4 [0],6,.wr 7 []]
def abP:Pl:=bo++[10]
def abR:Pl:=[0,1,2,3,5,.wr 4 [0,1],6,7,8]
def abQ:Pl:=[0,1,2,3,4,5,6,7,8,.wr 9 []]
def abS:Pl:=bo++[10]
def abT:Pl:=bo++[10,11,12,13,14,15,16,17,18]
def abU:Pl:=[0,1,2,3,4,5,6,.wr 7 [],8,9,.wr 10 []]
def abV:Pl:=bo++[.wr 10 [],11,12,13,14,15]
def ab5:Pl:=[0,1,2,3,4,5,6,.wr 7 [],8,9]
def aca:Pl:=bo++[10,11,12]
def acb:Pl:=bo++[10,11,12,13]
def ab6:Pl:=bo++[10,11,12,13,14,15,16,17,18,19,20,.wr 21 []]
def ab7:Pl:=bo++[10,11,12,13,14,15,16,17,18,19,20,.wr 21 []]
def ab8:Pl:=bo++[10,11,12,13,14]
def ab9:Pl:=[0,1,2,3,4,5,6,7,8,.wr 9 []]
def acd:Pl:=[0,1,2,3,4,6,7,8,9,10,11,.wr 5 [3,9,11],.wr 12 [3],13,14,15,16,.wr 17 []]
def ace:Pl:=[0,.wr 1 [0],2,3,4]
def ack:Pl:=bo++[10,11,12,13,14,15,16,17,18,.wr 19 [],20,.wr 21 []]
def acm:Pl:=[0,1,2,3,4,5,6,.wr 7 [0],8,9,.wr 10 []]
def acn:Pl:=bo++[10,11,12,13,14,15,16,.wr 17 [13,14],18]
def aco:Pl:=[0,1,2,3,4,5,6,7,.wr 8 []]
def acp:Pl:=[0,1,3,4,5,6,7,8,.wr 2 [5,6],9]
def acq:Pl:=[0,1,2,3,4,5,6,7,8,.wr 9 []]
def acr:Pl:=[0,1,2,3,4,5,6,7,8]
def acs:Pl:=[0,1,2,3,4,5,6,7,8]
def acu:Pl:=bo++[10,11,12,13,.wr 14 [],15,16]
def acv:Pl:=[0,1,2,3,4,5,6,7,8]
def acw:Pl:=[0,1,2,3,4,5,6,7,.wr 8 [0],.wr 9 [],10]
def acx:Pl:=bo++[10,11,12,13,14,.wr 15 [],16,17]
def acD:Pl:=bo++[10,.wr 11 [],12]
def acE:Pl:=bo++[10,11,12,13,14,15,16,17,18]
def acF:Pl:=bo++[10,.wr 11 [],12,13]
def acG:Pl:=bo++[10,11,12,13,14,15,16,17,18,19,20,21,22,23]
def acH:Pl:=bo++[10,11,12,.wr 13 [],14,.wr 15 []]
attribute [simp] bo ab3 ab4 abW abX abY abZ ab0 ab1 ab2 aci acf acg ach acj acy acB acC acz acA acI acJ acK acL acS acT acV acU acW acX acY acZ ac5 ac0 ac1 ac2 ac3 ac4 ac6 ac7 ac8 ac9 ada adb ade adf adg adh adi adj adk adl adm adn abL abK abM abN abO abP abR abQ abS abT abU abV ab5 aca acb ab6 ab7 ab8 ab9 acd ace ack acm acn aco acp acq acr acs acu acv acw acx acD acE acF acG acH
abbrev Rw:=List (Nat×List di)
def RD:Rw:=[(10,[0,1,2,3,4,5,6,7,9,10,11,12,13,14,15,16,.wr 8 [12,16],.wr 17 [],18,19]),(14,[0,1,2,3,4,5,6,7,.wr 8 [],9]),(18,[0,1,2,3,4,5,6,7,9,.wr 8 [],.wr 10 [],11,12,13,14,15,16,17,18,19,20,22,.wr 21 [],.wr 23 [],24,25])]
def r11:Rw:=[(11,[0,1,2,3,4,9,.wr 5 [],6,7,8,.wr 10 [],11]),(15,[0,1,2,3,4,5,6,.wr 7 [],8,9,10,11,12]),(28,[0,1,2,3,4,5,7,.wr 6 [],.wr 8 [],9]),(31,[0,1,2,3,4,.wr 5 [],6]),(35,bo++[11,.wr 10 [],.wr 12 [],13,14]),(36,bo++[11,.wr 10 [],.wr 12 [],13,14]),(37,[0,1,2,3,4,6,8,.wr 5 [],.wr 7 [],9,10,11,12,13,14,15,17,19,.wr 16 [],.wr 18 [],20,21]),(42,[0,1,2,3,4,6,7,8,9,10,.wr 5 [9],.wr 11 [],.wr 12 [],13,14,15,16,17,18,19,21,22,23,24,25,.wr 20 [24],.wr 26 [],.wr 27 [],28,29])]
def r14:Rw:=[(7,ab3),(8,ab4),(11,abW),(13,abX),(18,abY),(20,abZ),(22,ab0),(23,ab1),(26,ab2)]
def r15:Rw:=[(7,aci),(16,acf),(18,acg),(23,ach)]
def r16:Rw:=[(12,acj)]
def r22:Rw:=[(3,acy)]
def Fp:Rw:=[(3,acB),(7,acC),(10,acz),(15,acA)]
def r25:Rw:=[(4,acI)]
def r26:Rw:=[(3,acJ),(4,acK),(6,acL)]
def r30:Rw:=[(6,[0,1,2,3,4,5,6,7,8])]
def r36:Rw:=[(10,bo++[10,11,12,.wr 13 [0,3],.wr 14 []]),(11,bo++[10,11,12,13,14,15,.wr 16 [0,3,5],17,.wr 18 []]),(18,bo++[10,11,.wr 12 [0,3],13,.wr 14 []]),(20,[0,1,2,3,4,.wr 5 [0],6,7,.wr 8 []]),(24,[0,1,2,3,4,5,.wr 6 [0,1,4],7,.wr 8 [0],9,10,.wr 11 []]),(32,bo++[10,11,.wr 12 [0,1,4],13,.wr 14 [0],15,16,.wr 17 []])]
def r47:Rw:=[(3,[0,1,2,3,4,.wr 5 [],6])]
def r51:Rw:=[(6,[0,1,2,3,4,5,9,10,11,12,.wr 6 [5,12],7,.wr 8 [12],.wr 13 [12],14,.wr 15 [],16,17,.wr 18 [],19,20,.wr 21 []]),(15,bo++[10,11,12,.wr 13 []]),(17,bo++[10,11,12,.wr 13 []]),(30,bo++[10,11,12,13,.wr 14 [],15,16,17,18]),(31,bo++[10,11,12,13,.wr 14 [],15,16,17,18])]
def r52:Rw:=[(3,bo++[10,11,12,13,14,.wr 15 [],.wr 16 [],17])]
def r59:Rw:=[(6,bo++[.wr 10 [],11,12,.wr 13 []]),(7,bo++[10,11,12,13,.wr 14 [],15,16,.wr 17 []])]
def r60:Rw:=[(3,[0,1,2,3,4,5,6,.wr 7 [],8])]
def r61:Rw:=[(3,[0,1,2,3,4,5,6,.wr 7 [],8])]
def r66:Rw:=[(5,acS),(9,acT)]
def r67:Rw:=[(6,acV),(15,acU)]
def r71:Rw:=[(3,acW),(6,acX),(7,acY)]
def r75:Rw:=[(1,acZ)]
def r76:Rw:=[(8,ac5),(22,ac0),(23,ac1),(24,ac2),(32,ac3),(33,ac4)]
def r80:Rw:=[(7,ac6)]
def r82:Rw:=[(10,ac7),(12,ac8),(14,ac9)]
def r83:Rw:=[(0,ada)]
def r84:Rw:=[(0,adb),(1,ade)]
def r85:Rw:=[(0,adf)]
def r87:Rw:=[(1,adg)]
def r89:Rw:=[(0,adh)]
def r90:Rw:=[(0,adi)]
def r91:Rw:=[(0,adj),(4,adk),(8,adl)]
def r92:Rw:=[(1,adm)]
def r97:Rw:=[(1,adn)]
def aCK:Rw:=[(6,abL),(11,abK)]
def aCL:Rw:=[(4,bo++[10,11,.wr 12 [],13,14,15,16,17,18,19,20,21,22,.wr 23 [],24,25])]
def aCM:Rw:=[(1,[0,1,2,3,4,5,6,7,8])]
def aCN:Rw:=[(3,abM)]
def aCO:Rw:=[(3,abN)]
def aCP:Rw:=[(7,abO)]
def aCQ:Rw:=[(3,abP)]
def aCR:Rw:=[(11,[0,1,2,3,4,5,6,7,8,.wr 9 [3,4],.wr 10 []])]
def aCS:Rw:=[(2,abR),(14,abQ)]
def aCT:Rw:=[(3,abS),(6,abT)]
def aCU:Rw:=[(6,abU)]
def aCV:Rw:=[(1,abV)]
def aCW:Rw:=[(17,bo++[10,11,.wr 12 [],13,14])]
def aCX:Rw:=[(9,ab5)]
def aCY:Rw:=[(7,aca),(8,acb),(13,ab6),(17,ab7),(18,ab8),(25,ab9)]
def aCZ:Rw:=[(0,acd)]
def aC0:Rw:=[(1,ace)]
def aC1:Rw:=[(4,bo++[10,11,12,.wr 13 [],14]),(6,bo++[10,11,12,13,14,.wr 15 [],16,.wr 17 []])]
def aC2:Rw:=[(10,bo++[10,11,12,13,14,15,16,.wr 17 [],18,.wr 19 []])]
def aC3:Rw:=[(10,bo++[10,11,12,13,14,15,16,.wr 17 [],18,.wr 19 []])]
def aC4:Rw:=[(3,bo++[10,11,12,.wr 13 [],14,.wr 15 []])]
def aC5:Rw:=[(5,bo++[10,11,12,.wr 13 [],14,15]),(11,bo++[10,11,12,13,14,.wr 15 [],16,.wr 17 []]),(16,[0,1,2,3,4,5,6,7,8,.wr 9 [],10]),(17,bo++[10,11,12,13,14,.wr 15 [],16,.wr 17 []]),(22,[0,1,2,3,4,5,6,7,8,.wr 9 [],10]),(23,bo++[10,11,12,13,14,.wr 15 [],16,.wr 17 []])]
def aC6:Rw:=[(1,bo++[10,11,12,.wr 13 [],14,.wr 15 []]),(3,bo++[10,11,.wr 12 [],13,14]),(5,bo++[10,11,.wr 12 [],13]),(8,bo++[10,11,12,.wr 13 [],14,.wr 15 []])]
def aC7:Rw:=[(1,bo++[10,11,12,.wr 13 [],14,.wr 15 []]),(3,bo++[10,11,.wr 12 [],13]),(5,bo++[10,11,.wr 12 [],13,14]),(8,bo++[10,11,12,.wr 13 [],14,.wr 15 []]),(10,bo++[10,11,12,.wr 13 [],14,.wr 15 []]),(13,bo++[10,11,.wr 12 [],13]),(15,bo++[10,11,.wr 12 [],13,14]),(18,bo++[10,11,12,.wr 13 [],14,.wr 15 []]),(21,bo++[10,11,12,.wr 13 [],14,.wr 15 []])]
def aC8:Rw:=[(1,ack),(2,acm)]
def aC9:Rw:=[(1,[0,1,2,3,4,5,.wr 6 [],.wr 7 [],.wr 8 [],9,.wr 10 []])]
def aDa:Rw:=[(2,[0,1,2,3,4,5,7,8,9,10,11,12,.wr 6 [8,11],.wr 13 [],14,.wr 15 []])]
def aDb:Rw:=[(1,acn)]
def aDc:Rw:=[(14,aco)]
def aDd:Rw:=[(12,acp)]
def aDe:Rw:=[(14,acq)]
def aDf:Rw:=[(2,acr),(4,acs)]
def aDg:Rw:=[(1,acu)]
def aDh:Rw:=[(6,acv)]
def aDi:Rw:=[(6,acw)]
def aDj:Rw:=[(2,acx)]
def aDk:Rw:=[(3,bo++[10,11,12,13,14,15,16,17,.wr 18 [],19]),(5,bo++[10,11,.wr 12 [],13]),(6,bo++[10,11,12,13,14,15,16,17,18,19,20,.wr 21 [],22,.wr 23 []])]
def aDl:Rw:=[(1,[0,1,2,3,4,5,6,7,8,.wr 9 []]),(2,[0,1,2,3,4,5,6,7,8,.wr 9 []]),(3,[0,1,2,3,4,5,6,7,8,.wr 9 []])]
def aDm:Rw:=[(1,[0,1,2,3,4,5,6,.wr 7 [],8,9,10,11,12])]
def aDn:Rw:=[(2,[0,1,2,3,4,7,.wr 5 [],6])]
def aDo:Rw:=[(1,acD)]
def aDp:Rw:=[(1,acE)]
def aDq:Rw:=[(1,acF)]
def aDr:Rw:=[(2,acG)]
def aDs:Rw:=[(3,acH)]
def aDt:Rw:=[(17,bo++[10,11,.wr 12 [],13,14])]
def aDu:Rw:=[(1,[0,1,2,3,4,5,6,7,.wr 8 []])]
def aDv:Rw:=[(4,bo++[10,11,12,.wr 13 [],14]),(6,bo++[10,11,12,13,14,.wr 15 [],16,.wr 17 []])]
def aDw:Rw:=[(10,bo++[10,11,12,13,14,15,16,.wr 17 [],18,.wr 19 []])]
def aDx:Rw:=[(10,bo++[10,11,12,13,14,15,16,.wr 17 [],18,.wr 19 []])]
def aDy:Rw:=[(3,bo++[10,11,12,.wr 13 [],14,.wr 15 []])]
def aDz:Rw:=[(5,bo++[10,11,12,.wr 13 [],14,15]),(11,bo++[10,11,12,13,14,.wr 15 [],16,.wr 17 []]),(16,[0,1,2,3,4,5,6,7,8,.wr 9 [],10]),(17,bo++[10,11,12,13,14,.wr 15 [],16,.wr 17 []]),(22,[0,1,2,3,4,5,6,7,8,.wr 9 [],10]),(23,bo++[10,11,12,13,14,.wr 15 [],16,.wr 17 []])]
def aDA:Rw:=[(1,bo++[10,11,12,.wr 13 [],14,.wr 15 []]),(3,bo++[10,11,.wr 12 [],13,14]),(5,bo++[10,11,.wr 12 [],13]),(8,bo++[10,11,12,.wr 13 [],14,.wr 15 []])]
def aDB:Rw:=[(1,bo++[10,11,12,.wr 13 [],14,.wr 15 []]),(3,bo++[10,11,.wr 12 [],13]),(5,bo++[10,11,.wr 12 [],13,14]),(8,bo++[10,11,12,.wr 13 [],14,.wr 15 []]),(10,bo++[10,11,12,.wr 13 [],14,.wr 15 []]),(13,bo++[10,11,.wr 12 [],13]),(15,bo++[10,11,.wr 12 [],13,14]),(18,bo++[10,11,12,.wr 13 [],14,.wr 15 []]),(21,bo++[10,11,12,.wr 13 [],14,.wr 15 []])]
def aDC:Rw:=[(3,bo++[10,11,12,13,14,15,16,17,.wr 18 [],19]),(5,bo++[10,11,.wr 12 [],13]),(6,bo++[10,11,12,13,14,15,16,17,18,19,20,.wr 21 [],22,.wr 23 []])]
def aDD:Rw:=[(1,[0,1,2,3,4,5,6,7,.wr 8 []])]
def wU:BF:=[(10,RD),(11,r11),(14,r14),(15,r15),(16,r16),(22,r22),(23,Fp),(25,r25),(26,r26),(30,r30),(36,r36),(47,r47),(51,r51),(52,r52),(59,r59),(60,r60),(61,r61),(66,r66),(67,r67),(71,r71),(75,r75),(76,r76),(80,r80),(82,r82),(83,r83),(84,r84),(85,r85),(87,r87),(89,r89),(90,r90),(91,r91),(92,r92),(97,r97),(103,aCK),(104,aCL),(105,aCM),(111,aCN),(117,aCO),(118,aCP),(122,aCQ),(124,aCR),(126,aCS),(138,aCT),(139,aCU),(140,aCV),(144,aCW),(150,aCX),(151,aCY),(153,aCZ),(155,aC0),(165,aC1),(166,aC2),(167,aC3),(169,aC4),(170,aC5),(172,aC6),(173,aC7),(180,aC8),(184,aC9),(185,aDa),(187,aDb),(188,aDc),(196,aDd),(203,aDe),(204,aDf),(206,aDg),(211,aDh),(215,aDi),(220,aDj),(222,aDk),(224,aDl),(231,aDm),(232,aDn),(243,aDo),(245,aDp),(249,aDq),(253,aDr),(256,aDs),(258,aDt),(262,aDu),(268,aDv),(269,aDw),(270,aDx),(272,aDy),(273,aDz),(275,aDA),(276,aDB),(280,aDC),(284,aDD)]
def keys:List (Nat×KS):=[(3,.one (.i .i64)),(5,.one (.i .u8)),(9,.one (.s)),(28,.one (.i .i64)),(48,.agg [.i .i64,.i .i64,.i .i64]),(51,.one (.i .u8)),(90,.one (.i .u8)),(92,.agg [.i .u8,.i .i64,.i .i64,.i .i64]),(98,.agg [.i .i64,.s])]
def yg:List (Nat×Nat):=[(163,2),(78,3),(77,4),(134,1),(221,1),(102,6),(210,7)]
def g_:AT:=[0,1,56,2,57,49,28,3,61,58,42,50,38,29,17,4,62,47,59,36,45,43,51,22,53,39,33,30,24,18,12,5,63,55,48,27,60,41,37,16,46,35,44,21,52,32,23,11,54,26,40,15,34,20,31,10,25,14,19,9,13,8,7,6]
def Ar(r:R (J×D)):Prop:=Bool.rec (motive:=λ _=>Bool) false true (isTrue r)=true
theorem Ar.mk{r:R (J×D)}(h:Bool.rec (motive:=λ _=>Bool) false true (isTrue r)=true):Ar r:=h
theorem aCd:WW Tryz.prog wU=true:=κ
theorem ayr:Tryz.prog.follows .mixedOrders=true:=κ
theorem ayW:(Tryz.prog.funcs.toList.all λ fn=>!(fn.name== "runtime.NumGoroutine"))=true:=κ
theorem axh:(keys.all λ p=>abf Tryz.prog p.1 p.2)=true:=κ
def given:N_ Tryz.prog wU keys where
 wU:=aCd
 nm f fn h _:=by
  have g:Tryz.prog.funcs.toList[f]?=some fn:=by simpa using h
  have:=yZ.1 ayW fn (oS g);simpa using this
 ky t ks h:=aw9 (yZ.1 axh (t,ks) h)
 mixed:=ayr
end
end Go.Proofs.YtgipmaoplfkdoaaGreatDoor
namespace Go.Proofs
open Go.Shelf
theorem Tryz.q{P:Program}{i:FuncId}{B g:Func}(h:P.funcs[i]?=some g)(d:(g.name== "runtime.NumGoroutine")=false:=by decide)(e:g={B with name:=g.name}:=by kernel_rfl):Bears P i B:=⟨_,d,h.trans (congrArg some e)⟩
theorem Tryz.p{P:Program}{i:FuncId}{B g:Func}(h:P.funcs[i]?=some g)(e:g=B:=by kernel_rfl):P.funcs[i]?=some B:=h.trans (congrArg some e)
def Tryz.abg:Go.Shelf.Ren:=⟨λ|10=>134|n=>n,λ|33=>69|23=>113|0=>0|4=>4|26=>3|3=>4|n=>n,λ|n=>n⟩
theorem Tryz.aiQ:Go.Proofs.SlLaysZI.n10 Tryz.prog Tryz.abg:={
 mixed:=by kernel_rfl
 f10:=Tryz.q Tryz.func134
 t0:=Tryz.underlying0
 a0:=Tryz.isAgg0
 z0:=Tryz.sizeOf0
 v0:=Tryz.zeroValue0
 t4:=Tryz.underlying4
 a4:=Tryz.isAgg4
 z4:=Tryz.sizeOf4
 v4:=Tryz.zeroValue4
 t23:=Tryz.underlying113
 a23:=Tryz.isAgg113
 z23:=Tryz.sizeOf113
 v23:=Tryz.zeroValue113
 t26:=Tryz.underlying3
 a26:=Tryz.isAgg3
 z26:=Tryz.sizeOf3
 v26:=Tryz.zeroValue3
 t33:=Tryz.underlying69
 a33:=Tryz.isAgg69
 z33:=Tryz.sizeOf69
 v33:=Tryz.zeroValue69}
def Tryz.abh:Go.Shelf.Ren:=⟨λ|10=>221|n=>n,λ|33=>69|23=>191|0=>0|4=>4|26=>3|3=>199|n=>n,λ|n=>n⟩
theorem Tryz.aiR:Go.Proofs.SlLaysZI.n10 Tryz.prog Tryz.abh:={
 mixed:=by kernel_rfl
 f10:=Tryz.q Tryz.func221
 t0:=Tryz.underlying0
 a0:=Tryz.isAgg0
 z0:=Tryz.sizeOf0
 v0:=Tryz.zeroValue0
 t4:=Tryz.underlying4
 a4:=Tryz.isAgg4
 z4:=Tryz.sizeOf4
 v4:=Tryz.zeroValue4
 t23:=Tryz.underlying191
 a23:=Tryz.isAgg191
 z23:=Tryz.sizeOf191
 v23:=Tryz.zeroValue191
 t26:=Tryz.underlying3
 a26:=Tryz.isAgg3
 z26:=Tryz.sizeOf3
 v26:=Tryz.zeroValue3
 t33:=Tryz.underlying69
 a33:=Tryz.isAgg69
 z33:=Tryz.sizeOf69
 v33:=Tryz.zeroValue69}
def Tryz.akI:Go.Shelf.Ren:=⟨λ|6=>163|8=>78|9=>102|11=>133|13=>145|12=>144|23=>174|24=>175|14=>165|15=>166|16=>167|17=>168|18=>169|19=>170|20=>171|21=>172|22=>173|25=>222|26=>223|27=>224|28=>225|29=>226|30=>227|31=>262|n=>n,λ|26=>3|28=>127|24=>41|0=>0|3=>3|37=>200|48=>245|50=>199|4=>4|40=>239|39=>238|45=>44|5=>5|9=>9|51=>276|55=>280|57=>305|58=>306|33=>69|n=>n,λ|n=>n⟩
theorem Tryz.aE6:Go.Proofs.SlLaysZI.n6 Tryz.prog Tryz.akI:={
 mixed:=by kernel_rfl
 f6:=Tryz.q Tryz.func163
 f8:=Tryz.q Tryz.func78
 f11:=Tryz.q Tryz.func133
 t0:=Tryz.underlying0
 a0:=Tryz.isAgg0
 z0:=Tryz.sizeOf0
 v0:=Tryz.zeroValue0
 t24:=Tryz.underlying41
 a24:=Tryz.isAgg41
 z24:=Tryz.sizeOf41
 v24:=Tryz.zeroValue41
 t26:=Tryz.underlying3
 a26:=Tryz.isAgg3
 z26:=Tryz.sizeOf3
 v26:=Tryz.zeroValue3
 t28:=Tryz.underlying127
 a28:=Tryz.isAgg127
 z28:=Tryz.sizeOf127
 v28:=Tryz.zeroValue127
 i26:=by kernel_rfl}
def Tryz.aoW:Go.Shelf.Ren:=⟨λ|8=>78|11=>133|n=>n,λ|26=>3|28=>127|24=>41|0=>0|33=>69|4=>4|n=>n,λ|n=>n⟩
theorem Tryz.aoV:Go.Proofs.SlLaysZI.n8 Tryz.prog Tryz.aoW:={
 mixed:=by kernel_rfl
 f8:=Tryz.q Tryz.func78
 f11:=Tryz.q Tryz.func133
 t0:=Tryz.underlying0
 a0:=Tryz.isAgg0
 z0:=Tryz.sizeOf0
 v0:=Tryz.zeroValue0
 t24:=Tryz.underlying41
 a24:=Tryz.isAgg41
 z24:=Tryz.sizeOf41
 v24:=Tryz.zeroValue41
 t26:=Tryz.underlying3
 a26:=Tryz.isAgg3
 z26:=Tryz.sizeOf3
 v26:=Tryz.zeroValue3
 t28:=Tryz.underlying127
 a28:=Tryz.isAgg127
 z28:=Tryz.sizeOf127
 v28:=Tryz.zeroValue127
 i26:=by kernel_rfl}
def Tryz.aE1:Go.Shelf.Ren:=⟨λ|5=>102|8=>145|7=>144|19=>174|20=>175|10=>165|11=>166|12=>167|13=>168|14=>169|15=>170|16=>171|17=>172|18=>173|30=>222|31=>223|32=>224|33=>225|34=>226|35=>227|40=>262|n=>n,λ|23=>41|25=>3|3=>3|32=>200|22=>41|0=>0|44=>245|46=>199|4=>4|36=>239|35=>238|41=>44|5=>5|9=>9|53=>276|57=>280|63=>305|64=>306|n=>n,λ|n=>n⟩
theorem Tryz.Xu:Go.Proofs.SlLaysM.n5 Tryz.prog Tryz.aE1:={
 mixed:=by kernel_rfl
 f5:=Tryz.q Tryz.func102
 f7:=Tryz.q Tryz.func144
 f8:=Tryz.p Tryz.func145
 f10:=Tryz.q Tryz.func165
 f11:=Tryz.q Tryz.func166
 f12:=Tryz.q Tryz.func167
 f13:=Tryz.q Tryz.func168
 f14:=Tryz.q Tryz.func169
 f15:=Tryz.q Tryz.func170
 f16:=Tryz.q Tryz.func171
 f17:=Tryz.q Tryz.func172
 f18:=Tryz.q Tryz.func173
 f19:=Tryz.p Tryz.func174
 f20:=Tryz.p Tryz.func175
 f30:=Tryz.q Tryz.func222
 f31:=Tryz.p Tryz.func223
 f32:=Tryz.p Tryz.func224
 f33:=Tryz.q Tryz.func225
 f34:=Tryz.q Tryz.func226
 f35:=Tryz.q Tryz.func227
 f40:=Tryz.q Tryz.func262
 t0:=Tryz.underlying0
 a0:=Tryz.isAgg0
 z0:=Tryz.sizeOf0
 v0:=Tryz.zeroValue0
 t3:=Tryz.underlying3
 a3:=Tryz.isAgg3
 z3:=Tryz.sizeOf3
 v3:=Tryz.zeroValue3
 t4:=Tryz.underlying4
 a4:=Tryz.isAgg4
 z4:=Tryz.sizeOf4
 v4:=Tryz.zeroValue4
 t5:=Tryz.underlying5
 a5:=Tryz.isAgg5
 z5:=Tryz.sizeOf5
 v5:=Tryz.zeroValue5
 t9:=Tryz.underlying9
 a9:=Tryz.isAgg9
 z9:=Tryz.sizeOf9
 v9:=Tryz.zeroValue9
 t22:=Tryz.underlying41
 a22:=Tryz.isAgg41
 z22:=Tryz.sizeOf41
 v22:=Tryz.zeroValue41
 t23:=Tryz.underlying41
 a23:=Tryz.isAgg41
 z23:=Tryz.sizeOf41
 v23:=Tryz.zeroValue41
 t25:=Tryz.underlying3
 a25:=Tryz.isAgg3
 z25:=Tryz.sizeOf3
 v25:=Tryz.zeroValue3
 t32:=Tryz.underlying200
 a32:=Tryz.isAgg200
 z32:=Tryz.sizeOf200
 v32:=Tryz.zeroValue200
 t35:=Tryz.underlying238
 a35:=Tryz.isAgg238
 z35:=Tryz.sizeOf238
 v35:=Tryz.zeroValue238
 t36:=Tryz.underlying239
 a36:=Tryz.isAgg239
 z36:=Tryz.sizeOf239
 v36:=Tryz.zeroValue239
 t41:=Tryz.underlying44
 a41:=Tryz.isAgg44
 z41:=Tryz.sizeOf44
 v41:=Tryz.zeroValue44
 t44:=Tryz.underlying245
 a44:=Tryz.isAgg245
 z44:=Tryz.sizeOf245
 v44:=Tryz.zeroValue245
 t46:=Tryz.underlying199
 a46:=Tryz.isAgg199
 z46:=Tryz.sizeOf199
 v46:=Tryz.zeroValue199
 t53:=Tryz.underlying276
 a53:=Tryz.isAgg276
 z53:=Tryz.sizeOf276
 v53:=Tryz.zeroValue276
 t57:=Tryz.underlying280
 a57:=Tryz.isAgg280
 z57:=Tryz.sizeOf280
 v57:=Tryz.zeroValue280
 t63:=Tryz.underlying305
 a63:=Tryz.isAgg305
 z63:=Tryz.sizeOf305
 v63:=Tryz.zeroValue305
 t64:=Tryz.underlying306
 a64:=Tryz.isAgg306
 z64:=Tryz.sizeOf306
 v64:=Tryz.zeroValue306}
def Tryz.aE5:Go.Shelf.Ren:=⟨λ|6=>210|8=>145|9=>258|19=>174|20=>175|21=>268|22=>269|23=>270|24=>271|25=>272|26=>273|27=>274|28=>275|29=>276|36=>280|31=>223|32=>224|37=>281|38=>282|39=>283|41=>284|n=>n,λ|27=>52|29=>9|3=>3|32=>200|26=>52|0=>0|44=>245|46=>199|4=>4|36=>239|35=>238|41=>44|5=>5|9=>9|53=>276|57=>280|63=>305|64=>306|n=>n,λ|n=>n⟩
theorem Tryz.Af:Go.Proofs.SlLaysM.n6 Tryz.prog Tryz.aE5:={
 mixed:=by kernel_rfl
 f6:=Tryz.q Tryz.func210
 f8:=Tryz.p Tryz.func145
 f9:=Tryz.q Tryz.func258
 f19:=Tryz.p Tryz.func174
 f20:=Tryz.p Tryz.func175
 f21:=Tryz.q Tryz.func268
 f22:=Tryz.q Tryz.func269
 f23:=Tryz.q Tryz.func270
 f24:=Tryz.q Tryz.func271
 f25:=Tryz.q Tryz.func272
 f26:=Tryz.q Tryz.func273
 f27:=Tryz.q Tryz.func274
 f28:=Tryz.q Tryz.func275
 f29:=Tryz.q Tryz.func276
 f31:=Tryz.p Tryz.func223
 f32:=Tryz.p Tryz.func224
 f36:=Tryz.q Tryz.func280
 f37:=Tryz.q Tryz.func281
 f38:=Tryz.q Tryz.func282
 f39:=Tryz.q Tryz.func283
 f41:=Tryz.q Tryz.func284
 t0:=Tryz.underlying0
 a0:=Tryz.isAgg0
 z0:=Tryz.sizeOf0
 v0:=Tryz.zeroValue0
 t3:=Tryz.underlying3
 a3:=Tryz.isAgg3
 z3:=Tryz.sizeOf3
 v3:=Tryz.zeroValue3
 t4:=Tryz.underlying4
 a4:=Tryz.isAgg4
 z4:=Tryz.sizeOf4
 v4:=Tryz.zeroValue4
 t5:=Tryz.underlying5
 a5:=Tryz.isAgg5
 z5:=Tryz.sizeOf5
 v5:=Tryz.zeroValue5
 t9:=Tryz.underlying9
 a9:=Tryz.isAgg9
 z9:=Tryz.sizeOf9
 v9:=Tryz.zeroValue9
 t26:=Tryz.underlying52
 a26:=Tryz.isAgg52
 z26:=Tryz.sizeOf52
 v26:=Tryz.zeroValue52
 t27:=Tryz.underlying52
 a27:=Tryz.isAgg52
 z27:=Tryz.sizeOf52
 v27:=Tryz.zeroValue52
 t29:=Tryz.underlying9
 a29:=Tryz.isAgg9
 z29:=Tryz.sizeOf9
 v29:=Tryz.zeroValue9
 t32:=Tryz.underlying200
 a32:=Tryz.isAgg200
 z32:=Tryz.sizeOf200
 v32:=Tryz.zeroValue200
 t35:=Tryz.underlying238
 a35:=Tryz.isAgg238
 z35:=Tryz.sizeOf238
 v35:=Tryz.zeroValue238
 t36:=Tryz.underlying239
 a36:=Tryz.isAgg239
 z36:=Tryz.sizeOf239
 v36:=Tryz.zeroValue239
 t41:=Tryz.underlying44
 a41:=Tryz.isAgg44
 z41:=Tryz.sizeOf44
 v41:=Tryz.zeroValue44
 t44:=Tryz.underlying245
 a44:=Tryz.isAgg245
 z44:=Tryz.sizeOf245
 v44:=Tryz.zeroValue245
 t46:=Tryz.underlying199
 a46:=Tryz.isAgg199
 z46:=Tryz.sizeOf199
 v46:=Tryz.zeroValue199
 t53:=Tryz.underlying276
 a53:=Tryz.isAgg276
 z53:=Tryz.sizeOf276
 v53:=Tryz.zeroValue276
 t57:=Tryz.underlying280
 a57:=Tryz.isAgg280
 z57:=Tryz.sizeOf280
 v57:=Tryz.zeroValue280
 t63:=Tryz.underlying305
 a63:=Tryz.isAgg305
 z63:=Tryz.sizeOf305
 v63:=Tryz.zeroValue305
 t64:=Tryz.underlying306
 a64:=Tryz.isAgg306
 z64:=Tryz.sizeOf306
 v64:=Tryz.zeroValue306}
end Go.Proofs
namespace Go.Proofs.YtgipmaoplfkdoaaGreatDoor
noncomputable section
open Go.RowKit
variable{f:FuncId}{w:World}
section
open Go.RowKit Go.Maps Go.Sort Go.Shelf
def aE8(m:Nat):AnyZI.SortsIn Tryz.prog Tryz.akI Fence.wide m:=
 ⟨λ bF off cap h aA j g q=>callsIn_wide.2 (AnyM.slices_Sort_int Tryz.Xu bF off cap h aA j g q),
  λ p cap aA=>callsIn_wide.2 (AnyM.slices_Sort_int_none Tryz.Xu p cap aA)⟩
def Ss(g:FuncId):Prop:=∀(n:Nat) (w:World) (h:Nat) (m:Option Nat) (ks:BW),1<=n->h<w.heap.size->w.cell? ⟨h,0,none⟩=some (.map m)->Od Tryz.prog 3 w m ks->∃N,N<=1000000/\∃S:BW->Prop,(∀j,S j->j.Perm ks)/\SeqGives Fence.wide n Tryz.prog g #[.pointer (some ⟨h,0,none⟩)] encZ S N w
def ag9:Ss 134:=by
 intro n w u m ks C q p Q;rcases Q with⟨rfl,rfl⟩|⟨b,z,D,rfl,g,B,A⟩
 .exact⟨0,ω,_,λ j h=>by rw[show j=[]from h],AnyZI.keys_gives_nil (ρ:=Tryz.abg) Tryz.aiQ Fence.wide n trivial rfl u w q p⟩
 .exact⟨_,A,_,λ j h=>List.Perm.trans h B,AnyZI.keys_gives (ρ:=Tryz.abg) Tryz.aiQ Fence.wide n trivial rfl C u b z D w q p g⟩
def aha:Ss 221:=by
 intro n w u m ks C q p Q;rcases Q with⟨rfl,rfl⟩|⟨b,z,D,rfl,g,B,A⟩
 .exact⟨0,ω,_,λ j h=>by rw[show j=[]from h],AnyZI.keys_gives_nil (ρ:=Tryz.abh) Tryz.aiR Fence.wide n trivial rfl u w q p⟩
 .exact⟨_,A,_,λ j h=>List.Perm.trans h B,AnyZI.keys_gives (ρ:=Tryz.abh) Tryz.aiR Fence.wide n trivial rfl C u b z D w q p g⟩
theorem akJ{g:FuncId}(j:Ss g)(C:∀args w,(callFunc g args).run Tryz.prog w=.ok (.enter g args) w):aeL Tryz.prog 3 3 163 g:=by intro w G m ks z p Q;have⟨N,u,S,q,D⟩:=j (5-1-1-1) w G m ks ω z p Q;refine(callsIn_wide.1 (AnyZI.sorted_in Tryz.aE6 Fence.wide 5 trivial trivial trivial trivial rfl ω (aE8 _) (enters_of Tryz.func102 κ rfl) g _ trivial C S N (aY u η) ω w D)).mono ?_;rintro e w' ⟨v,h,O,U,F,B,A⟩;exact⟨v,h,O,q h U,F,B,A⟩
def af4{g:FuncId}(j:Ss g)(C:∀args w,(callFunc g args).run Tryz.prog w=.ok (.enter g args) w):aev Tryz.prog 3 3 78 g:=by intro w G m ks z p Q;have⟨N,u,S,q,D⟩:=j (5-1-1) w G m ks ω z p Q;refine(callsIn_wide.1 (AnyZI.collect_in Tryz.aoV Fence.wide 5 trivial trivial rfl ω g _ trivial C S N (aY u η) ω w D)).mono ?_;rintro e w' ⟨v,h,O,U,F,B,A⟩;exact⟨v,h,O,q h U,F,B,A⟩
def ayl:aeF Tryz.prog 77:=by
 intro b off n c zs w hn hz L6 hc;have h0:w.cell? ⟨b,off,none⟩=some (.int .i64 (zs.getD 0 0)):=hc 0 ω;go_enter Tryz.func77,Tryz.ntmps77;go_wp2;go_loop [3,4] (λ m i=>∃k:Nat,0<k/\k<=n/\i=.int .i64 k/\m=.int .i64 (Lib.minOf (zs.take k))) (λ _ i=>match i with|.int _ q=>n-q.toNat|_=>0);case atStart=>exact⟨1,Nat.one_pos,hn,rfl,by rw[Lib.minOf_one];simp[List.getD]⟩
 case round=>
  obtain⟨k,vz,Q,rfl,rfl⟩:=hrel;have xX:k<n->w.cell? ⟨b,off+k,none⟩=some (.int .i64 (zs.getD k 0)):=λ _=>hc k ω;go_wp2
  .have bm:k<n:=by assumption
   have e1:((k:Int)+1+9223372036854775808)%18446744073709551616-9223372036854775808=((k+1:Nat):Int):=ω
   refine⟨⟨k+1,Nat.succ_pos k,ω,rfl,?_⟩,(by
    have e2:((k:Int)+1).toNat=k+1:=ω
    have e3:((k:Int)).toNat=k:=ω
    simp only[e2,e3];omega)⟩
   rw[Lib.minOf_step zs k vz ω];simp[List.getD]
  .have AW:¬k<n:=by assumption
   have:k=n:=ω
   subst this;go_ret;exact⟨rfl,rfl⟩
def aE2:aeK Tryz.prog 102:=⟨λ bF off cap g w q j h=>AnyM.slices_Sort_int Tryz.Xu bF off cap g w q j h,λ p cap w=>AnyM.slices_Sort_int_none Tryz.Xu p cap w⟩
def aE3:X_ Tryz.prog 210:=aE4 (λ bF off cap g w q j h=>AnyM.slices_Sort_string Tryz.Af bF off cap g w q j h) λ p cap w=>AnyM.slices_Sort_string_none Tryz.Af p cap w
theorem ahQ(E:aK)(w0:World)(ws:AT)(J:eW Tryz.prog E)(G:∀f n,E.Q.get f=some n->(f,n)∈yg++ws.map λ f=>(f,5))(I:∀f∈ws,Kr Tryz.prog w0 f)(F:∀f∈ws,∀args w,(callFunc f args).run Tryz.prog w=.ok (.enter f args) w):Hz Tryz.prog E w0:=by
 have u:∀args w,(callFunc 134 args).run Tryz.prog w=.ok (.enter 134 args) w:=enters_of Tryz.func134 κ rfl
 have q:∀args w,(callFunc 221 args).run Tryz.prog w=.ok (.enter 221 args) w:=enters_of Tryz.func221 κ rfl
 have C:∀args w,(callFunc 163 args).run Tryz.prog w=.ok (.enter 163 args) w:=enters_of Tryz.func163 κ rfl
 have z:∀args w,(callFunc 78 args).run Tryz.prog w=.ok (.enter 78 args) w:=enters_of Tryz.func78 κ rfl
 have D:∀args w,(callFunc 102 args).run Tryz.prog w=.ok (.enter 102 args) w:=enters_of Tryz.func102 κ rfl
 have B:∀args w,(callFunc 210 args).run Tryz.prog w=.ok (.enter 210 args) w:=enters_of Tryz.func210 κ rfl
 have A:∀args w,(callFunc 77 args).run Tryz.prog w=.ok (.enter 77 args) w:=enters_of Tryz.func77 κ rfl
 have cases:∀f n,(f,n)∈yg++ws.map (λ f=>(f,5))->(f=163/\n=2)\/(f=78/\n=3)\/(f=77/\n=4)\/(f=134/\n=1)\/(f=221/\n=1)\/(f=102/\n=6)\/(f=210/\n=7)\/(f∈ws/\n=5):=by
  intro f n h;rcases b_.1 h with h|h
  .have:(f=163/\n=2)\/(f=78/\n=3)\/(f=77/\n=4)\/(f=134/\n=1)\/(f=221/\n=1)\/(f=102/\n=6)\/(f=210/\n=7):=by simpa[yg]using h
   rcases this with h|h|h|h|h|h|h
   .exact .inl h
   .exact .inr (.inl h)
   .exact .inr (.inr (.inl h))
   .exact .inr (.inr (.inr (.inl h)))
   .exact .inr (.inr (.inr (.inr (.inl h))))
   .exact .inr (.inr (.inr (.inr (.inr (.inl h)))))
   .exact .inr (.inr (.inr (.inr (.inr (.inr (.inl h))))))
  .obtain⟨g,p,e⟩:=jn.1 h;cases e;exact .inr (.inr (.inr (.inr (.inr (.inr (.inr ⟨p,rfl⟩))))))
 refine avT J G (kt:=3) (ay:=3) Tryz.underlying3 ?_ ?_ ?_ ?_ ?_ ?_ ?_ ?_
 .intro f g j p
  rcases cases f 2 j with⟨rfl,_⟩|⟨_,h⟩|⟨_,h⟩|⟨_,h⟩|⟨_,h⟩|⟨_,h⟩|⟨_,h⟩|⟨_,h⟩<;>first|(exact absurd h η)|skip
  rcases cases g 1 p with⟨_,h⟩|⟨_,h⟩|⟨_,h⟩|⟨rfl,_⟩|⟨rfl,_⟩|⟨_,h⟩|⟨_,h⟩|⟨_,h⟩<;>first|(exact absurd h η)|skip
  .exact akJ ag9 u
  .exact akJ aha q
 .intro f g j p
  rcases cases f 3 j with⟨_,h⟩|⟨rfl,_⟩|⟨_,h⟩|⟨_,h⟩|⟨_,h⟩|⟨_,h⟩|⟨_,h⟩|⟨_,h⟩<;>first|(exact absurd h η)|skip
  rcases cases g 1 p with⟨_,h⟩|⟨_,h⟩|⟨_,h⟩|⟨rfl,_⟩|⟨rfl,_⟩|⟨_,h⟩|⟨_,h⟩|⟨_,h⟩<;>first|(exact absurd h η)|skip
  .exact af4 ag9 u
  .exact af4 aha q
 .intro f j
  rcases cases f 4 j with⟨_,h⟩|⟨_,h⟩|⟨rfl,_⟩|⟨_,h⟩|⟨_,h⟩|⟨_,h⟩|⟨_,h⟩|⟨_,h⟩<;>first|(exact absurd h η)|skip
  exact ayl
 .intro f j
  rcases cases f 5 j with⟨_,h⟩|⟨_,h⟩|⟨_,h⟩|⟨_,h⟩|⟨_,h⟩|⟨_,h⟩|⟨_,h⟩|⟨h,_⟩<;>first|(exact absurd h η)|skip
  exact I f h
 .intro f j
  rcases cases f 6 j with⟨_,h⟩|⟨_,h⟩|⟨_,h⟩|⟨_,h⟩|⟨_,h⟩|⟨rfl,_⟩|⟨_,h⟩|⟨_,h⟩<;>first|(exact absurd h η)|skip
  exact aE2
 .intro f j
  rcases cases f 7 j with⟨_,h⟩|⟨_,h⟩|⟨_,h⟩|⟨_,h⟩|⟨_,h⟩|⟨_,h⟩|⟨rfl,_⟩|⟨_,h⟩<;>first|(exact absurd h η)|skip
  exact aE3
 .intro f n h
  rcases cases f n h with⟨_,rfl⟩|⟨_,rfl⟩|⟨_,rfl⟩|⟨_,rfl⟩|⟨_,rfl⟩|⟨_,rfl⟩|⟨_,rfl⟩|⟨_,rfl⟩<;>decide
 .intro f n h K
  rcases cases f n h with⟨rfl,rfl⟩|⟨rfl,rfl⟩|⟨rfl,rfl⟩|⟨rfl,rfl⟩|⟨rfl,rfl⟩|⟨rfl,rfl⟩|⟨rfl,rfl⟩|⟨U,rfl⟩
  .exact C
  .exact z
  .exact A
  .omega
  .omega
  .exact D
  .exact B
  .exact F f U
theorem Xl{ws:AT}{fuel:Nat}{args:AU}{j:Array Value}(hr:Ar (runK Tryz.prog wU keys (yg++ws.map λ f=>(f,5)) g_ fuel f args))(B:∀ρ,cA ρ args j.toList)(w:World)(u:yW w g_)(C:∀f∈ws,Kr Tryz.prog w f)(q:∀f∈ws,∀args w,(callFunc f args).run Tryz.prog w=.ok (.enter f args) w):Calls Tryz.prog f j w λ e w'=>e=.returned (.bool true)/\jG (λ _=>False) w w':=by
 have h:Bool.rec (motive:=λ _=>Bool) false true (isTrue (runK Tryz.prog wU keys (yg++ws.map λ f=>(f,5)) g_ fuel f args))=true:=hr
 clear hr
 refine aoH (fuel:=fuel) given ?_ B w u λ E D A=>ahQ E w ws D A C q
 cases g:isTrue (runK Tryz.prog wU keys (yg++ws.map λ f=>(f,5)) g_ fuel f args)with
 |false=>rw[g]at h;cases h
 |true=>
  clear h
  unfold isTrue at g
  unfold abl
  split at g
  .rename_i p z
   obtain⟨v,H⟩:=p;rw[z];dsimp only at g⊢;split at g
   .rw[g]
   .cases g
  .cases g
def yW.later{w':World}{l:AT}(h:yW w l)(g:jG (λ _=>False) w w'):yW w' l:=by obtain⟨c,e,j,O,U⟩:=h;exact⟨c,e,j,by rw[g.block 0 (DZ O) (λ x=>x)];exact O,U⟩
def XA{w0:World}(g:yW w0 g_)(h:∀w,yW w g_->Calls Tryz.prog f #[] w λ e w'=>e=.returned (.bool true)/\jG (λ _=>False) w w'):Kr Tryz.prog w0 f:=λ w j=>h w (g.later j)
end
variable{i:Nat}
section
open Go.ChangeShapes Go.WideShapes Go.ChangeAt Go.WideMaps Go.WideElems Go.RowKit
def aiX:List (String×DataW Unit):=[("math/bits.deBruijn64tab",Rows.laid_math_bits_deBruijn64tab)]
theorem own:ownKnob Tryz.prog.godebug=none:=κ
theorem laidOut:laidOutB Tryz.prog=true:=κ
theorem atA:Tryz.prog.globalNamed "math/bits.deBruijn64tab" =some 0:=κ
theorem aFt:(Tryz.prog.globals[0]?).map (·.type)=some 236:=κ
theorem aGm:Tryz.prog.underlying 236=some (.array 64 5):=κ
theorem an0:Tryz.prog.cellsOf 5=1:=κ
theorem aGl:Tryz.prog.underlying 5=some (.int .u8):=κ
theorem api(os:Os)(args:Array Value):laidMetH Tryz.prog aiX ((World.doorLaid Tryz.prog 4000 os).forCall (λ _ _=>0) ⟨#[],args,[]⟩).memory:=laidMetH_of_parts3 (fuel:=8) (laidMet_of_run' 8 κ κ) κ κ
def cells_of_cell{b:Nat}{v:Value}(h:w.cell? ⟨b,i,none⟩=some v):∃c e g,w.heap[b]?=some (.cells c e g)/\c[i]?=some v:=by
 unfold World.cell? at h;split at h
 .rename_i c e g j;exact⟨c,e,g,j,by simpa using h⟩
 .cases h
theorem ajD{aA:World}(h:laidMetH Tryz.prog aiX aA):yW aA g_:=by
 rw[MakeChecks.laidMetH_plain _ _ _ κ]at h;obtain⟨ps,⟨g0,t0,K,f0,p0,X,j,N,z,B,_⟩,_⟩:=h;obtain rfl:=FX (atA.symm.trans j);obtain rfl:=FX (aFt.symm.trans N);obtain⟨xs,m1,rfl,u,hlen,W,V⟩:=DataW.trod_array aGm B;have D:(xs.map (·.1))=g_.map λ n:Nat=>(DataW.lit (Lit.int .u8 (n:Int)):DataW Unit):=by
  have g:(Rows.laid_math_bits_deBruijn64tab:DataW Unit)=.agg (g_.map λ n:Nat=>(DataW.lit (Lit.int .u8 (n:Int)):DataW Unit)):=κ
  have p:=(zj u).1;rw[g]at p;exact(DataW.agg.inj p).symm
 have cell:∀(i n:Nat),g_[i]?=some n->aA.cell? ⟨0,i,none⟩=some (.int .u8 (n:Int)):=by
  intro i n A;have C:i<64:=by have:=(cW.1 A).1;exact this
  have Z:(xs.map (·.1))[i]?=some (.lit (.int .u8 (n:Int))):=by rw[D,y',A];rfl
  rw[y']at Z;obtain⟨x,q,G⟩:=zh.1 Z;have he:=V i C;rw[q,an0]at he;obtain⟨k,g,p,_⟩:=DataW.trod_int aGl he;rw[p]at G;have Q:k=(n:Int):=by have:=DataW.lit.inj G;exact(Lit.int.inj this).2
  subst Q;rw[World.var?_cell j z i];have J:(K.toList.drop (i*1)).head?=some (.int .u8 (n:Int)):=by cases hd:K.toList.drop (i*1)with|nil=>rw[hd]at g;cases g|cons a l=>rw[hd]at g;simp at g;rw[g];rfl
  rw[BR,List.head?_drop,pG]at J;exact J
 obtain⟨c,e,U,I,_⟩:=cells_of_cell (cell 0 0 rfl);refine⟨c,e,U,I,λ i n A=>?_⟩;obtain⟨c',e',T,F,O⟩:=cells_of_cell (cell i n A);rw[I]at F;cases F;exact O
end
section
open Go.RowKit Go.ChangeShapes Go.WideShapes
end
def aK.at(E:aK)(n:Nat):aK:={E with lim:=n}
def Fm(E:aK)(n:Nat)(Y:CX)(o:Op)(H:D):bw (E.at n) Y o H=bw E Y o H:=by cases E;rfl
def aaL(E:aK)(n:Nat)(h:Nat)(args:AU)(H:D):vD (E.at n) h args H=vD E h args H:=by cases E;rfl
def xl(a b:mP):Prop:=∀t H q,a t H=.ok q->b t H=.ok q
def xi(aR aG:aE->D->St):Prop:=∀Y H q,aR Y H=.ok q->aG Y H=.ok q
section
variable{E:aK}{n m:Nat}{rc pw:mP}
def abI{β γ:Type}{kk:γ->R β}(hr:xl rc pw){Y:aE}{ak:List Oper}{o:Oper}{H:D}{k:aE->D->R β}{K:aE->D->R γ}(h:∀x y,Le kk (k x y) (K x y)):Le kk (iZ (E.at n) rc Y ak o H k) (iZ (E.at m) pw Y ak o H K):=by
 unfold iZ
 refine alI (λ _=>?_) (λ _=>TJ λ _=>h _ _)
 rw[Fm,Fm]
 cases bw E Y.cD o.op H with
 |er l=>exact Le.er
 |ok r=>
  cases r with
  |val v H'=>exact TJ (λ _=>h _ _)
  |call f args H'=>
   dsimp only
   cases g:rc (.call f args) H' with|er l=>exact Le.er|ok p=>rw[hr _ _ _ g];have⟨v,jS⟩:=p;exact TJ (λ _=>h _ _)
  |round l args H'=>
   dsimp only
   cases g:rc (.round l args) H' with|er l=>exact Le.er|ok p=>rw[hr _ _ _ g];have⟨v,jS⟩:=p;exact TJ (λ _=>h _ _)
def WN{β γ:Type}{kk:γ->R β}(hr:xl rc pw){ak l:List Oper}{Y:aE}{H:D}{k:aE->D->R β}{K:aE->D->R γ}(h:∀x y,Le kk (k x y) (K x y)):Le kk (nO (E.at n) rc ak l k Y H) (nO (E.at m) pw ak l K Y H):=by
 unfold nO
 induction l generalizing Y H with
 |nil=>exact h _ _
 |cons o l g=>
  rw[qA,qA]
  exact abI hr λ an H'=>g (Y:=an) (H:=H')
def amF{β γ:Type}{kk:γ->R β}{Y:aE}{ak:List Oper}{i:Nat}{H:D}{k:Unit->R β}{K:Unit->R γ}(h:∀u,Le kk (k u) (K u)):Le kk (xq (E.at n) Y ak i H k) (xq (E.at m) Y ak i H K):=by
 unfold xq
 refine G_ (λ o=>alI (λ _=>?_) h) Le.er
 rw[Fm,Fm]
 cases bw E Y.cD o.op H with
 |er l=>exact Le.er
 |ok r=>
  cases r with
  |val v H'=>
   dsimp only
   cases o.dst with|none=>exact h ()|some t=>exact CV (λ u=>zn Le.er (h ())) Le.er
  |call f args H'=>exact Le.er|round l args H'=>exact Le.er
def aeT{β γ:Type}{kk:γ->R β}{Y:aE}{ak:List Oper}{l:AT}{H:D}{k:Unit->R β}{K:Unit->R γ}(h:∀u,Le kk (k u) (K u)):Le kk (rG (E.at n) Y ak l H k) (rG (E.at m) Y ak l H K):=by
 unfold rG
 induction l with
 |nil=>exact h _
 |cons i l g=>
  rw[qA,qA]
  exact amF λ _=>g
def adr{β γ:Type}{kk:γ->R β}(hr:xl rc pw){ak:List Oper}{l:List di}{Y:aE}{H:D}{k:aE->D->R β}{K:aE->D->R γ}(h:∀x y,Le kk (k x y) (K x y)):Le kk (m8 (E.at n) rc ak l k Y H) (m8 (E.at m) pw ak l K Y H):=by
 unfold m8
 induction l generalizing Y H with
 |nil=>exact h _ _
 |cons p l g=>
  rw[qA,qA]
  cases p with|op i=>exact G_ (λ o=>abI hr λ an H'=>g (Y:=an) (H:=H')) Le.er|wr i re=>exact G_ (λ o=>abI hr λ an H'=>aeT λ _=>g (Y:=an) (H:=H')) Le.er
def zV{β:Type}{a b:R β}(h:Le R.ok a b){q:β}(g:a=.ok q):b=.ok q:=by have⟨x,O,U⟩:=h.out q g;cases U;exact O
def le_refl{β:Type}(a:R β):Le R.ok a a:=⟨λ q h=>⟨q,h,rfl⟩⟩
def aEq{a b aR aG:aE->D->St}(p:xi a aR)(h:xi b aG):xi (Hl a b) (Hl aR aG):=by
 intro Y H q g;unfold Hl at g⊢;cases Z:a Y H with
 |er l=>rw[Z]at g;cases g
 |ok r=>
  rw[Z]at g
  rw[p _ _ _ Z]
  obtain⟨ex,an,H'⟩:=r
  cases ex with|normal=>exact h _ _ _ g|exit j=>exact g|ret=>exact g
def ao2{x:dy}{a b aR aG:aE->D->St}(p:xi a aR)(j:xi b aG):xi (It (E.at n) x a b) (It (E.at m) x aR aG):=by
 intro Y H q g;refine zV (a:=It (E.at n) x a b Y H) ?_ g;unfold It;refine agC (E:=E) λ v=>?_;split
 .exact zn ⟨λ q h=>⟨q,j _ _ _ h,rfl⟩⟩ ⟨λ q h=>⟨q,p _ _ _ h,rfl⟩⟩
 .exact Le.er
def anN{id:Nat}{a aR:aE->D->St}(h:xi a aR):xi (F7 id a) (F7 id aR):=by intro Y H q g;unfold F7 at g⊢;cases Z:a Y H with|er l=>rw[Z]at g;cases g|ok r=>rw[Z]at g;rw[h _ _ _ Z];exact g
def axO{a aR:aE->D->St}(g:n<=m)(A:xi a aR):xi (GZ (E.at n) a) (GZ (E.at m) aR):=by
 have key:∀(n m:Nat),n<=m->∀Y H q,uy a n Y H=.ok q->uy aR m Y H=.ok q:=by
  intro n;induction n with
  |zero=>intro m _ Y H q h;cases h
  |succ n p=>
   intro m B Y H q h
   cases m with
   |zero=>omega
   |succ m=>
    have⟨ex,an,H',Z,z⟩:=Wq h
    show(match aR Y H with|.er l=>.er l|.ok r=>match r with|(.normal,an,H')=>uy aR m an H'|r=>.ok r)=(.ok q:St)
    rw[A _ _ _ Z]
    rcases z with⟨rfl,U⟩|⟨O,U⟩
    .exact p m ω _ _ _ U
    .subst U
     cases ex with|normal=>exact absurd rfl O|exit j=>rfl|ret=>rfl
 intro Y H q u;exact key n m g Y H q u
def aDG(hr:xl rc pw){g:dy}{ps:List Tmp}{aI4 bd:Code}:xi (Fq (E.at n) rc g ps aI4 bd) (Fq (E.at m) pw g ps aI4 bd):=by
 intro Y H q h;refine zV (a:=Fq (E.at n) rc g ps aI4 bd Y H) ?_ h;unfold Fq;refine agC (E:=E) λ gv=>apv λ l an H1=>?_;cases rM gv [.fn (.yield l) [] []] H1 with
 |er l=>exact Le.er
 |ok r=>
  cases r with
  |val v H'=>exact Le.er|round l args H'=>exact Le.er
  |call f args u=>
   dsimp only
   cases j:rc (.call f args) u with|er l=>exact Le.er|ok p=>rw[hr _ _ _ j];exact le_refl _
def Fa(hr:xl rc pw){c:Code}:xi (Dl (E.at n) rc c) (Dl (E.at m) pw c):=by
 intro Y H q j;refine zV (a:=Dl (E.at n) rc c Y H) ?_ j;unfold Dl;cases c with
 |skip=>exact le_refl _|ret=>exact le_refl _|exit id=>exact le_refl _
 |region id ak d=>
  exact zn (WN hr λ an H'=>le_refl _) (CV (λ p=>CV (λ pl=>adr hr λ an H'=>le_refl _) Le.er) Le.er)
 |rangeFunc g ps aI4 bd=>
  exact⟨λ q h=>⟨q,aDG (E:=E) hr Y H q h,rfl⟩⟩
 |_=>exact Le.er
theorem Gc(p:n<=m)(hr:xl rc pw)(c:Code):xi (dX (E.at n) rc c) (dX (E.at m) pw c):=by
 induction c with
 |seq a b h g=>exact aEq h g|cond x a b h g=>exact ao2 (E:=E) h g|block id a j=>exact anN j
 |loop a j=>
  have u:dX (E.at n) rc (.loop a)=GZ (E.at n) (dX (E.at n) rc a):=κ
  have q:dX (E.at m) pw (.loop a)=GZ (E.at m) (dX (E.at m) pw a):=κ
  rw[u,q];exact axO (E:=E) p j
 |skip=>exact Fa (E:=E) (n:=n) (m:=m) hr (c:=.skip)|region id ak d=>exact Fa (E:=E) (n:=n) (m:=m) hr (c:=.region id ak d)|rangeFunc f ps aI4 bd _ _=>exact Fa (E:=E) (n:=n) (m:=m) hr (c:=.rangeFunc f ps aI4 bd)|exit id=>exact Fa (E:=E) (n:=n) (m:=m) hr (c:=.exit id)|scope c _=>exact Fa (E:=E) (n:=n) (m:=m) hr (c:=.scope c)|label l=>exact Fa (E:=E) (n:=n) (m:=m) hr (c:=.label l)|goto l=>exact Fa (E:=E) (n:=n) (m:=m) hr (c:=.goto l)|ret=>exact Fa (E:=E) (n:=n) (m:=m) hr (c:=.ret)|refuse w=>exact Fa (E:=E) (n:=n) (m:=m) hr (c:=.refuse w)
def Zn(h:n<=m)(hr:xl rc pw){f:fD}{args:AU}{H:D}:Le R.ok (oU (E.at n) rc f args H) (oU (E.at m) pw f args H):=by
 unfold oU;refine CV (λ fn=>?_) Le.er;cases fn.body with
 |none=>exact Le.er
 |some c=>
  dsimp only
  refine aEO λ n' s=>Lp λ g=>?_
  cases j:dX (E.at n) rc c ⟨s,g,[],none,f⟩ H with
  |er l=>exact Le.er
  |ok r=>
   rw[Gc h hr c _ _ _ j]
   exact le_refl _
def aD4(p:n<=m)(hr:xl rc pw){l:Nat}{args:AU}{H:D}:Le R.ok (Ft (E.at n) rc l args H) (Ft (E.at m) pw l args H):=by
 unfold Ft;refine Rn λ o=>?_;cases o with
 |loop st c_ f h s ps aI4 q d=>
  cases st with
  |ready=>
   refine aEt λ s1=>?_
   cases g:dX (E.at n) rc aI4 ⟨s1,h,[],some l,f⟩ H with
   |er l=>exact Le.er
   |ok r=>
    rw[Gc p hr aI4 _ _ _ g]
    have⟨ex,Y,H1⟩:=r
    cases ex with
    |exit j=>exact Le.er|ret=>exact Le.er
    |normal=>
     refine Rn λ o=>?_
     cases o with
     |loop st c_ f h s ps aI4 bd d=>
      cases st with
      |ready=>
       refine alB λ u=>?_
       cases g:dX (E.at n) rc q Y u with|er l=>exact Le.er|ok r=>rw[Gc p hr q _ _ _ g];exact le_refl _
      |_=>exact Le.er
     |_=>exact Le.er
  |_=>exact Le.er
 |_=>exact Le.er
end
def bS(E:aK)(n:Nat):mP:=mw (E.at n) n
def ahc(E:aK)(n:Nat)(t:Task)(H:D):mw E (n+1) t H=(match t with|.call f args=>cB E.Q f (λ h=>eC (oU E (mw E n) f args H) (λ g=>eC (oU E (mw E n) f args H) (λ _=>vD E h args H) g) h) (oU E (mw E n) f args H)|.round l args=>Ft E (mw E n) l args H):=rfl
theorem PQ{E:aK}{a b:Nat}(g:a<=b):∀(n m:Nat),n<=m->xl (mw (E.at a) n) (mw (E.at b) m)
 |0,_,_=>λ _ _ _ h=>by cases h
 |n+1,0,h=>ω
 |n+1,m+1,h=>by
  have j:=PQ (E:=E) g n m ω
  intro t H q p
  refine zV (a:=mw (E.at a) (n+1) t H) ?_ p
  rw[ahc,ahc]
  cases t with
  |call f args=>
   refine CV (λ h=>Nr (Zn g j) λ u=>Nr (Zn g j) λ _=>?_) (Zn g j)
   rw[aaL,aaL];exact le_refl _
  |round l args=>exact aD4 g j
def Dy{E:aK}{n m:Nat}(h:n<=m):xl (bS E n) (bS E m):=PQ h n m h
def Tr.aku{α:Type}:∀(f:Nat) (t:Tr α) (k:Nat) (v:Option α),k+1<2^f->∃t',t.set f k v=some t':=by
 intro f;induction f with
 |zero=>intro t k v h;simp at h
 |succ f g=>
  intro t k v h
  cases k with
  |zero=>exact⟨_,rfl⟩
  |succ k=>
   have Q:k/2+1<2^f:=by
    have:2^(f+1)=2*2^f:=by rw[OF];omega
    omega
   simp only[Tr.set]
   by_cases j:k%2=0
   .have⟨l,p⟩:=g t.left (k/2) v Q
    simp only[j,qk,p,xy];exact⟨_,rfl⟩
   .have⟨r,hr⟩:=g t.right (k/2) v Q
    simp only[j,n_,hr,xy];exact⟨_,rfl⟩
def Tr.Xp{α:Type}:∀(f g:Nat) (t t':Tr α) (k:Nat) (v:Option α),t.set f k v=some t'->f<=g->t.set g k v=some t':=by
 intro f;induction f with
 |zero=>intro g t t' k v h;cases h
 |succ f j=>
  intro g t t' k v h q
  cases g with
  |zero=>omega
  |succ g=>
   cases k with
   |zero=>exact h
   |succ k=>
    simp only[Tr.set]at h⊢
    by_cases p:k%2=0
    .simp only[p,qk,zh]at h⊢
     have⟨l,O,U⟩:=h;exact⟨l,j g _ _ _ _ O ω,U⟩
    .simp only[p,n_,zh]at h⊢
     have⟨l,O,U⟩:=h;exact⟨l,j g _ _ _ _ O ω,U⟩
def Tr.put{α:Type}(t:Tr α)(k:Nat)(v:Option α):Tr α:=(t.set (k+1) k v).getD .e
def axQ(k:Nat):k+1<2^(k+1)\/k=0:=by
 induction k with
 |zero=>exact .inr rfl
 |succ k g=>
  rw[OF]
  rcases g with h|h
  .exact .inl ω
  .subst h;exact .inl η
def Tr.Xq{α:Type}(t:Tr α)(k:Nat)(v:Option α):t.set (k+1) k v=some (t.put k v):=by
 unfold Tr.put;rcases axQ k with h|h
 .have⟨t',g⟩:=Tr.aku (k+1) t k v h;rw[g];rfl
 .subst h;rfl
def Tr.akt{α:Type}{f:Nat}(t:Tr α)(k:Nat)(v:Option α)(h:k+1<2^f):t.set f k v=some (t.put k v):=by have⟨t',g⟩:=Tr.aku f t k v h;have O:=Tr.Xp _ (max f (k+1)) _ _ _ _ g (FQ _ _);have U:=Tr.Xp _ (max f (k+1)) _ _ _ _ (Tr.Xq t k v) (BQ _ _);rw[O]at U;rw[g,U]
def Tr.aks{α:Type}{f:Nat}{t:Tr α}{k:Nat}{v:Option α}(h:(t.set f k v).isSome=true):t.set f k v=some (t.put k v):=by rw[afu]at h;have⟨t',g⟩:=h;have O:=Tr.Xp _ (max f (k+1)) _ _ _ _ g (FQ _ _);have U:=Tr.Xp _ (max f (k+1)) _ _ _ _ (Tr.Xq t k v) (BQ _ _);rw[O]at U;rw[g,U]
def Tr.aEv{α:Type}{f:Nat}{t:Tr α}{k:Nat}{v:Option α}(h:k+1<2^f):(t.set f k v).isSome=true:=by rw[Tr.akt t k v h];rfl
@[simp]def Tr.eR{α:Type}(t:Tr α)(k:Nat)(v:Option α)(j:Nat):(t.put k v).get j=if j=k then v else t.get j:=Tr.adU _ _ _ _ _ (Tr.Xq t k v) j
@[simp]def Tr.atF{α:Type}(k:Nat):(Tr.e:Tr α).get k=none:=Tr.Gk k
def aEs{α β:Type}{f:Nat}{t:Tr α}{k:Nat}{v:Option α}{g:Tr α->β}{d:β}(h:k+1<2^f):j_ f t k v g d=g (t.put k v):=by rw[DA,Tr.akt t k v h]
def adT{α β:Type}{t:Tr α}{k:Nat}{v:Option α}{g:Tr α->β}{d:β}:j_ (Nat.succ k) t k v g d=g (t.put k v):=by rw[DA];rw[Tr.Xq]
def Tr.iM{α:Type}:Tr α->Nat->List α->Tr α
 |t,_,[]=>t|t,i,v::l=>(t.put i (some v)).iM (i+1) l
def Tr.vn{α:Type}(l:List α):∀(t:Tr α) (i j:Nat),(t.iM i l).get j=if i<=j/\j<i+l.length then l[j-i]? else t.get j:=by
 induction l with
 |nil=>
  intro t i j
  have:¬(i<=j/\j<i+([]:List α).length):=by simp only[wg];omega
  rw[ao this];rfl
 |cons v l g=>
  intro t i j
  show(((t.put i (some v)).iM (i+1) l).get j)=_
  rw[g,Tr.eR]
  by_cases O:j=i
  .subst O
   rw[ao ω,aq rfl,aq (by simp only[qi];omega),YU];rfl
  .by_cases U:i+1<=j/\j<i+1+l.length
   .rw[aq U,aq (by simp only[qi];omega)];have:j-i=(j-(i+1))+1:=ω
    rw[this,YF]
   .rw[ao U,ao O,ao (by simp only[qi];omega)]
def alS{β:Type}{l:AU}:∀{t:CX} {ah:Nat} {k:CX->R β},kN t ah l k=k (t.iM ah l):=by
 unfold kN;induction l with
 |nil=>intro t ah k;rfl
 |cons v l g=>
  intro t ah k
  rw[qA,adT,mr]
  exact g
def bc{α:Type}(t:Tr α)(ah:Nat):Nat->Option (List α)
 |0=>some []|n+1=>match t.get ah with|none=>none|some v=>(bc t (ah+1) n).map (v:: ·)
def iB{α:Type}{t:Tr α}:∀{n:Nat} {ah:Nat} {l:List α},bc t ah n=some l↔l.length=n/\∀i,i<n->t.get (ah+i)=l[i]?:=by
 intro n;induction n with
 |zero=>
  intro ah l
  constructor
  .intro h;cases h;exact⟨rfl,λ i A=>ω⟩
  .rintro⟨h,_⟩;rw[YH]at h;subst h;rfl
 |succ n j=>
  intro ah l
  simp only[bc]
  constructor
  .intro h
   cases g:t.get ah with
   |none=>rw[g]at h;cases h
   |some v=>
    rw[g]at h
    simp only[zh]at h
    have⟨l',O,U⟩:=h
    subst U
    have⟨F,q⟩:=j.1 O
    refine⟨by simp[F],λ i A=>?_⟩
    cases i with
    |zero=>simpa using g
    |succ i=>
     have:=q i ω
     rw[YF,<-this]
     congr 1;omega
  .rintro⟨O,U⟩
   cases l with
   |nil=>simp at O
   |cons v l=>
    have p:=U 0 ω
    simp only[xx,ae9]at p
    rw[p]
    have:bc t (ah+1) n=some l:=j.2 ⟨by simpa using O,λ i A=>by have:=U (i+1) ω;rw[YF]at this;rw[<-this];congr 1;omega⟩
    simp[this]
def bY{β:Type}{t:CX}{ah m:Nat}{k:AU->R β}{l:AU}(h:bc t ah m=some l):pU t ah m k=k l:=by
 have key:∀(m:Nat) (g:AU) (l:AU),bc t ah m=some l->rV (α:=AU) (β:=R β) k (λ i j g=>cB t (Nat.add ah i) (λ v=>j (v::g)) (.er [4,ah,i])) m g=k (l++g):=by
  intro m;induction m with
  |zero=>intro g l h;cases h;rfl
  |succ m j=>
   intro g l h
   have⟨O,U⟩:=iB.1 h
   rw[z8,jJ]
   have B:=U m ω
   rw[bf ω]at B
   have p:t.get (Nat.add ah m)=some l[m]:=B
   rw[p]
   have q:bc t ah m=some (l.take m):=iB.2 ⟨ξ,λ i A=>by rw[U i ω,rI,aq A]⟩
   show rV k _ m (l[m]::g)=_
   rw[j _ _ q]
   congr 1
   have F:l.drop m=[l[m]]:=by rw[Ox ω,ae4 ω]
   calc l.take m++l[m]::g=(l.take m++[l[m]])++g:=by rw[FK];rfl
    _=(l.take m++l.drop m)++g:=by rw[F]
    _=l++g:=by rw[wj]
 unfold pU;rw[key m [] l h,HU]
namespace D
def get(H:D)(id:Nat):Option AO:=H.t.get id
def put(H:D)(id:Nat)(o:Option AO):D:=⟨H.ab,H.t.put id o⟩
def add(H:D)(o:AO):D:=⟨H.ab+1,H.t.put H.ab (some o)⟩
def eR(H:D)(id:Nat)(o:Option AO)(j:Nat):(H.put id o).get j=if j=id then o else H.get j:=Tr.eR _ _ _ _
def jK(H:D)(o:AO)(j:Nat):(H.add o).get j=if j=H.ab then some o else H.get j:=Tr.eR _ _ _ _
def azg(H:D)(id:Nat)(o:Option AO):(H.put id o).ab=H.ab:=rfl
def azf(H:D)(o:AO):(H.add o).ab=H.ab+1:=rfl
attribute [simp] eR jK azg azf
end D
def ay7{β:Type}{H:D}{o:AO}{k:Nat->D->R β}:kM H o k=k H.ab (H.add o):=by
 cases H with
 |mk g t=>
  show j_ (Nat.succ g) t g (some o) (λ t'=>d_ (Nat.succ g) λ h=>k g ⟨h,t'⟩) (.er [1])=_
  rw[adT,mr];rfl
def aGr{β:Type}{H:D}{id:Nat}{o:Option AO}{k:D->R β}:me H id o k=k (H.put id o):=by
 cases H with
 |mk g t=>
  show j_ (Nat.succ id) t id o (λ t'=>k ⟨g,t'⟩) (.er [3])=_
  rw[adT];rfl
def azG{β:Type}{H:D}{id:Nat}{k:AO->R β}:ie H id k=match H.get id with|some o=>k o|none=>.er [2,id]:=by
 cases H with
 |mk g t=>
  show cB t id k (.er [2,id])=(match t.get id with|some o=>k o|none=>.er [2,id])
  rw[jJ]
  cases t.get id<;>rfl
inductive fg where
 |code (c:Code)|ak (all l:List Oper)|wT (all:List Oper) (l:List di)|again (all:List Oper) (l:List Nat)|bF (id:Nat)
section
variable(E:aK)(rc:mP)
def bN:List fg->dE->aE->D->St
 |[],ex,Y,H=>.ok (ex,Y,H)|.code c::k,.normal,Y,H=>(match dX E rc c Y H with|.er l=>.er l|.ok (g,an,H')=>bN k g an H')|.ak all l::k,.normal,Y,H=>nO E rc all l (λ an H'=>bN k .normal an H') Y H|.wT all l::k,.normal,Y,H=>m8 E rc all l (λ an H'=>bN k .normal an H') Y H|.again all l::k,.normal,Y,H=>rG E Y all l H (λ _=>bN k .normal Y H)|.bF id::k,.exit j,Y,H=>bN k (if j=id then .normal else .exit j) Y H|_::k,ex,Y,H=>bN k ex Y H
end
section
variable{E:aK}{rc pw:mP}{n m:Nat}
theorem oX(g:n<=m)(hr:xl rc pw):∀(k:List fg) (ex:dE) (Y:aE) (H:D),Le R.ok (bN (E.at n) rc k ex Y H) (bN (E.at m) pw k ex Y H)
 |[],ex,Y,H=>le_refl _
 |.code c::k,ex,Y,H=>by
  cases ex with
  |normal=>
   simp only[bN]
   cases h:dX (E.at n) rc c Y H with|er l=>exact Le.er|ok r=>rw[Gc g hr c _ _ _ h];exact oX g hr k _ _ _
  |exit j=>simp only[bN];exact oX g hr k _ _ _|ret=>simp only[bN];exact oX g hr k _ _ _
 |.ak all l::k,ex,Y,H=>by
  cases ex with
  |normal=>simp only[bN];exact WN hr λ _ _=>oX g hr k _ _ _
  |exit j=>simp only[bN];exact oX g hr k _ _ _|ret=>simp only[bN];exact oX g hr k _ _ _
 |.wT all l::k,ex,Y,H=>by
  cases ex with
  |normal=>simp only[bN];exact adr hr λ _ _=>oX g hr k _ _ _
  |exit j=>simp only[bN];exact oX g hr k _ _ _|ret=>simp only[bN];exact oX g hr k _ _ _
 |.again all l::k,ex,Y,H=>by
  cases ex with
  |normal=>simp only[bN];exact aeT λ _=>oX g hr k _ _ _
  |exit j=>simp only[bN];exact oX g hr k _ _ _|ret=>simp only[bN];exact oX g hr k _ _ _
 |.bF id::k,ex,Y,H=>by
  cases ex with|normal=>simp only[bN];exact oX g hr k _ _ _|exit j=>simp only[bN];exact oX g hr k _ _ _|ret=>simp only[bN];exact oX g hr k _ _ _
end
def C(E:aK)(t:Task)(H:D)(aj:J->D->Prop):Prop:=∃n v H',bS E n t H=.ok (v,H')/\aj v H'
def MX(E:aK)(k:List fg)(ex:dE)(Y:aE)(H:D)(aj:dE->aE->D->Prop):Prop:=∃n g an H',bN (E.at n) (bS E n) k ex Y H=.ok (g,an,H')/\aj g an H'
def aD(E:aK)(k:List fg)(Y:aE)(H:D)(aj:dE->aE->D->Prop):Prop:=MX E k .normal Y H aj
def C.mono{E:aK}{t:Task}{H:D}{aj Q':J->D->Prop}(h:C E t H aj)(g:∀v H',aj v H'->Q' v H'):C E t H Q':=by have⟨n,v,H',O,U⟩:=h;exact⟨n,v,H',O,g _ _ U⟩
def aD.mono{E:aK}{k:List fg}{Y:aE}{H:D}{aj Q':dE->aE->D->Prop}(h:aD E k Y H aj)(g:∀ex Y H',aj ex Y H'->Q' ex Y H'):aD E k Y H Q':=by have⟨n,ex,an,H',O,U⟩:=h;exact⟨n,ex,an,H',O,g _ _ _ U⟩
section
variable{E:aK}{k:List fg}{Y:aE}{H:D}{aj:dE->aE->D->Prop}
def ame:aD E [] Y H aj↔aj .normal Y H:=⟨λ ⟨_,_,_,_,O,U⟩=>by cases O;exact U,λ h=>⟨0,_,_,_,rfl,h⟩⟩
def amn:aD E (.code .skip::k) Y H aj↔aD E k Y H aj:=so
def HC{a b:Code}:aD E (.code (.seq a b)::k) Y H aj↔aD E (.code a::.code b::k) Y H aj:=by
 have key:∀n,bN (E.at n) (bS E n) (.code (.seq a b)::k) .normal Y H=bN (E.at n) (bS E n) (.code a::.code b::k) .normal Y H:=by
  intro n;simp only[bN];show(match Hl (dX (E.at n) (bS E n) a) (dX (E.at n) (bS E n) b) Y H with|.er l=>(.er l:St)|.ok (g,an,H')=>bN (E.at n) (bS E n) k g an H')=_;unfold Hl;cases dX (E.at n) (bS E n) a Y H with
  |er l=>rfl
  |ok r=>
   have⟨ex,an,H'⟩:=r
   cases ex with|normal=>simp only[bN]|exit j=>simp only[bN]|ret=>simp only[bN]
 unfold aD MX;simp only[key]
def aeC{id:Nat}{a:Code}:aD E (.code (.block id a)::k) Y H aj↔aD E (.code a::.bF id::k) Y H aj:=by
 have key:∀n,bN (E.at n) (bS E n) (.code (.block id a)::k) .normal Y H=bN (E.at n) (bS E n) (.code a::.bF id::k) .normal Y H:=by
  intro n;simp only[bN];show(match F7 id (dX (E.at n) (bS E n) a) Y H with|.er l=>(.er l:St)|.ok (g,an,H')=>bN (E.at n) (bS E n) k g an H')=_;unfold F7;cases dX (E.at n) (bS E n) a Y H with
  |er l=>rfl
  |ok r=>
   have⟨ex,an,H'⟩:=r
   cases ex with
   |normal=>simp only[bN]|ret=>simp only[bN]
   |exit j=>
    simp only[bN]
    by_cases h:j=id
    .subst h
     have:Nat.beq j j=true:=ζ
     rw[this,aq rfl];rfl
    .have:Nat.beq j id=false:=by cases p:Nat.beq j id with|false=>rfl|true=>exact absurd (afm p) h
     rw[this,ao h];rfl
 unfold aD MX;simp only[key]
def al8{id:Nat}:aD E (.bF id::k) Y H aj↔aD E k Y H aj:=so
def amm:aD E (.code .ret::k) Y H aj↔MX E k .ret Y H aj:=so
def ama{j:Nat}:aD E (.code (.exit j)::k) Y H aj↔MX E k (.exit j) Y H aj:=so
def al5{ex:dE}:MX E [] ex Y H aj↔aj ex Y H:=⟨λ ⟨_,_,_,_,O,U⟩=>by cases O;exact U,λ h=>⟨0,_,_,_,rfl,h⟩⟩
def al6{x:fg}:MX E (x::k) .ret Y H aj↔MX E k .ret Y H aj:=by cases x<;>exact so
def al4{j:Nat}{c:Code}:MX E (.code c::k) (.exit j) Y H aj↔MX E k (.exit j) Y H aj:=so
def al3{j id:Nat}:MX E (.bF id::k) (.exit j) Y H aj↔if j=id then aD E k Y H aj else MX E k (.exit j) Y H aj:=by
 unfold aD MX;simp only[bN];by_cases h:j=id
 .simp only[h,qk]
 .simp only[h,n_]
theorem aeE{a:Code}(h:aD E (.code a::.code (.loop a)::k) Y H aj):aD E (.code (.loop a)::k) Y H aj:=by
 have⟨n,p,an,H',O,U⟩:=h;refine⟨n+1,p,an,H',?_,U⟩;simp only[bN]at O⊢;have A:∀j rc,dX (E.at j) rc (.loop a)=GZ (E.at j) (dX (E.at j) rc a):=λ j rc=>κ
 rw[A];have g:xl (bS E n) (bS E (n+1)):=Dy ω;have C:=Gc (E:=E) (n:=n) (m:=n+1) ω g;show(match uy (dX (E.at (n+1)) (bS E (n+1)) a) (n+1) Y H with|.er l=>(.er l:St)|.ok (p,an,H')=>bN (E.at (n+1)) (bS E (n+1)) k p an H')=_;cases z:dX (E.at n) (bS E n) a Y H with
 |er l=>rw[z]at O;cases O
 |ok r=>
  rw[z]at O
  have⟨G,B,H1⟩:=r
  have K:=C a _ _ _ z
  have J:uy (dX (E.at (n+1)) (bS E (n+1)) a) (n+1) Y H=(match dX (E.at (n+1)) (bS E (n+1)) a Y H with|.er l=>.er l|.ok r=>match r with|(.normal,an,H')=>uy (dX (E.at (n+1)) (bS E (n+1)) a) n an H'|r=>.ok r):=rfl
  rw[J,K]
  cases G with
  |normal=>
   simp only[bN]at O⊢
   cases u:GZ (E.at n) (dX (E.at n) (bS E n) a) B H1 with
   |er l=>rw[A,u]at O;cases O
   |ok r=>
    rw[A,u]at O
    have D:uy (dX (E.at (n+1)) (bS E (n+1)) a) n B H1=.ok r:=by
     have key:∀(j:Nat) Y H q,uy (dX (E.at n) (bS E n) a) j Y H=.ok q->uy (dX (E.at (n+1)) (bS E (n+1)) a) j Y H=.ok q:=by
      intro j;induction j with
      |zero=>intro Y H q h;cases h
      |succ j F=>
       intro Y H q h
       have⟨ex,an,H',Z,I⟩:=Wq h
       show(match dX (E.at (n+1)) (bS E (n+1)) a Y H with|.er l=>.er l|.ok r=>match r with|(.normal,an,H')=>uy (dX (E.at (n+1)) (bS E (n+1)) a) j an H'|r=>.ok r)=(.ok q:St)
       rw[C a _ _ _ Z]
       rcases I with⟨rfl,U⟩|⟨O,U⟩
       .exact F _ _ _ U
       .subst U
        cases ex with|normal=>exact absurd rfl O|exit j=>rfl|ret=>rfl
     exact key n B H1 r u
    rw[D]
    exact zV (oX (E:=E) ω g k _ _ _) O
  |exit j=>
   simp only[bN]at O⊢
   exact zV (oX (E:=E) ω g k _ _ _) O
  |ret=>
   simp only[bN]at O⊢
   exact zV (oX (E:=E) ω g k _ _ _) O
end
def Bl:aC->J
 |.agg M=>.agg (M.toList.map .lit)|v=>.lit v
def BZ(E:aK)(s:CX):dy->Option J
 |.tmp t=>s.get t|.const v=>some (Bl v)|.global g=>(E.gl.get g).map λ id=>.ptr id 0
 |.func f=>some (.fn (.func f) [] [])
def ax3{β:Type}(l:List aC)(k:AU->R β):iA (λ v k=>k (J.lit v)) l k=k (l.map .lit):=by unfold iA;induction l generalizing k with|nil=>rfl|cons a l g=>rw[qA];exact g _
def TX{β:Type}{E:aK}{s:CX}{x:dy}{v:J}{k:J->R β}(h:BZ E s x=some v):bE E s x k=k v:=by
 cases x with
 |tmp t=>show cB s t k _=_;rw[jJ];have j:s.get t=some v:=h;rw[j]
 |const c=>
  show JJ c k=_
  unfold JJ
  cases c with|agg M=>cases h;dsimp only;rw[ax3];rfl|_=>cases h;rfl
 |global g=>
  show cB E.gl g (λ id=>k (.ptr id 0)) _=_
  rw[jJ]
  have j:(E.gl.get g).map (λ id=>J.ptr id 0)=some v:=h
  rw[zh]at j
  have⟨id,O,U⟩:=j
  rw[O,<-U]
 |func f=>cases h;rfl
def ZU{β:Type}(E:aK)(n:Nat)(s:CX)(x:dy)(k:J->R β):bE (E.at n) s x k=bE E s x k:=by cases E;rfl
def MD(E:aK)(d:Option Tmp)(v:J)(k:List fg)(Y:aE)(H:D)(aj:dE->aE->D->Prop):Prop:=match d with|none=>aD E k Y H aj|some t=>t<Y.size/\(Y.cD.set 64 t (some v)).isSome=true/\aD E k ⟨Y.cD.put t (some v),Y.size,Y.marks,Y.round,Y.fn⟩ H aj
def MT(E:aK)(t:Task)(d:Option Tmp)(k:List fg)(Y:aE)(H:D)(aj:dE->aE->D->Prop):Prop:=C E t H λ v H'=>MD E d v k Y H' aj
def MO(E:aK)(r:R dS)(d:Option Tmp)(k:List fg)(Y:aE)(aj:dE->aE->D->Prop):Prop:=match r with|.er _=>False|.ok (.val v H')=>MD E d v k Y H' aj|.ok (.call f args H')=>MT E (.call f args) d k Y H' aj|.ok (.round l args H')=>MT E (.round l args) d k Y H' aj
def dA(Y:aE)(all:List Oper)(g:Option (Nat×Bool)):Option Bool:=match g with|none=>some true|some (j,b)=>match all[j]? with|none=>none|some o=>match o.dst with|none=>none|some t=>match Y.cD.get t with|none=>none|some (.lit (.bool c))=>some (c==b)|some _=>some false
def yT(E:aK)(all:List Oper)(o:Oper)(k:List fg)(Y:aE)(H:D)(aj:dE->aE->D->Prop):Prop:=∃w,dA Y all o.guard=some w/\(w=true->MO E (bw E Y.cD o.op H) o.dst k Y aj)/\(w=false->MD E o.dst pD k Y H aj)
def uA{α β:Type}{l:List α}:∀{n:Nat} {k:α->R β} {d:R β},mE l n k d=match l[n]? with|some a=>k a|none=>d:=by
 unfold mE;induction l with
 |nil=>intro n k d;rfl
 |cons a l g=>
  intro n k d
  rw[qA]
  cases n with
  |zero=>rfl
  |succ n=>
   show jQ _ _ l n=_
   rw[g];rfl
def Ai{β:Type}{Y:aE}{all:List Oper}{g:Option (Nat×Bool)}{q no:Unit->R β}{w:Bool}(h:dA Y all g=some w):BB Y all g q no=if w then q ()else no ():=by
 unfold BB;unfold dA at h;cases g with
 |none=>cases h;rfl
 |some p=>
  obtain⟨j,b⟩:=p
  dsimp only at h⊢
  rw[uA]
  cases z:all[j]? with
  |none=>rw[z]at h;cases h
  |some o=>
   rw[z]at h
   dsimp only at h⊢
   cases hd:o.dst with
   |none=>rw[hd]at h;cases h
   |some t=>
    rw[hd]at h
    dsimp only at h⊢
    rw[jJ]
    cases u:Y.cD.get t with
    |none=>rw[u]at h;cases h
    |some v=>
     rw[u]at h
     dsimp only at h⊢
     split at h
     .cases h
     .rename_i c A
      cases A;cases h;cases c<;>cases b<;>rfl
     .cases h
      split
      .rename_i b' B;exfalso;cases b'<;>simp_all
      .rfl
section
variable{E:aK}{k:List fg}{Y:aE}{H:D}{aj:dE->aE->D->Prop}
def XT{d:Option Tmp}{v:J}(h:MD E d v k Y H aj):∃an,aD E k an H aj/\∀{β:Type} (kk:aE->R β),qt Y d v kk=kk an:=by
 cases d with
 |none=>exact⟨Y,h,λ _=>rfl⟩
 |some t=>
  have⟨O,F,U⟩:=h
  refine⟨_,U,λ kk=>?_⟩
  have⟨s,n,m,r,f⟩:=Y
  show aB (.er [120]) (j_ 64 s t (some v) (λ s'=>kk ⟨s',n,m,r,f⟩) (.er [121])) (Nat.blt t n)=_
  have:Nat.blt t n=true:=by simpa[tK]using O
  rw[this]
  show j_ 64 s t (some v) (λ s'=>kk ⟨s',n,m,r,f⟩) (.er [121])=_
  rw[DA,Tr.aks F]
def aeB{t:Task}{d:Option Tmp}(h:MT E t d k Y H aj):∃n v H' an,aD E k an H' aj/\(∀{β:Type} (kk:aE->R β),qt Y d v kk=kk an)/\∀m,n<=m->bS E m t H=.ok (v,H'):=by have⟨n,v,H',O,U⟩:=h;have⟨an,F,g⟩:=XT U;exact⟨n,v,H',an,F,g,λ m B=>Dy B _ _ _ O⟩
def XV{all:List Oper}{o:Oper}(h:yT E all o k Y H aj):∃n an H',aD E k an H' aj/\∀m,n<=m->∀{β:Type} (kk:aE->D->R β),iZ (E.at m) (bS E m) Y all o H kk=kk an H':=by
 have⟨w,hw,g,j⟩:=h;cases w with
 |false=>
  have⟨an,O,U⟩:=XT (j rfl)
  refine⟨0,an,H,O,λ m _ β kk=>?_⟩
  unfold iZ
  rw[Ai hw,ao ζ]
  exact U _
 |true=>
  have h:=g rfl
  unfold MO at h
  cases hr:bw E Y.cD o.op H with
  |er l=>rw[hr]at h;cases h
  |ok r=>
   rw[hr]at h
   cases r with
   |val v H'=>
    have⟨an,O,U⟩:=XT h
    refine⟨0,an,H',O,λ m _ β kk=>?_⟩
    unfold iZ
    rw[Ai hw,aq rfl,Fm,hr]
    exact U _
   |call f args H'=>
    have⟨n,v,jS,an,O,U,F⟩:=aeB h
    refine⟨n,an,jS,O,λ m B β kk=>?_⟩
    unfold iZ
    rw[Ai hw,aq rfl,Fm,hr]
    dsimp only
    rw[F m B]
    exact U _
   |round f args H'=>
    have⟨n,v,jS,an,O,U,F⟩:=aeB h
    refine⟨n,an,jS,O,λ m B β kk=>?_⟩
    unfold iZ
    rw[Ai hw,aq rfl,Fm,hr]
    dsimp only
    rw[F m B]
    exact U _
def Oe{x:fg}{k':List fg}(h:∃n an H',aD E k' an H' aj/\∀m,n<=m->bN (E.at m) (bS E m) (x::k) .normal Y H=bN (E.at m) (bS E m) k' .normal an H'):aD E (x::k) Y H aj:=by have⟨n,an,H',⟨n',ex,g,jS,O,U⟩,F⟩:=h;refine⟨max n n',ex,g,jS,?_,U⟩;rw[F _ (FQ _ _)];exact zV (oX (E:=E) (BQ _ _) (Dy (BQ _ _)) k' _ _ _) O
def amf{all l:List Oper}{o:Oper}(h:yT E all o (.ak all l::k) Y H aj):aD E (.ak all (o::l)::k) Y H aj:=by have⟨n,an,H',O,U⟩:=XV h;refine Oe ⟨n,an,H',O,λ m B=>?_⟩;simp only[bN];show iZ (E.at m) (bS E m) Y all o H (λ an H'=>nO (E.at m) (bS E m) all l (λ an H'=>bN (E.at m) (bS E m) k .normal an H') an H')=_;rw[U m B]
def amh{all:List Oper}{l:List di}{i:Nat}{o:Oper}(g:all[i]?=some o)(h:yT E all o (.wT all l::k) Y H aj):aD E (.wT all (.op i::l)::k) Y H aj:=by have⟨n,an,H',O,U⟩:=XV h;refine Oe ⟨n,an,H',O,λ m B=>?_⟩;simp only[bN];show mE all i (λ o=>iZ (E.at m) (bS E m) Y all o H (λ an H'=>m8 (E.at m) (bS E m) all l (λ an H'=>bN (E.at m) (bS E m) k .normal an H') an H')) (.er [127])=_;rw[uA,g];dsimp only;rw[U m B]
def ami{all:List Oper}{l:List di}{i:Nat}{re:AT}{o:Oper}(g:all[i]?=some o)(h:yT E all o (.again all re::.wT all l::k) Y H aj):aD E (.wT all (.wr i re::l)::k) Y H aj:=by have⟨n,an,H',O,U⟩:=XV h;refine Oe ⟨n,an,H',O,λ m B=>?_⟩;simp only[bN];show mE all i (λ o=>iZ (E.at m) (bS E m) Y all o H (λ an H'=>rG (E.at m) an all re H' λ _=>m8 (E.at m) (bS E m) all l (λ an H'=>bN (E.at m) (bS E m) k .normal an H') an H')) (.er [128])=_;rw[uA,g];dsimp only;rw[U m B]
def dm(E:aK)(Y:aE)(o:Oper)(H:D):Prop:=match bw E Y.cD o.op H with|.ok (.val v _)=>(match o.dst with|none=>True|some t=>match Y.cD.get t with|some u=>fy u v=true|none=>False)|_=>False
def al7{all:List Oper}{i:Nat}{l:AT}{o:Oper}{w:Bool}(q:all[i]?=some o)(hw:dA Y all o.guard=some w)(g:w=true->dm E Y o H)(h:aD E (.again all l::k) Y H aj):aD E (.again all (i::l)::k) Y H aj:=by
 refine Oe ⟨0,Y,H,h,λ m _=>?_⟩;simp only[bN];show xq (E.at m) Y all i H (λ _=>rG (E.at m) Y all l H (λ _=>bN (E.at m) (bS E m) k .normal Y H))=_;unfold xq;rw[uA,q];dsimp only;rw[Ai hw];cases w with
 |false=>rfl
 |true=>
  rw[aq rfl,Fm]
  have g:=g rfl
  unfold dm at g
  split at g
  .rename_i v H' p
   rw[p];dsimp only;cases hd:o.dst with
   |none=>rfl
   |some t=>
    rw[hd]at g
    dsimp only at g⊢
    rw[jJ]
    cases j:Y.cD.get t with
    |none=>rw[j]at g;cases g
    |some u=>
     rw[j]at g
     dsimp only at g⊢
     rw[g];rfl
  .cases g
def amk{id:Nat}{ak:Array Oper}(h:aD E (.ak ak.toList ak.toList::k) Y H aj):aD E (.code (.region id ak false)::k) Y H aj:=by have⟨n,ex,an,H',O,U⟩:=h;refine⟨n,ex,an,H',?_,U⟩;simp only[bN]at O⊢;have u:Le (λ (p:dE×aE×D)=>bN (E.at n) (bS E n) k p.1 p.2.1 p.2.2) (nO (E.at n) (bS E n) ak.toList ak.toList (λ an H'=>bN (E.at n) (bS E n) k .normal an H') Y H) (nO (E.at n) (bS E n) ak.toList ak.toList (λ an H'=>.ok (dE.normal,an,H')) Y H):=WN (E:=E) (n:=n) (m:=n) (λ _ _ _ h=>h) λ x y=>⟨λ q h=>⟨_,rfl,h⟩⟩;have⟨p,F,j⟩:=u.out _ O;have g:dX (E.at n) (bS E n) (.region id ak false) Y H=.ok p:=F;rw[g];exact j
def aml{id:Nat}{ak:Array Oper}{pl:List di}(j:(E.pl.get Y.fn).bind (·.get id)=some pl)(h:aD E (.wT ak.toList pl::k) Y H aj):aD E (.code (.region id ak true)::k) Y H aj:=by
 have⟨n,ex,an,H',O,U⟩:=h;refine⟨n,ex,an,H',?_,U⟩;simp only[bN]at O⊢;have B:Le (λ (p:dE×aE×D)=>bN (E.at n) (bS E n) k p.1 p.2.1 p.2.2) (m8 (E.at n) (bS E n) ak.toList pl (λ an H'=>bN (E.at n) (bS E n) k .normal an H') Y H) (m8 (E.at n) (bS E n) ak.toList pl (λ an H'=>.ok (dE.normal,an,H')) Y H):=adr (E:=E) (n:=n) (m:=n) (λ _ _ _ h=>h) λ x y=>⟨λ q h=>⟨_,rfl,h⟩⟩;have⟨p,F,z⟩:=B.out _ O;rw[Tg]at j;have⟨g,A,C⟩:=j;have u:dX (E.at n) (bS E n) (.region id ak true) Y H=.ok p:=by show cB (E.at n).pl Y.fn (λ g=>cB g id (λ pl=>m8 (E.at n) (bS E n) ak.toList pl (λ an H'=>.ok (dE.normal,an,H')) Y H) (.er [136,Y.fn,id])) (.er [137,Y.fn])=_;have e:(E.at n).pl.get Y.fn=some g:=A;rw[jJ,e];dsimp only;rw[jJ,C];exact F
 rw[u];exact z
def al9{x:dy}{a b:Code}{c:Bool}(Z:BZ E Y.cD x=some (.lit (.bool c)))(g:c=true->aD E (.code a::k) Y H aj)(j:c=false->aD E (.code b::k) Y H aj):aD E (.code (.cond x a b)::k) Y H aj:=by
 have key:∀n,dX (E.at n) (bS E n) (.cond x a b) Y H=dX (E.at n) (bS E n) (if c=true then a else b) Y H:=by intro n;show bE (E.at n) Y.cD x (λ v=>match v with|.lit (.bool c)=>aB (dX (E.at n) (bS E n) b Y H) (dX (E.at n) (bS E n) a Y H) c|_=>.er [129])=_;rw[ZU,TX Z];cases c<;>rfl
 have h:aD E (.code (if c=true then a else b)::k) Y H aj:=by cases c with|true=>exact g rfl|false=>exact j rfl
 have⟨n,ex,an,H',O,U⟩:=h;refine⟨n,ex,an,H',?_,U⟩;simp only[bN]at O⊢;rw[key];exact O
def ave{E:aK}{n:Nat}{f:fD}{args:AU}{H:D}(Q:E.Q.get f=none):bS E (n+1) (.call f args) H=oU (E.at (n+1)) (mw (E.at (n+1)) n) f args H:=by show cB (E.at (n+1)).Q f (λ h=>eC (oU (E.at (n+1)) (mw (E.at (n+1)) n) f args H) (λ g=>eC (oU (E.at (n+1)) (mw (E.at (n+1)) n) f args H) (λ _=>vD (E.at (n+1)) h args H) g) h) (oU (E.at (n+1)) (mw (E.at (n+1)) n) f args H)=_;have e:(E.at (n+1)).Q.get f=none:=Q;rw[jJ,e]
def qb(E:aK)(rs:List ResultVar)(aj:J->D->Prop)(ex:dE)(Y:aE)(H:D):Prop:=(∀j,ex≠.exit j)/\∃p,(xQ Y.marks H λ g=>Dx E Y.cD g rs λ v=>.ok (v,g))=.ok p/\aj p.1 p.2
def aj9{β:Type}(E:aK)(n:Nat)(s:CX)(H:D)(rs:List ResultVar)(k:J->R β):Dx (E.at n) s H rs k=Dx E s H rs k:=by cases E;rfl
def ai1{α β:Type}{l:List α}{k:Nat->R β}:jV l k=k l.length:=ux _ _
def aet{f:fD}{fn:Func}{c:Code}{q:Nat}{rs:List ResultVar}{args:AU}{aj:J->D->Prop}(Q:E.Q.get f=none)(B:E.ft.get f=some fn)(G:fn.body=some c)(A:fn.ntmps=q)(hr:fn.results.toList=rs)(h:aD E [.code c] ⟨Tr.e.iM 0 args,args.length+(q-args.length),[],none,f⟩ H (qb E rs aj)):C E (.call f args) H aj:=by
 subst A hr
 have⟨n,ex,an,H',O,U,⟨p,F,I⟩⟩:=h
 refine⟨n+1,p.1,p.2,?_,I⟩
 rw[ave Q]
 unfold oU
 have e:(E.at (n+1)).ft.get f=some fn:=B
 rw[jJ,e]
 dsimp only
 rw[G]
 dsimp only
 unfold NQ
 rw[alS,ai1]
 dsimp only
 rw[mr]
 simp only[bN]at O
 cases g:dX (E.at n) (bS E n) c ⟨Tr.e.iM 0 args,args.length+(fn.ntmps-args.length),[],none,f⟩ H with
 |er l=>rw[g]at O;cases O
 |ok r=>
  rw[g]at O
  have⟨T,V,H1⟩:=r
  cases O
  have N:xl (bS E n) (mw (E.at (n+1)) n):=PQ ω n n ω
  have z:=Gc (E:=E) (n:=n) (m:=n+1) ω N c _ _ _ g
  show(match dX (E.at (n+1)) (mw (E.at (n+1)) n) c ⟨Tr.e.iM 0 args,args.length+(fn.ntmps-args.length),[],none,f⟩ H with|.er l=>(.er l:R (J×D))|.ok r=>_)=_
  rw[z]
  dsimp only
  cases ex with
  |exit j=>exact absurd rfl (U j)|normal=>have⟨s',n',m,u,K⟩:=an;dsimp only at F⊢;simp only[aj9];exact F
  |ret=>have⟨s',n',m,u,K⟩:=an;dsimp only at F⊢;simp only[aj9];exact F
end
@[simp]def Tr.aI0{α:Type}{t:Tr α}{k:Nat}{v:Option α}:(t.set 64 k v).isSome=true↔k+1<18446744073709551616:=by
  constructor
  .have key:∀(f:Nat) (t:Tr α) (k:Nat),(t.set f k v).isSome=true->k+1<2^f:=by
    intro f;induction f with
    |zero=>intro t k h;cases h
    |succ f g=>
     intro t k h
     have e:2^(f+1)=2*2^f:=by rw[OF];omega
     have j:0<2^f:=Nat.two_pow_pos f
     cases k with
     |zero=>omega
     |succ k=>
      simp only[Tr.set]at h
      by_cases Q:k%2=0
      .simp only[Q,qk,afv]at h
       have:=g _ _ h;omega
      .simp only[Q,n_,afv]at h
       have:=g _ _ h;omega
   exact key 64 t k
  .intro h
   exact Tr.aEv h
section
variable{E:aK}{k:List fg}{Y:aE}{H:D}{aj:dE->aE->D->Prop}
def aek{β:Type}{Y:aE}{all:List Oper}{g:Option (Nat×Bool)}{z no:Unit->R β}{q:β}(h:BB Y all g z no=.ok q):∃w,dA Y all g=some w:=by
 unfold BB at h;unfold dA;cases g with
 |none=>exact⟨true,rfl⟩
 |some p=>
  obtain⟨j,b⟩:=p
  dsimp only at h⊢
  rw[uA]at h
  cases u:all[j]? with
  |none=>rw[u]at h;cases h
  |some o=>
   rw[u]at h
   dsimp only at h⊢
   cases hd:o.dst with
   |none=>rw[hd]at h;cases h
   |some t=>
    rw[hd]at h
    dsimp only at h⊢
    rw[jJ]at h
    cases A:Y.cD.get t with|none=>rw[A]at h;cases h|some v=>split<;>simp_all
def TG{β:Type}{d:Option Tmp}{v:J}{kk:aE->R β}{q:β}(h:qt Y d v kk=.ok q)(u:∀an,kk an=.ok q->aD E k an H aj):MD E d v k Y H aj:=by
 unfold qt at h;unfold MD;cases d with
 |none=>exact u _ h
 |some t=>
  have⟨s,n,m,r,f⟩:=Y
  dsimp only at h⊢
  cases j:Nat.blt t n with
  |false=>rw[j]at h;cases h
  |true=>
   rw[j]at h
   have g:j_ 64 s t (some v) (λ s'=>kk ⟨s',n,m,r,f⟩) (.er [121])=.ok q:=h
   rw[DA]at g
   have z:t<n:=by simpa[tK]using j
   cases p:s.set 64 t (some v)with
   |none=>rw[p]at g;cases g
   |some s'=>
    have A:(s.set 64 t (some v)).isSome=true:=by rw[p];rfl
    rw[Tr.aks A]at g
    exact⟨z,rfl,u _ g⟩
def XU{n:Nat}{all:List Oper}{o:Oper}{β:Type}{kk:aE->D->R β}{q:β}(u:∀z H1,kk z H1=.ok q->aD E k z H1 aj)(h:iZ (E.at n) (bS E n) Y all o H kk=.ok q):yT E all o k Y H aj:=by
 unfold iZ at h;have⟨w,hw⟩:=aek h;rw[Ai hw]at h;refine⟨w,hw,?_,?_⟩
 .intro e;rw[e,aq rfl,Fm]at h;unfold MO;cases hr:bw E Y.cD o.op H with
  |er l=>rw[hr]at h;cases h
  |ok r=>
   rw[hr]at h
   cases r with
   |val v H'=>exact TG h λ an j=>u _ _ j
   |call f args H'=>
    dsimp only at h
    cases g:bS E n (.call f args) H' with|er l=>rw[g]at h;cases h|ok p=>rw[g]at h;have⟨v,jS⟩:=p;exact⟨n,v,jS,g,TG h λ an j=>u _ _ j⟩
   |round f args H'=>
    dsimp only at h
    cases g:bS E n (.round f args) H' with|er l=>rw[g]at h;cases h|ok p=>rw[g]at h;have⟨v,jS⟩:=p;exact⟨n,v,jS,g,TG h λ an j=>u _ _ j⟩
 .intro e;rw[e,ao ζ]at h;exact TG h λ an j=>u _ _ j
def amg{all l:List Oper}{o:Oper}(h:aD E (.ak all (o::l)::k) Y H aj):yT E all o (.ak all l::k) Y H aj:=by have⟨n,ex,an,H',O,U⟩:=h;simp only[bN]at O;have p:iZ (E.at n) (bS E n) Y all o H (λ an H'=>nO (E.at n) (bS E n) all l (λ an H'=>bN (E.at n) (bS E n) k .normal an H') an H')=.ok (ex,an,H'):=O;have j:∀g H1,nO (E.at n) (bS E n) all l (λ an H'=>bN (E.at n) (bS E n) k .normal an H') g H1=.ok (ex,an,H')->aD E (.ak all l::k) g H1 aj:=λ g H1 h=>⟨n,ex,an,H',by simp only[bN];exact h,U⟩;exact XU j p
def aEj{all l:List Oper}{o:Oper}:aD E (.ak all (o::l)::k) Y H aj↔yT E all o (.ak all l::k) Y H aj:=⟨amg,amf⟩
def aEk{all:List Oper}:aD E (.ak all []::k) Y H aj↔aD E k Y H aj:=so
def aEl{all:List Oper}:aD E (.wT all []::k) Y H aj↔aD E k Y H aj:=so
attribute [simp] aEj aEk aEl
@[simp]def aIY{all:List Oper}{l:List di}{i:Nat}:aD E (.wT all (.op i::l)::k) Y H aj↔∃o,all[i]?=some o/\yT E all o (.wT all l::k) Y H aj:=by
  refine⟨?_,λ ⟨o,j,h⟩=>amh j h⟩
  rintro⟨n,ex,an,H',O,U⟩
  simp only[bN]at O
  have g:mE all i (λ o=>iZ (E.at n) (bS E n) Y all o H (λ an H'=>m8 (E.at n) (bS E n) all l (λ an H'=>bN (E.at n) (bS E n) k .normal an H') an H')) (.er [127])=.ok (ex,an,H'):=O
  rw[uA]at g
  cases j:all[i]? with
  |none=>rw[j]at g;cases g
  |some o=>
   rw[j]at g
   exact⟨o,rfl,XU (λ p H1 h=>⟨n,ex,an,H',by simp only[bN];exact h,U⟩) g⟩
@[simp]def aIZ{all:List Oper}{l:List di}{i:Nat}{re:AT}:aD E (.wT all (.wr i re::l)::k) Y H aj↔∃o,all[i]?=some o/\yT E all o (.again all re::.wT all l::k) Y H aj:=by
  refine⟨?_,λ ⟨o,j,h⟩=>ami j h⟩
  rintro⟨n,ex,an,H',O,U⟩
  simp only[bN]at O
  have g:mE all i (λ o=>iZ (E.at n) (bS E n) Y all o H (λ an H'=>rG (E.at n) an all re H' λ _=>m8 (E.at n) (bS E n) all l (λ an H'=>bN (E.at n) (bS E n) k .normal an H') an H')) (.er [128])=.ok (ex,an,H'):=O
  rw[uA]at g
  cases j:all[i]? with
  |none=>rw[j]at g;cases g
  |some o=>
   rw[j]at g
   exact⟨o,rfl,XU (λ p H1 h=>⟨n,ex,an,H',by simp only[bN];exact h,U⟩) g⟩
@[simp]def aIX{all:List Oper}:aD E (.again all []::k) Y H aj↔aD E k Y H aj:=so
def aEc{all:List Oper}{i:Nat}{l:AT}(h:∃o w,all[i]?=some o/\dA Y all o.guard=some w/\(w=true->dm E Y o H)/\aD E (.again all l::k) Y H aj):aD E (.again all (i::l)::k) Y H aj:=by have⟨o,w,O,U,F,g⟩:=h;exact al7 O U F g
def ap5{β:Type}{s:CX}{x:dy}{kk:J->R β}{q:β}(h:bE E s x kk=.ok q):∃v,BZ E s x=some v/\kk v=.ok q:=by
 cases x with
 |tmp t=>
  have j:cB s t kk (.er [7,t])=.ok q:=h
  rw[jJ]at j
  show∃v,s.get t=some v/\_
  cases p:s.get t with|none=>rw[p]at j;cases j|some v=>rw[p]at j;exact⟨v,rfl,j⟩
 |const c=>exact⟨_,rfl,by rw[<-TX (E:=E) (s:=s) (x:=.const c) (k:=kk) rfl];exact h⟩
 |global g=>
  have j:cB E.gl g (λ id=>kk (.ptr id 0)) (.er [8,g])=.ok q:=h
  rw[jJ]at j
  show∃v,(E.gl.get g).map _=some v/\_
  cases p:E.gl.get g with|none=>rw[p]at j;cases j|some v=>rw[p]at j;exact⟨_,rfl,j⟩
 |func f=>exact⟨_,rfl,h⟩
def aEg{x:dy}{a b:Code}:aD E (.code (.cond x a b)::k) Y H aj↔∃c,BZ E Y.cD x=some (.lit (.bool c))/\(c=true->aD E (.code a::k) Y H aj)/\(c=false->aD E (.code b::k) Y H aj):=by
 refine⟨?_,λ ⟨c,O,U,F⟩=>al9 O U F⟩;rintro⟨n,ex,an,H',O,U⟩;simp only[bN]at O;cases g:dX (E.at n) (bS E n) (.cond x a b) Y H with
 |er l=>rw[g]at O;cases O
 |ok r=>
  have p:bE (E.at n) Y.cD x (λ v=>match v with|.lit (.bool c)=>aB (dX (E.at n) (bS E n) b Y H) (dX (E.at n) (bS E n) a Y H) c|_=>.er [129])=.ok r:=g
  rw[ZU]at p
  obtain⟨v,F,h⟩:=ap5 p
  split at h
  .rename_i c
   refine⟨c,F,λ e=>⟨n,ex,an,H',?_,U⟩,λ e=>⟨n,ex,an,H',?_,U⟩⟩
   .subst e;simp only[bN];have j:dX (E.at n) (bS E n) a Y H=.ok r:=h;rw[j];rw[g]at O;exact O
   .subst e;simp only[bN];have j:dX (E.at n) (bS E n) b Y H=.ok r:=h;rw[j];rw[g]at O;exact O
  .cases h
def TE{β:Type}{Y:aE}{d:Option Tmp}{v:J}{kk:aE->R β}{q:β}(h:qt Y d v kk=.ok q):∃an,kk an=.ok q/\∀{γ:Type} (j:aE->R γ),qt Y d v j=j an:=by
 unfold qt at h⊢;cases d with
 |none=>exact⟨_,h,λ _=>rfl⟩
 |some t=>
  have⟨s,n,m,r,f⟩:=Y
  dsimp only at h⊢
  cases u:Nat.blt t n with
  |false=>rw[u]at h;cases h
  |true=>
   rw[u]at h
   have g:j_ 64 s t (some v) (λ s'=>kk ⟨s',n,m,r,f⟩) (.er [121])=.ok q:=h
   rw[DA]at g
   cases p:s.set 64 t (some v)with
   |none=>rw[p]at g;cases g
   |some s'=>
    rw[p]at g
    refine⟨_,g,λ j=>?_⟩
    show j_ 64 s t (some v) (λ s'=>j ⟨s',n,m,r,f⟩) (.er [121])=_
    rw[DA,p]
def abH{β:Type}{au:aK}{rc:mP}{all:List Oper}{o:Oper}{kk:aE->D->R β}{q:β}{Y:aE}{H:D}(h:iZ au rc Y all o H kk=.ok q):∃an H',kk an H'=.ok q/\∀{γ:Type} (g:aE->D->R γ),iZ au rc Y all o H g=g an H':=by
 unfold iZ at h
 have⟨w,hw⟩:=aek h
 rw[Ai hw]at h
 have e:∀{γ:Type} (g:aE->D->R γ),iZ au rc Y all o H g=if w=true then(match bw au Y.cD o.op H with
  |.er l=>.er (Y.fn::l)
  |.ok r=>match r with
   |.val v H'=>qt Y o.dst v λ an=>g an H'
   |.call f args H'=>(match rc (.call f args) H' with
    |.ok p=>match p with|(v,jS)=>qt Y o.dst v λ an=>g an jS
    |.er l=>.er (Y.fn::l))
   |.round l args H'=>(match rc (.round l args) H' with
    |.ok p=>match p with|(v,jS)=>qt Y o.dst v λ an=>g an jS
    |.er l=>.er (Y.fn::l)))else qt Y o.dst pD λ an=>g an H:=by
  intro γ g
  unfold iZ
  rw[Ai hw]
  rfl
 cases w with
 |false=>
  rw[ao ζ]at h
  have⟨an,O,U⟩:=TE h
  refine⟨an,H,O,λ g=>?_⟩
  rw[e,ao ζ];exact U _
 |true=>
  rw[aq rfl]at h
  cases hr:bw au Y.cD o.op H with
  |er l=>rw[hr]at h;cases h
  |ok r=>
   rw[hr]at h
   cases r with
   |val v H'=>
    have⟨an,O,U⟩:=TE h
    refine⟨an,H',O,λ g=>?_⟩
    rw[e,aq rfl,hr];exact U _
   |call f args H'=>
    dsimp only at h
    cases j:rc (.call f args) H' with
    |er l=>rw[j]at h;cases h
    |ok p=>
     rw[j]at h
     have⟨v,jS⟩:=p
     have⟨an,O,U⟩:=TE h
     refine⟨an,jS,O,λ g=>?_⟩
     rw[e,aq rfl,hr];dsimp only;rw[j];exact U _
   |round f args H'=>
    dsimp only at h
    cases j:rc (.round f args) H' with
    |er l=>rw[j]at h;cases h
    |ok p=>
     rw[j]at h
     have⟨v,jS⟩:=p
     have⟨an,O,U⟩:=TE h
     refine⟨an,jS,O,λ g=>?_⟩
     rw[e,aq rfl,hr];dsimp only;rw[j];exact U _
theorem WM{β:Type}{au:aK}{rc:mP}{all:List Oper}:∀{l:List Oper} {kk:aE->D->R β} {q:β} {Y:aE} {H:D},nO au rc all l kk Y H=.ok q->∃an H',kk an H'=.ok q/\∀{γ:Type} (g:aE->D->R γ),nO au rc all l g Y H=g an H'
 |[],kk,q,Y,H,h=>⟨Y,H,h,λ _=>rfl⟩
 |o::l,kk,q,Y,H,h=>by
  have u:iZ au rc Y all o H (λ an H'=>nO au rc all l kk an H')=.ok q:=h
  have⟨A,H1,O,U⟩:=abH u
  have⟨j,z,F,p⟩:=WM O
  refine⟨j,z,F,λ g=>?_⟩
  show iZ au rc Y all o H (λ an H'=>nO au rc all l g an H')=_
  rw[U,p]
theorem Yg{β:Type}{au:aK}{all:List Oper}{Y:aE}{H:D}:∀{l:AT} {kk:Unit->R β} {q:β},rG au Y all l H kk=.ok q->kk ()=.ok q/\∀{γ:Type} (j:Unit->R γ),rG au Y all l H j=j ()
 |[],kk,q,h=>⟨h,λ _=>rfl⟩
 |i::l,kk,q,h=>by
  have g:xq au Y all i H (λ _=>rG au Y all l H kk)=.ok q:=h
  have key:rG au Y all l H kk=.ok q/\∀{γ:Type} (j:Unit->R γ),xq au Y all i H j=j ():=by
   unfold xq at g⊢;rw[uA]at g;cases p:all[i]? with
   |none=>rw[p]at g;cases g
   |some o=>
    rw[p]at g
    dsimp only at g
    have⟨w,hw⟩:=aek g
    rw[Ai hw]at g
    cases w with
    |false=>
     rw[ao ζ]at g
     refine⟨g,λ j=>?_⟩
     rw[uA,p];dsimp only;rw[Ai hw,ao ζ]
    |true=>
     rw[aq rfl]at g
     cases hr:bw au Y.cD o.op H with
     |er l=>rw[hr]at g;cases g
     |ok r=>
      rw[hr]at g
      cases r with
      |call f args H'=>cases g|round f args H'=>cases g
      |val v H'=>
       dsimp only at g
       cases hd:o.dst with
       |none=>
        rw[hd]at g
        refine⟨g,λ j=>?_⟩
        rw[uA,p];dsimp only;rw[Ai hw,aq rfl,hr];dsimp only;rw[hd]
       |some t=>
        rw[hd]at g
        dsimp only at g
        rw[jJ]at g
        cases z:Y.cD.get t with
        |none=>rw[z]at g;cases g
        |some u=>
         rw[z]at g
         dsimp only at g
         cases A:fy u v with
         |false=>rw[A]at g;cases g
         |true=>
          rw[A]at g
          refine⟨g,λ j=>?_⟩
          rw[uA,p];dsimp only;rw[Ai hw,aq rfl,hr];dsimp only;rw[hd];dsimp only;rw[jJ,z];dsimp only;rw[A];rfl
  have⟨O,U⟩:=key
  have⟨F,B⟩:=Yg O
  refine⟨F,λ j=>?_⟩
  show xq au Y all i H (λ _=>rG au Y all l H j)=_
  rw[U,B]
theorem WV{β:Type}{au:aK}{rc:mP}{all:List Oper}:∀{l:List di} {kk:aE->D->R β} {q:β} {Y:aE} {H:D},m8 au rc all l kk Y H=.ok q->∃an H',kk an H'=.ok q/\∀{γ:Type} (p:aE->D->R γ),m8 au rc all l p Y H=p an H'
 |[],kk,q,Y,H,h=>⟨Y,H,h,λ _=>rfl⟩
 |.op i::l,kk,q,Y,H,h=>by
  have g:mE all i (λ o=>iZ au rc Y all o H (λ an H'=>m8 au rc all l kk an H')) (.er [127])=.ok q:=h
  rw[uA]at g
  cases j:all[i]? with
  |none=>rw[j]at g;cases g
  |some o=>
   rw[j]at g
   have⟨G,H1,O,U⟩:=abH g
   have⟨u,A,F,z⟩:=WV O
   refine⟨u,A,F,λ p=>?_⟩
   show mE all i (λ o=>iZ au rc Y all o H (λ an H'=>m8 au rc all l p an H')) (.er [127])=_
   rw[uA,j];dsimp only;rw[U,z]
 |.wr i re::l,kk,q,Y,H,h=>by
  have g:mE all i (λ o=>iZ au rc Y all o H (λ an H'=>rG au an all re H' λ _=>m8 au rc all l kk an H')) (.er [128])=.ok q:=h
  rw[uA]at g
  cases j:all[i]? with
  |none=>rw[j]at g;cases g
  |some o=>
   rw[j]at g
   have⟨G,H1,O,U⟩:=abH g
   have⟨F,z⟩:=Yg O
   have⟨u,A,C,B⟩:=WV F
   refine⟨u,A,C,λ p=>?_⟩
   show mE all i (λ o=>iZ au rc Y all o H (λ an H'=>rG au an all re H' λ _=>m8 au rc all l p an H')) (.er [128])=_
   rw[uA,j];dsimp only;rw[U,z,B]
@[simp]def Xn{id:Nat}{ak:Array Oper}:aD E (.code (.region id ak false)::k) Y H aj↔aD E (.ak ak.toList ak.toList::k) Y H aj:=by
  refine⟨?_,amk⟩
  rintro⟨n,ex,an,H',O,U⟩
  simp only[bN]at O
  cases g:dX (E.at n) (bS E n) (.region id ak false) Y H with
  |er l=>rw[g]at O;cases O
  |ok r=>
   rw[g]at O
   have h:nO (E.at n) (bS E n) ak.toList ak.toList (λ an H'=>.ok (dE.normal,an,H')) Y H=.ok r:=g
   have⟨p,H1,F,j⟩:=WM h
   cases F
   exact⟨n,ex,an,H',by simp only[bN];rw[j];exact O,U⟩
def aEm{id:Nat}{ak:Array Oper}:aD E (.code (.region id ak true)::k) Y H aj↔∃pl,(E.pl.get Y.fn).bind (·.get id)=some pl/\aD E (.wT ak.toList pl::k) Y H aj:=by
 refine⟨?_,λ ⟨pl,O,U⟩=>aml O U⟩;rintro⟨n,ex,an,H',O,U⟩;simp only[bN]at O;cases j:dX (E.at n) (bS E n) (.region id ak true) Y H with
 |er l=>rw[j]at O;cases O
 |ok r=>
  rw[j]at O
  have g:cB (E.at n).pl Y.fn (λ h=>cB h id (λ pl=>m8 (E.at n) (bS E n) ak.toList pl (λ an H'=>.ok (dE.normal,an,H')) Y H) (.er [136,Y.fn,id])) (.er [137,Y.fn])=.ok r:=j
  rw[jJ]at g
  cases q:E.pl.get Y.fn with
  |none=>
   have e:(E.at n).pl.get Y.fn=none:=q
   rw[e]at g;cases g
  |some h=>
   have e:(E.at n).pl.get Y.fn=some h:=q
   rw[e]at g
   dsimp only at g
   rw[jJ]at g
   cases p:h.get id with
   |none=>rw[p]at g;cases g
   |some pl=>
    rw[p]at g
    have⟨z,H1,F,u⟩:=WV g
    cases F
    refine⟨pl,p,n,ex,an,H',?_,U⟩
    simp only[bN];rw[u];exact O
def aEi:aD E [] Y H aj↔aj .normal Y H:=ame
def aEo:aD E (.code .skip::k) Y H aj↔aD E k Y H aj:=amn
def NN{a b:Code}:aD E (.code (.seq a b)::k) Y H aj↔aD E (.code a::.code b::k) Y H aj:=HC
def aEe{id:Nat}{a:Code}:aD E (.code (.block id a)::k) Y H aj↔aD E (.code a::.bF id::k) Y H aj:=aeC
def aEd{id:Nat}:aD E (.bF id::k) Y H aj↔aD E k Y H aj:=al8
def aEn:aD E (.code .ret::k) Y H aj↔MX E k .ret Y H aj:=amm
def aEh{j:Nat}:aD E (.code (.exit j)::k) Y H aj↔MX E k (.exit j) Y H aj:=ama
def aGV{j:Nat}{c:Code}:MX E (.code c::k) (.exit j) Y H aj↔MX E k (.exit j) Y H aj:=al4
def aGU{j id:Nat}:MX E (.bF id::k) (.exit j) Y H aj↔if j=id then aD E k Y H aj else MX E k (.exit j) Y H aj:=al3
def apa{v:J}:MD E none v k Y H aj↔aD E k Y H aj:=so
def apb{t:Tmp}{v:J}{s:CX}{n:Nat}{m:AT}{r:Option Nat}{f:fD}:MD E (some t) v k ⟨s,n,m,r,f⟩ H aj↔t<n/\(s.set 64 t (some v)).isSome=true/\aD E k ⟨s.put t (some v),n,m,r,f⟩ H aj:=so
attribute [simp] aEm aEi aEo NN aEe aEd aEn aEh aGV aGU apa apb
def azE{d:Option Tmp}{op:Op}{ty:aS}{pos:String}{g:Array Edge}{all:List Oper}:yT E all ⟨d,op,ty,pos,g,none⟩ k Y H aj↔MO E (bw E Y.cD op H) d k Y aj:=by unfold yT dA;simp
def aDF{v:J}{d:Option Tmp}:MO E (val v H) d k Y aj↔MD E d v k Y H aj:=so
def aDE{f:fD}{args:AU}{d:Option Tmp}:MO E (.ok (.call f args H)) d k Y aj↔MT E (.call f args) d k Y H aj:=so
attribute [simp] azE aDF aDE
def CW{t:Task}{d:Option Tmp}{P:J->D->Prop}(h:C E t H P)(g:∀v H',P v H'->MD E d v k Y H' aj):MT E t d k Y H aj:=C.mono h g
end
def aAj{E:aK}{Y:CX}{H:D}{x}:bw E Y (.move x) H=(bE E Y x λ v=>val v H):=rfl
def azY{E:aK}{Y:CX}{H:D}{x}:bw E Y (.assign x) H=(bE E Y x λ v=>val v H):=rfl
def aAl{E:aK}{Y:CX}{H:D}{c a b}:bw E Y (.pick c a b) H=(bE E Y c λ v=>match v with|.lit (.bool b')=>aB (bE E Y b λ v=>val v H) (bE E Y a λ v=>val v H) b'|_=>.er [102]):=rfl
def azX{E:aK}{Y:CX}{H:D}{t}:bw E Y (.alloc t) H=(gD E t λ _ s _ z=>kN .e 0 z λ t'=>kM H (.cells s t' false) λ id H'=>val (.ptr id 0) H'):=rfl
def az0{E:aK}{Y:CX}{H:D}{g x}:bw E Y (.box g x) H=(bE E Y x λ v=>jV (cellsOf v) λ n=>aB (.er [103]) (kN .e 0 (cellsOf v) λ t'=>kM H (.cells n t' false) λ id H'=>val (.ptr id 0) H') (fX (cellsOf v))):=rfl
def az1{E:aK}{Y:CX}{H:D}{t parts}:bw E Y (.build t parts) H=(gD E t λ d _ _ z=>match d with
 |.struct _=>CO E Y (λ i k=>D8 E t i λ ah s _=>k ah s) parts.toList z λ l=>val (.agg l) H
 |.array n e=>gD E e λ _ s _ _=>CO E Y (λ i k=>aB (.er [104]) (k (Nat.mul i s) s) (Nat.blt i n)) parts.toList z λ l=>val (.agg l) H
 |_=>.er [105]):=rfl
def az2{E:aK}{Y:CX}{H:D}{t n parts}:bw E Y (.buildSlice t n parts) H=(tS E t λ _ _ es _ z=>aB (.er [194]) (aB (.er [106]) (Ac z es n 0 .e λ t0=>ID E Y es n parts.toList t0 λ t'=>kM H (.cells (Nat.mul n es) t' false) λ id H'=>val (.sl id 0 es n n true) H') (Nat.ble (Nat.mul n es) 16777216)) (Nat.ble n 9223372036854775807)):=rfl
def aAc{E:aK}{Y:CX}{H:D}{t a}:bw E Y (.load t a) H=(bE E Y a λ a=>zX E t a H λ v=>val v H):=rfl
def aAn{E:aK}{Y:CX}{H:D}{t a x}:bw E Y (.store t a x) H=(bE E Y a λ a=>bE E Y x λ x=>Xw E t a x H λ H'=>val pD H'):=rfl
def aAk{E:aK}{Y:CX}{H:D}{x}:bw E Y (.nilCheck x) H=(bE E Y x λ v=>match v with|.ptr _ _=>val v H|.fn (.func _) _ _=>val v H|_=>.er [107]):=rfl
def azZ{E:aK}{Y:CX}{H:D}{op t x y g}:bw E Y (.binOp op t x y g) H=(bE E Y x λ x=>bE E Y y λ y=>fh E op t x y H):=rfl
def aAo{E:aK}{Y:CX}{H:D}{op g x}:bw E Y (.unOp op g x) H=(bE E Y x λ v=>match v with|.lit x=>lY (Op.unary op x) (λ v=>lj v H) (.er [108])|_=>.er [109]):=rfl
def az4{E:aK}{Y:CX}{H:D}{src dst x}:bw E Y (.convert src dst x) H=(bE E Y x λ v=>gD E src λ _ _ _ _=>gD E dst λ d _ _ _=>match d,v with|.int k,.lit (.int _ n)=>lY (Conv.intToInt k n) (λ v=>lj v H) (.er [110])|_,_=>.er [111]):=rfl
def aAe{E:aK}{Y:CX}{H:D}{f first captured}:bw E Y (.makeFunc f first captured) H=(match f with
 |.func _=>iA (bE E Y) first.toList λ a=>iA (bE E Y) captured.toList λ b=>val (.fn f a b) H
 |_=>.er [184]):=rfl
def aAf{E:aK}{Y:CX}{H:D}{t r}:bw E Y (.makeMap t r) H=(gD E t λ d _ _ _=>match d with
 |.map kt _=>yG E Y r 0 λ _=>cB E.ky kt (λ _=>kM H (.map kt 0 []) λ id H'=>val (.map id) H') (.er [193,kt])
 |_=>.er [112]):=rfl
def aAg{E:aK}{Y:CX}{H:D}{t l c}:bw E Y (.makeSlice t l c) H=(bE E Y l λ l=>sS l λ l=>bE E Y c λ c=>sS c λ c=>Wv E t l c H):=rfl
def aAm{E:aK}{Y:CX}{H:D}{t x lo A mx}:bw E Y (.slice t x lo A mx) H=(bE E Y x λ x=>NP E t x lo A mx Y H):=rfl
def az8{E:aK}{Y:CX}{H:D}{t x f}:bw E Y (.fieldAddr t x f) H=(bE E Y x λ v=>match v with
 |.ptr id ah=>D8 E t f λ o s _=>eC (.er [113]) (λ _=>d_ (Nat.add ah o) λ o'=>val (.ptr id o') H) s
 |_=>.er [114,t,f]):=rfl
def az7{E:aK}{Y:CX}{H:D}{t x f}:bw E Y (.field t x f) H=(bE E Y x λ v=>match v with
 |.agg l=>D8 E t f λ o s ag=>Ha o s ag l λ v=>val v H
 |_=>.er [115]):=rfl
def aAa{E:aK}{Y:CX}{H:D}{t x i}:bw E Y (.indexAddr t x i) H=(bE E Y x λ x=>bE E Y i λ i=>sS i λ i=>V3 E t x i H):=rfl
def az9{E:aK}{Y:CX}{H:D}{t x i}:bw E Y (.index t x i) H=(bE E Y x λ x=>bE E Y i λ i=>sS i λ i=>V4 E t x i H):=rfl
def aAd{E:aK}{Y:CX}{H:D}{t m x ok}:bw E Y (.lookup t m x ok) H=(bE E Y m λ m=>bE E Y x λ x=>Wp E t m x ok H):=rfl
def aAi{E:aK}{Y:CX}{H:D}{t m x v}:bw E Y (.mapUpdate t m x v) H=(bE E Y m λ m=>bE E Y x λ x=>bE E Y v λ v=>N4 E t m x v H):=rfl
def aAb{E:aK}{Y:CX}{H:D}{t m x v}:bw E Y (.insert t m x v) H=(bE E Y m λ m=>bE E Y x λ x=>bE E Y v λ v=>N4 E t m x v H):=rfl
def az6{E:aK}{Y:CX}{H:D}{x i}:bw E Y (.extract x i) H=(bE E Y x λ v=>match v with|.dh l=>mE l i (λ v=>val v H) (.er [116])|_=>.er [117]):=rfl
def az3{E:aK}{Y:CX}{H:D}{c}:bw E Y (.call c) H=(match c.callee with
 |.builtin b=>iA (bE E Y) c.args.toList λ args=>rL E b c.argTypes.toList args H
 |.value f=>bE E Y f λ f=>iA (bE E Y) c.args.toList λ args=>rM f args H
 |_=>.er [118]):=rfl
attribute [simp] aAj azY aAl azX az0 az1 az2 aAc aAn aAk azZ aAo az4 aAe aAf aAg aAm az8 az7 aAa az9 aAd aAi aAb az6 az3
section
variable{E:aK}{β:Type}
def pS{a b:β}:aB a b true=b:=rfl
def Di{a b:β}:aB a b false=a:=rfl
def aqb{s:CX}{t:Tmp}{k:J->R β}:bE E s (.tmp t) k=match s.get t with|some v=>k v|none=>.er [7,t]:=by show cB s t k (.er [7,t])=_;rw[jJ];cases s.get t<;>rfl
def aqa{s:CX}{f:fD}{k:J->R β}:bE E s (.func f) k=k (.fn (.func f) [] []):=rfl
def ap9{s:CX}{v:aC}{k:J->R β}:bE E s (.const v) k=k (Bl v):=TX (x:=.const v) rfl
def ap8{s:CX}{t:Tmp}:BZ E s (.tmp t)=s.get t:=rfl
def ap6{s:CX}{v:aC}:BZ E s (.const v)=some (Bl v):=rfl
def ap7{s:CX}{f:fD}:BZ E s (.func f)=some (.fn (.func f) [] []):=rfl
def azL{k:IntKind}{n:Int}:Bl (.int k n)=.lit (.int k n):=rfl
def azK{b:Bool}:Bl (.bool b)=.lit (.bool b):=rfl
def azQ{b:aI}:Bl (.string b)=.lit (.string b):=rfl
def azO{a:Option Addr}:Bl (.pointer a)=.lit (.pointer a):=rfl
def azP{a:Option Addr}{n c:Nat}:Bl (.slice a n c)=.lit (.slice a n c):=rfl
def azM{a:Option Nat}:Bl (.map a)=.lit (.map a):=rfl
def azN:Bl .nilFunc=.lit .nilFunc:=rfl
def azJ{M:Array aC}:Bl (.agg M)=.agg (M.toList.map .lit):=rfl
def vW{t:aS}{k:TypeDesc->Nat->Nat->AU->R β}:gD E t k=match E.tt.get t with|some ⟨d,s,b,z⟩=>k d s b z|none=>.er [6,t]:=by unfold gD;rw[jJ];cases E.tt.get t<;>rfl
def qS{H:D}{id:Nat}{k:AO->R β}:ie H id k=match H.get id with|some o=>k o|none=>.er [2,id]:=azG
def Bz{H:D}{id:Nat}{o:Option AO}{k:D->R β}:me H id o k=k (H.put id o):=aGr
def JG{H:D}{o:AO}{k:Nat->D->R β}:kM H o k=k H.ab (H.add o):=ay7
def FD{t:CX}{ah:Nat}{l:AU}{k:CX->R β}:kN t ah l k=k (t.iM ah l):=alS
def JA{α:Type}{l:List α}{k:Nat->R β}:jV l k=k l.length:=ai1
def azA{α:Type}{l:List α}{n:Nat}{k:α->R β}{d:R β}:mE l n k d=match l[n]? with|some a=>k a|none=>d:=uA
def Pz{n:Nat}{k:Nat->β}:d_ n k=k n:=mr n k
def aei{v:aC}{H:D}:lj v H=val (.lit v) H:=agX v _
def map_nil{α γ:Type}{f:α->(γ->R β)->R β}{k:List γ->R β}:iA f [] k=k []:=rfl
def map_cons{α γ:Type}{f:α->(γ->R β)->R β}{a:α}{l:List α}{k:List γ->R β}:iA f (a::l) k=f a λ b=>iA f l λ l'=>k (b::l'):=rfl
def afF{α:Type}{l m:List α}{k:List α->R β}:F3 l m k=k (l++m):=by unfold F3;induction l generalizing k with|nil=>rfl|cons a l g=>rw[qA];exact g
def azl{k:IntKind}{n:Nat}{kk:Nat->R β}:sS (.lit (.int k (n:Int))) kk=kk n:=rfl
def azm{k:IntKind}{n:Nat}{kk:Nat->R β}:sS (.lit (.int k (no_index (OfNat.ofNat n)))) kk=kk (OfNat.ofNat n):=rfl
def ajl{z:β}{s:Nat->β}:eC z s 0=z:=rfl
def WD{z:β}{s:Nat->β}{n:Nat}:eC z s (n+1)=s n:=rfl
def ayT{z:β}{s:Nat->β}{n:Nat}[NeZero n]:eC z s (no_index (OfNat.ofNat n))=s (n-1):=by cases n with|zero=>exact absurd rfl (NeZero.ne 0)|succ n=>rfl
def Ns{a b:Nat}:Nat.add a b=a+b:=rfl
def Rh{a b:Nat}:Nat.mul a b=a*b:=rfl
def ayZ{a b:Nat}:Nat.sub a b=a-b:=rfl
attribute [simp] pS Di aqb aqa ap9 ap8 ap6 ap7 azL azK azQ azO azP azM azN azJ vW qS Bz JG FD JA azA Pz aei map_nil map_cons afF azl azm ajl WD ayT Ns Rh ayZ
@[simp]def aID{a b:Nat}:Nat.ble a b=decide (a<=b):=by
  rw[qH];simp[kC]
@[simp]def aIE{a b:Nat}:Nat.blt a b=decide (a<b):=by
  rw[qH];simp[tK]
def ayY{a b:Nat}:Nat.beq a b=decide (a=b):=by rw[qH];simp
def all_nil:fX []=true:=rfl
def all_cons{v:J}{l:AU}:fX (v::l)=(km v&&fX l):=by show aB false (fX l) (km v)=_;cases km v<;>rfl
def aoc{k:IntKind}{n:Int}:km (.lit (.int k n))=true:=rfl
def an9{b:Bool}:km (.lit (.bool b))=true:=rfl
def aoj{b:aI}:km (.lit (.string b))=true:=rfl
def aof{a:Option Addr}:km (.lit (.pointer a))=true:=rfl
def aog{a:Option Addr}{n c:Nat}:km (.lit (.slice a n c))=true:=rfl
def aoe{a:Option Nat}:km (.lit (.map a))=true:=rfl
def aoh{id ah:Nat}:km (.ptr id ah)=true:=rfl
def aoi{a b c d e:Nat}{x:Bool}:km (.sl a b c d e x)=true:=rfl
def aoa:km .eF=true:=rfl
def aod{id:Nat}:km (.map id)=true:=rfl
def aob{f:Fn}{a b:AU}:km (.fn f a b)=true:=rfl
def aor{v:aC}:cellsOf (.lit v)=[.lit v]:=rfl
def aoo{l:AU}:cellsOf (.agg l)=l:=rfl
def aot{id ah:Nat}:cellsOf (.ptr id ah)=[.ptr id ah]:=rfl
def aou{a b c d e:Nat}{x:Bool}:cellsOf (.sl a b c d e x)=[.sl a b c d e x]:=rfl
def aop:cellsOf .eF=[.eF]:=rfl
def aos{id:Nat}:cellsOf (.map id)=[.map id]:=rfl
def aoq{f:Fn}{a b:AU}:cellsOf (.fn f a b)=[.fn f a b]:=rfl
def aCH{α:Type}{t:Tr α}{i:Nat}:t.iM i []=t:=rfl
def aCG{α:Type}{t:Tr α}{i:Nat}{v:α}{l:List α}:t.iM i (v::l)=(t.put i (some v)).iM (i+1) l:=rfl
attribute [simp] ayY all_nil all_cons aoc an9 aoj aof aog aoe aoh aoi aoa aod aob aor aoo aot aou aop aos aoq aCH aCG
end
section
variable{E:aK}{β:Type}{rs:List ResultVar}{aj:J->D->Prop}{H:D}
def erase_nil{k:D->R β}:xQ [] H k=k H:=rfl
def erase_cons{id:Nat}{l:AT}{k:D->R β}:xQ (id::l) H k=ie H id λ o=>match o with|.deferred=>me H id none λ H'=>xQ l H' k|_=>.er [185]:=rfl
def atE{α:Type}{t:Tr α}{n:Nat}{k:α->R β}{d:R β}:cB t n k d=match t.get n with|some v=>k v|none=>d:=by rw[jJ];cases t.get n<;>rfl
attribute [simp] erase_nil erase_cons atE
def Yi{α:Type}(r:R α)(K:α->Prop):Prop:=∃a,r=.ok a/\K a
@[simp]def aI3{α:Type}{a:α}{K:α->Prop}:Yi (.ok a) K↔K a:=⟨λ ⟨_,O,U⟩=>by cases O;exact U,λ h=>⟨_,rfl,h⟩⟩
@[simp]def aHj{Y:aE}:qb E rs aj .ret Y H↔Yi (xQ Y.marks H λ g=>Dx E Y.cD g rs λ v=>.ok (v,g)) λ p=>aj p.1 p.2:=by
  unfold qb Yi;simp
@[simp]def aHi{Y:aE}:qb E rs aj .normal Y H↔Yi (xQ Y.marks H λ g=>Dx E Y.cD g rs λ v=>.ok (v,g)) λ p=>aj p.1 p.2:=by
  unfold qb Yi;simp
@[simp]def aIW{s:CX}{k:J->R β}:Dx E s H rs k=iA (λ r k=>match r with|.tmp t=>cB s t k (.er [139])|.cell a t=>cB s a (λ p=>zX E t p H k) (.er [140])) rs λ l=>match l with|[v]=>k v|l=>k (.dh l):=rfl
end
section
variable{E:aK}{t:aS}{H:D}{k:IntKind}{a b:Int}
@[simp]def aG5:fh E .lss t (.lit (.int k a)) (.lit (.int k b)) H=val (.lit (.bool (decide (a<b)))) H:=by
  simp[fh,Go.binOp,Op.intCmp,lY,pure]
@[simp]def aG4:fh E .leq t (.lit (.int k a)) (.lit (.int k b)) H=val (.lit (.bool (decide (a<=b)))) H:=by
  simp[fh,Go.binOp,Op.intCmp,lY,pure]
@[simp]def aG3:fh E .gtr t (.lit (.int k a)) (.lit (.int k b)) H=val (.lit (.bool (decide (b<a)))) H:=by
  simp[fh,Go.binOp,Op.intCmp,lY,pure]
@[simp]def aG2:fh E .geq t (.lit (.int k a)) (.lit (.int k b)) H=val (.lit (.bool (decide (b<=a)))) H:=by
  simp[fh,Go.binOp,Op.intCmp,lY,pure]
@[simp]def aG1:fh E .eql t (.lit (.int k a)) (.lit (.int k b)) H=val (.lit (.bool (decide (a=b)))) H:=by
  simp[fh,Go.binOp,Op.intCmp,lY,pure];rfl
@[simp]def aG7:fh E .neq t (.lit (.int k a)) (.lit (.int k b)) H=val (.lit (.bool (decide (a≠b)))) H:=by
  simp[fh,Go.binOp,Op.intCmp,lY,pure];rfl
@[simp]def aG0:fh E .add t (.lit (.int k a)) (.lit (.int k b)) H=val (.lit (.int k (k.wrap (a+b)))) H:=by
  simp[fh,Go.binOp,Op.intArith,lY,pure]
@[simp]def aG9:fh E .sub t (.lit (.int k a)) (.lit (.int k b)) H=val (.lit (.int k (k.wrap (a-b)))) H:=by
  simp[fh,Go.binOp,Op.intArith,lY,pure]
@[simp]def aG6:fh E .mul t (.lit (.int k a)) (.lit (.int k b)) H=val (.lit (.int k (k.wrap (a*b)))) H:=by
  simp[fh,Go.binOp,Op.intArith,lY,pure]
@[simp]def fQ{x:Int}(O:-9223372036854775808<=x)(U:x<=9223372036854775807):IntKind.wrap .i64 x=x:=by
  show(if(true&&decide (x%18446744073709551616>=9223372036854775808))=true then x%18446744073709551616-18446744073709551616 else x%18446744073709551616)=x
  by_cases Z:0<=x
  .have:x%18446744073709551616=x:=Int.emod_eq_of_lt Z ω
   rw[this,ao ξ]
  .have:x%18446744073709551616=x+18446744073709551616:=ω
   rw[this,aq ξ];omega
end
def XW{E:aK}{f:fD}{n:Nat}(c:Code):qG E f c->qG (E.at n) f c:=by
 induction c with
 |seq a b j g=>exactλ h=>⟨j h.1,g h.2⟩
 |cond x a b j g=>exactλ h=>⟨j h.1,g h.2⟩
 |block id a p=>exactλ h=>p h
 |loop a p=>exactλ h=>p h
 |rangeFunc f ps a b j g=>exactλ h=>⟨j h.1,g h.2⟩
 |region id ak d=>cases d<;>exactλ h=>h
 |_=>exactλ h=>h
def eW.at{P:e8}{E:aK}(h:eW P E)(n:Nat):eW P (E.at n):=by cases E;exact⟨h.1,h.2,h.3,h.4,h.5,λ f fn c O U=>XW c (h.6 f fn c O U)⟩
section
variable{E:aK}{β:Type}{t:aS}{H:D}{op:BinOp}
def amP{fs:Array Field}:k9 (.struct fs)=true:=rfl
def amH{n:Nat}{e:aS}:k9 (.array n e)=true:=rfl
def amK{k:IntKind}:k9 (.int k)=false:=rfl
def amI:k9 .bool=false:=rfl
def amO:k9 .string=false:=rfl
def amM{e:aS}:k9 (.pointer e)=false:=rfl
def amN{e:aS}:k9 (.slice e)=false:=rfl
def amL{e f:aS}:k9 (.map e f)=false:=rfl
def amJ{a b:Array aS}{c:Bool}:k9 (.func a b c)=false:=rfl
def ay4{b:Bool}{k:aC->R β}:lL .eql b k=k (.bool b):=rfl
def ay5{b:Bool}{k:aC->R β}:lL .neq b k=k (.bool (!b)):=by cases b<;>rfl
def anJ{a b:Option Addr}:fh E op t (.lit (.pointer a)) (.lit (.pointer b)) H=iG E op t (.lit (.pointer a)) (.lit (.pointer b)) λ v=>lj v H:=rfl
def anA{i o:Nat}{b:Option Addr}:fh E op t (.ptr i o) (.lit (.pointer b)) H=iG E op t (.ptr i o) (.lit (.pointer b)) λ v=>lj v H:=rfl
def anI{i o:Nat}{b:Option Addr}:fh E op t (.lit (.pointer b)) (.ptr i o) H=iG E op t (.lit (.pointer b)) (.ptr i o) λ v=>lj v H:=rfl
def anK{a b:Option Addr}{n c m d:Nat}:fh E op t (.lit (.slice a n c)) (.lit (.slice b m d)) H=iG E op t (.lit (.slice a n c)) (.lit (.slice b m d)) λ v=>lj v H:=rfl
def anG{i o e l c:Nat}{x:Bool}{b:Option Addr}{m d:Nat}:fh E op t (.sl i o e l c x) (.lit (.slice b m d)) H=iG E op t (.sl i o e l c x) (.lit (.slice b m d)) λ v=>lj v H:=rfl
def anC{b:Option Addr}{m d:Nat}:fh E op t .eF (.lit (.slice b m d)) H=iG E op t .eF (.lit (.slice b m d)) λ v=>lj v H:=rfl
def anH{a b:Option Nat}:fh E op t (.lit (.map a)) (.lit (.map b)) H=iG E op t (.lit (.map a)) (.lit (.map b)) λ v=>lj v H:=rfl
def anz{i:Nat}{b:Option Nat}:fh E op t (.map i) (.lit (.map b)) H=iG E op t (.map i) (.lit (.map b)) λ v=>lj v H:=rfl
def anD:fh E op t (.lit .nilFunc) (.lit .nilFunc) H=iG E op t (.lit .nilFunc) (.lit .nilFunc) λ v=>lj v H:=rfl
def anE{f:Fn}{a b:AU}:fh E op t (.fn f a b) (.lit .nilFunc) H=iG E op t (.fn f a b) (.lit .nilFunc) λ v=>lj v H:=rfl
def anB{a b:Bool}:fh E op t (.lit (.bool a)) (.lit (.bool b)) H=iG E op t (.lit (.bool a)) (.lit (.bool b)) λ v=>lj v H:=rfl
def anF{a b:AU}:fh E op t (.agg a) (.agg b) H=iG E op t (.agg a) (.agg b) λ v=>lj v H:=rfl
attribute [simp] amP amH amK amI amO amM amN amL amJ ay4 ay5 anJ anA anI anK anG anC anH anz anD anE anB anF
section
variable{k:aC->R β}
def ap2:iG E op t (.lit (.pointer none)) (.lit (.pointer none)) k=gD E t λ d _ _ _=>match d with|.pointer _=>lL op true k|_=>.er [17,t]:=by unfold iG;congr 1;funext d _ _ _;cases d<;>rfl
def apR{i o:Nat}:iG E op t (.ptr i o) (.lit (.pointer none)) k=gD E t λ d _ _ _=>match d with|.pointer _=>lL op false k|_=>.er [17,t]:=by unfold iG;congr 1;funext d _ _ _;cases d<;>rfl
def ap1{i o:Nat}:iG E op t (.lit (.pointer none)) (.ptr i o) k=gD E t λ d _ _ _=>match d with|.pointer _=>lL op false k|_=>.er [17,t]:=by unfold iG;congr 1;funext d _ _ _;cases d<;>rfl
def ap3{n c m d:Nat}:iG E op t (.lit (.slice none n c)) (.lit (.slice none m d)) k=gD E t λ d _ _ _=>match d with|.slice _=>lL op true k|_=>.er [17,t]:=by unfold iG;congr 1;funext d _ _ _;cases d<;>rfl
def apZ{i o e l c:Nat}{x:Bool}{m d:Nat}:iG E op t (.sl i o e l c x) (.lit (.slice none m d)) k=gD E t λ d _ _ _=>match d with|.slice _=>lL op false k|_=>.er [17,t]:=by unfold iG;congr 1;funext d _ _ _;cases d<;>rfl
def apV{m d:Nat}:iG E op t .eF (.lit (.slice none m d)) k=gD E t λ d _ _ _=>match d with|.slice _=>lL op false k|_=>.er [17,t]:=by unfold iG;congr 1;funext d _ _ _;cases d<;>rfl
def ap0:iG E op t (.lit (.map none)) (.lit (.map none)) k=gD E t λ d _ _ _=>match d with|.map _ _=>lL op true k|_=>.er [17,t]:=by unfold iG;congr 1;funext d _ _ _;cases d<;>rfl
def apQ{i:Nat}:iG E op t (.map i) (.lit (.map none)) k=gD E t λ d _ _ _=>match d with|.map _ _=>lL op false k|_=>.er [17,t]:=by unfold iG;congr 1;funext d _ _ _;cases d<;>rfl
def apW:iG E op t (.lit .nilFunc) (.lit .nilFunc) k=gD E t λ d _ _ _=>match d with|.func _ _ _=>lL op true k|_=>.er [17,t]:=by unfold iG;congr 1;funext d _ _ _;cases d<;>rfl
def apX{f:Fn}{a b:AU}:iG E op t (.fn f a b) (.lit .nilFunc) k=gD E t λ d _ _ _=>match d with|.func _ _ _=>lL op false k|_=>.er [17,t]:=by unfold iG;congr 1;funext d _ _ _;cases d<;>rfl
def apU{a b:Bool}:iG E op t (.lit (.bool a)) (.lit (.bool b)) k=gD E t λ d _ _ _=>match d with|.bool=>lL op (a==b) k|_=>.er [17,t]:=by unfold iG;congr 1;funext d _ _ _;cases d<;>cases a<;>cases b<;>rfl
def apY{a b:AU}:iG E op t (.agg a) (.agg b) k=gD E t λ d _ _ _=>aB (.er [17,t]) (yC E t (.agg a) λ a=>yC E t (.agg b) λ b=>lL op (c8 a b) k) (k9 d):=by unfold iG;congr 1;funext d _ _ _;cases d<;>rfl
attribute [simp] ap2 apR ap1 ap3 apZ apV ap0 apQ apW apX apU apY
end
def agp{a b:aI}:zr a.data.toList b.data.toList=decide (a=b):=by
 rw[IB,qH];simp only[zk,rK];constructor
 .intro h;cases a;cases b;simp_all
 .intro h;rw[h]
@[simp]def aG8{a b:aI}:fh E .eql t (.lit (.string a)) (.lit (.string b)) H=val (.lit (.bool (decide (a=b)))) H:=by
  show NU .eql a.data.toList b.data.toList (λ v=>lj v H)=_
  unfold NU;dsimp only;rw[agp,aei]
def anL{a b:aI}:fh E .neq t (.lit (.string a)) (.lit (.string b)) H=val (.lit (.bool (decide (a≠b)))) H:=by show NU .neq a.data.toList b.data.toList (λ v=>lj v H)=_;unfold NU;dsimp only;rw[agp,aei];by_cases h:a=b<;>simp[h]
def aGo{b:Bool}{k:aC->R β}{d:R β}:lY (Op.unary .not (.bool b)) k d=k (.bool (!b)):=rfl
def aGn{j:IntKind}{n:Int}{k:aC->R β}{d:R β}:lY (Op.unary .neg (.int j n)) k d=k (.int j (j.wrap (0-n))):=rfl
def ayp{i j:IntKind}{a b:Int}{k:aC->R β}{d:R β}:lY (Builtin.min2 (.int j a) (.int i b)) k d=k (.int j (if b<a then b else a)):=rfl
def ax9{i j:IntKind}{a b:Int}{k:aC->R β}{d:R β}:lY (Builtin.max2 (.int j a) (.int i b)) k d=k (.int j (if b>a then b else a)):=rfl
attribute [simp] anL aGo aGn ayp ax9
def JP(s:CX)(ah:Nat)(k:AU->R β):Nat->AU->R β
 |0,g=>k g|m+1,g=>cB s (ah+m) (λ v=>JP s ah k m (v::g)) (.er [4,ah,m])
def aDK{s:CX}{ah m:Nat}{k:AU->R β}:pU s ah m k=JP s ah k m []:=by unfold pU;generalize([]:AU)=h;induction m generalizing h with|zero=>rfl|succ m g=>rw[z8];simp only[JP];congr 1;funext v;exact g _
@[simp]def aIU{s:CX}{ah:Nat}{k:AU->R β}{g:AU}:JP s ah k 0 g=k g:=rfl
@[simp]def aIT{s:CX}{ah n:Nat}{k:AU->R β}{g:AU}[NeZero n]:JP s ah k (no_index (OfNat.ofNat n)) g=cB s (ah+(n-1)) (λ v=>JP s ah k (n-1) (v::g)) (.er [4,ah,n-1]):=by
  cases n with|zero=>exact absurd rfl (NeZero.ne 0)|succ n=>rfl
attribute [simp] JX pz tS cX AF O_ G2 NP V3 V4 Wv rL Wp N4 Pc mapOf Si yC D8 zX Xw Ha yG
end
def MG(w:Option Bool)(E:aK)(r:R dS)(d:Option Tmp)(k:List fg)(Y:aE)(H:D)(aj:dE->aE->D->Prop):Prop:=∃w',w=some w'/\(w'=true->MO E r d k Y aj)/\(w'=false->MD E d pD k Y H aj)
section
variable{E:aK}{r:R dS}{d:Option Tmp}{k:List fg}{Y:aE}{H:D}{aj:dE->aE->D->Prop}
def atC:MG (some true) E r d k Y H aj↔MO E r d k Y aj:=by simp[MG]
@[simp]def aHs:MG (some false) E r d k Y H aj↔MD E d pD k Y H aj:=by simp[MG]
def atB{c:Bool}:MG (some c) E r d k Y H aj↔(c=true->MO E r d k Y aj)/\(c=false->MD E d pD k Y H aj):=by simp[MG]
def azD{op:Op}{ty:aS}{pos:String}{g:Array Edge}{all:List Oper}{j:Nat}{b:Bool}:yT E all ⟨d,op,ty,pos,g,some (j,b)⟩ k Y H aj↔MG (dA Y all (some (j,b))) E (bw E Y.cD op H) d k Y H aj:=so
def aGu{all:List Oper}{j:Nat}{b:Bool}:dA Y all (some (j,b))=match all[j]? with|none=>none|some o=>match o.dst with|none=>none|some t=>match Y.cD.get t with|none=>none|some (.lit (.bool c))=>some (c==b)|some _=>some false:=rfl
def aGp:km pD=false:=rfl
attribute [simp] atC azD aGu aGp
end
def cE{E:aK}{t:Task}{d:Option Tmp}{k:List fg}{Y:aE}{H h:D}{u:J}{aj:dE->aE->D->Prop}(g:C E t H λ v H'=>H'=h/\v=u):MT E t d k Y H aj↔MD E d u k Y h aj:=by
 obtain⟨n,v,H',O,rfl,rfl⟩:=g;constructor
 .rintro⟨m,v',jS,U,F⟩;have a:=Dy (E:=E) (FQ n m) _ _ _ O;have b:=Dy (E:=E) (BQ n m) _ _ _ U;rw[a]at b;cases b;exact F
 .intro F;exact⟨n,_,_,O,F⟩
variable{H:D}{f:fD}{s:CX}
structure LR where
 fn:fD
 size:Nat
 tmps:Tr J
 ps:List Tmp
 aI4:Code
 bd:Code
 df:Nat
def LR.ob(L:LR)(st:LoopState)(c_:Option Code):AO:=.loop st c_ L.fn L.size L.tmps L.ps L.aI4 L.bd L.df
def MJ(E:aK)(c_:Option Code)(k:List fg)(Y:aE)(H:D)(aj:dE->aE->D->Prop):Prop:=match c_ with|none=>aD E k Y H aj|some .ret=>MX E k .ret Y H aj|some (.exit id)=>MX E k (.exit id) Y H aj|_=>False
def MR(E:aK)(gv:J)(l:Nat)(k:List fg)(Y:aE)(H:D)(aj:dE->aE->D->Prop):Prop:=
 ∃f args H',rM gv [.fn (.yield l) [] []] H=.ok (.call f args H')/\C E (.call f args) H' λ _ g=>
  ∃st c_ L,g.get l=some (LR.ob L st c_)/\st≠.busy/\MJ E c_ k Y (g.put l (some (LR.ob L .exhausted c_))) aj
section
variable{E:aK}{k:List fg}{Y:aE}{H:D}{aj:dE->aE->D->Prop}
def al2{c_:Option Code}{k:List fg}{Y:aE}(h:MJ E c_ k Y H aj):∃ex,M6 c_ Y H=.ok (ex,Y,H)/\MX E k ex Y H aj:=by
 unfold MJ at h;split at h
 .exact⟨.normal,rfl,h⟩
 .exact⟨.ret,rfl,h⟩
 .exact⟨_,rfl,h⟩
 .exact h.elim
def amj{g:dy}{ps:Array Tmp}{aI4 bd:Code}{gv:J}{l:Nat}{an:aE}{H1:D}(A:BZ E Y.cD g=some gv)(p:∀(kk:Nat->aE->D->St),Gf Y ps.toList aI4 bd H kk=kk l an H1)(h:MR E gv l k an H1 aj):aD E (.code (.rangeFunc g ps aI4 bd)::k) Y H aj:=by
 have⟨f,args,H',B,n,v,G,C,st,c_,L,u,F,z⟩:=h
 have⟨ex,Z,n',q,j,I,O,U⟩:=al2 z
 refine⟨max n n',q,j,I,?_,U⟩
 have hr:=Dy (E:=E) (FQ n n') _ _ _ C
 have Q:=zV (oX (E:=E) (BQ n n') (Dy (BQ n n')) k _ _ _) O
 simp only[bN]
 have e:dX (E.at (max n n')) (bS E (max n n')) (.rangeFunc g ps aI4 bd) Y H=.ok (ex,an,G.put l (some (LR.ob L .exhausted c_))):=by show Fq (E.at (max n n')) (bS E (max n n')) g ps.toList aI4 bd Y H=_;unfold Fq;rw[ZU,TX A,p,B];dsimp only;rw[hr];dsimp only;rw[qS,u];unfold LR.ob;dsimp only;cases st with|busy=>exact absurd rfl F|_=>dsimp only;rw[Bz];exact Z
 rw[e]
 exact Q
def apx{n:Nat}{m:AT}{ps:List Tmp}{aI4 bd:Code}(kk:Nat->aE->D->St):Gf ⟨s,n,m,none,f⟩ ps aI4 bd H kk=kk (H.ab+1) ⟨s,n,H.ab::m,none,f⟩ ((H.add .deferred).add (LR.ob ⟨f,n,s,ps,aI4,bd,H.ab⟩ .ready none)):=by
 show kM H .deferred (λ d H1=>kM H1 (.loop .ready none f n s ps aI4 bd d) λ l g=>kk l ⟨s,n,d::m,none,f⟩ g)=_
 rw[JG,JG];rfl
def HA{g:dy}{ps:Array Tmp}{aI4 bd:Code}{gv:J}{n:Nat}{m:AT}(j:BZ E s g=some gv)(h:MR E gv (H.ab+1) k ⟨s,n,H.ab::m,none,f⟩ ((H.add .deferred).add (LR.ob ⟨f,n,s,ps.toList,aI4,bd,H.ab⟩ .ready none)) aj):aD E (.code (.rangeFunc g ps aI4 bd)::k) ⟨s,n,m,none,f⟩ H aj:=amj j (λ kk=>apx kk) h
def XY(l:Nat)(aj:J->D->Prop)(ex:dE)(H:D):Prop:=∃st c_ L,H.get l=some (LR.ob L st c_)/\match ex with|.normal=>aj (.lit (.bool true)) (H.put l (some (LR.ob L .ready none)))|.ret=>aj (.lit (.bool false)) (H.put l (some (LR.ob L .done (some .ret))))|.exit id=>aj (.lit (.bool false)) (H.put l (some (LR.ob L .done (some (.exit id)))))
def Fo(ps:List Tmp)(args:AU)(s:CX):CX:=match ps,args with|p::ps,a::args=>Fo ps args (s.put p (some a))|_,_=>s
theorem akr{β:Type}{n:Nat}{kk:CX->R β}:∀{ps:List Tmp} {args:AU} {s:CX},ps.length=args.length->(∀p∈ps,p<n/\p+1<18446744073709551616)->Fu n ps args s kk=kk (Fo ps args s)
 |[],[],s,_,_=>rfl|[],_::_,s,h,_=>by simp at h
 |_::_,[],s,h,_=>by simp at h
 |p::ps,a::args,s,h,g=>by
  have O:=g p ζ
  have U:Nat.blt p n=true:=by simpa using O.1
  show aB (.er [163]) (j_ 64 s p (some a) (λ s'=>Fu n ps args s' kk) (.er [164])) (Nat.blt p n)=_
  rw[U]
  show j_ 64 s p (some a) (λ s'=>Fu n ps args s' kk) (.er [164])=_
  rw[aEs (by have:=O.2;omega)]
  exact akr (by simpa using h) λ q j=>g q (by simp[j])
def alY{l:Nat}{args:AU}{L:LR}{c_:Option Code}{aj:J->D->Prop}(Z:H.get l=some (LR.ob L .ready c_))(bA:L.ps.length=args.length)(I:∀p∈L.ps,p<L.size/\p+1<18446744073709551616)(h:aD E [.code L.aI4] ⟨Fo L.ps args L.tmps,L.size,[],some l,L.fn⟩ H λ ex Y H1=>ex=.normal/\∃u q,H1.get l=some (LR.ob q .ready u)/\aD E [.code L.bd] Y (H1.put l (some (LR.ob q .busy u))) λ ex _ j=>XY l aj ex j):C E (.round l args) H aj:=by
 obtain⟨n,ex,Y,H1,O,rfl,u,q,cT,n2,z,K,j,U,Q,aAA,F,fF,B⟩:=h
 let N:=max n n2
 have X:n<=N:=FQ _ _
 have W:n2<=N:=BQ _ _
 have a1:dX (E.at (N+1)) (mw (E.at (N+1)) N) L.aI4 ⟨Fo L.ps args L.tmps,L.size,[],some l,L.fn⟩ H=.ok (.normal,Y,H1):=by
  simp only[bN]at O;cases g:dX (E.at n) (bS E n) L.aI4 ⟨Fo L.ps args L.tmps,L.size,[],some l,L.fn⟩ H with
  |er l=>rw[g]at O;cases O
  |ok r=>
   have⟨V,T,rc⟩:=r
   rw[g]at O;cases O
   exact Gc (E:=E) (n:=n) (m:=N+1) ω (PQ ω n N X) L.aI4 _ _ _ g
 have a2:dX (E.at (N+1)) (mw (E.at (N+1)) N) L.bd Y (H1.put l (some (LR.ob q .busy u)))=.ok (z,K,j):=by
  simp only[bN]at U;cases g:dX (E.at n2) (bS E n2) L.bd Y (H1.put l (some (LR.ob q .busy u)))with
  |er l=>rw[g]at U;cases U
  |ok r=>
   have⟨V,T,rc⟩:=r
   rw[g]at U;cases U
   exact Gc (E:=E) (n:=n2) (m:=N+1) ω (PQ ω n2 N W) L.bd _ _ _ g
 have e:∀v H',(match z with|.normal=>v=J.lit (.bool true)/\H'=(j.put l (some (LR.ob F .ready none)))|.ret=>v=J.lit (.bool false)/\H'=(j.put l (some (LR.ob F .done (some .ret))))|.exit id=>v=J.lit (.bool false)/\H'=(j.put l (some (LR.ob F .done (some (.exit id))))))->bS E (N+1) (.round l args) H=.ok (v,H'):=by
  intro v H' A
  show Ft (E.at (N+1)) (mw (E.at (N+1)) N) l args H=_
  unfold Ft
  rw[qS,Z]
  unfold LR.ob
  dsimp only
  rw[akr bA I,a1]
  dsimp only
  rw[qS,cT]
  unfold LR.ob
  dsimp only
  rw[Bz]
  have G:=a2
  unfold LR.ob at G
  rw[G]
  dsimp only
  rw[qS,fF]
  unfold LR.ob
  dsimp only
  cases z with
  |normal=>obtain⟨rfl,rfl⟩:=A;dsimp only;rw[Bz];rfl
  |ret=>obtain⟨rfl,rfl⟩:=A;dsimp only;rw[Bz];rfl
  |exit id=>obtain⟨rfl,rfl⟩:=A;dsimp only;rw[Bz];rfl
 cases z with|normal=>exact⟨N+1,_,_,e _ _ ⟨rfl,rfl⟩,B⟩|ret=>exact⟨N+1,_,_,e _ _ ⟨rfl,rfl⟩,B⟩|exit id=>exact⟨N+1,_,_,e _ _ ⟨rfl,rfl⟩,B⟩
end
def bu{E:aK}{a:Code}{k:List fg}{n:Nat}{m:AT}{r:Option Nat}{f:fD}{aj:dE->aE->D->Prop}{α:Type}(aJ:α->CX->D->Prop)(mu:α->Nat)(step:∀(b:Code) (kk:List fg),b=a->kk=k->∀x s H,aJ x s H->(∀y s' H',mu y<mu x->aJ y s' H'->aD E (.code (.loop b)::kk) ⟨s',n,m,r,f⟩ H' aj)->aD E (.code a::.code (.loop b)::kk) ⟨s,n,m,r,f⟩ H aj):∀x s H,aJ x s H->aD E (.code (.loop a)::k) ⟨s,n,m,r,f⟩ H aj:=by
 intro x
 generalize p:mu x=N
 induction N using Nat.strongRecOn generalizing x with
 |ind N g=>
  intro s H h
  refine aeE ?_
  exact step a k rfl rfl x s H h λ y s' H' G j=>g (mu y) ω y rfl s' H' j
structure I(S:List Nat)(H H':D):Prop where
 ab:H.ab<=H'.ab
 get:∀i,i<H.ab->i∉S->H'.get i=H.get i
namespace I
variable{S:AT}{H H' jS:D}
def refl(S:AT)(H:D):I S H H:=⟨aF,λ _ _ _=>rfl⟩
theorem trans(h:I S H H')(U:I S H' jS):I S H jS:=⟨aY h.ab U.ab,λ i A g=>(U.get i (aT A h.ab) g).trans (h.get i A g)⟩
def add(h:I S H H')(o:AO):I S H (H'.add o):=⟨afp h.ab,λ i A g=>by have:=h.ab;rw[D.jK,ao ω];exact h.get i A g⟩
def put(h:I S H H'){id:Nat}{o:Option AO}(A:H.ab<=id\/id∈S):I S H (H'.put id o):=⟨h.ab,λ i j g=>by rw[D.eR,ao (by rintro rfl;rcases A with A|A;omega;exact g A)];exact h.get i j g⟩
def mono{g:AT}(h:I S H H')(j:∀x∈S,x∈g):I g H H':=⟨h.ab,λ i A p=>h.get i A λ Z=>p (j _ Z)⟩
end I
def aw{S:AT}{H:D}:I S H H:=I.refl S H
structure Lv(H:D)(id:Nat)(o:AO):Prop where
 lt:id<H.ab
 get:H.get id=some o
def Lv.W{S:AT}{H H':D}{id:Nat}{o:AO}(h:Lv H id o)(g:I S H H')(j:id∉S):Lv H' id o:=⟨aT h.lt g.ab,(g.get id h.lt j).trans h.get⟩
def Lv.ai{H H':D}{id:Nat}{o:AO}(h:Lv H id o)(g:I [] H H'):Lv H' id o:=h.W g ζ
inductive aW(H:D)(es:Nat){α:Type}(R:α->List J->Prop):J->List α->Prop
 |nil:aW H es R (.lit (.slice none 0 0)) []|eF:aW H es R .eF []|sl {id ah ax:Nat} {ex:Bool} {n:Nat} {t:Tr J} {ro:Bool} {L:List α}:Lv H id (.cells n t ro)->ah+L.length*es<=n->(∀i (h:i<L.length),∃M,bc t (ah+i*es) es=some M/\R L[i] M)->L.length<=ax->ax<=maxLen->aW H es R (.sl id ah es L.length ax ex) L
namespace aW
variable{H H':D}{es:Nat}{α:Type}{R R':α->AU->Prop}{v:J}{L:List α}
def W(h:aW H es R v L)(g:I [] H H')(j:∀a M,a∈L->R a M->R' a M):aW H' es R' v L:=by cases h with|nil=>exact .nil|eF=>exact .eF|sl O U F q p=>exact .sl (O.ai g) U (λ i h=>let⟨M,a,b⟩:=F i h;⟨M,a,j _ _ (cG h) b⟩) q p
def cP(h:aW H es R v L):L.length<=maxLen:=by cases h with|nil=>exact dQ _|eF=>exact dQ _|sl _ _ _ j g=>exact aY j g
theorem aN{E:aK}{t e:aS}{a b:Nat}{z:AU}(h:aW H es R v L)(g:E.tt.get t=some ⟨.slice e,a,b,z⟩)(K:D):Go.Proofs.YtgipmaoplfkdoaaGreatDoor.aN E t v K=val (.lit (.int .i64 L.length)) K:=by unfold Go.Proofs.YtgipmaoplfkdoaaGreatDoor.aN;rw[vW,g];cases h with|nil=>rfl|eF=>rfl|sl=>rfl
def at_(h:aW H es R v L){i:Nat}(A:i<L.length):∃id ah ax ex n t ro M,v=.sl id ah es L.length ax ex/\Lv H id (.cells n t ro)/\ah+i*es+es<=n/\bc t (ah+i*es) es=some M/\R L[i] M:=by
 cases h with
 |nil=>simp at A|eF=>simp at A
 |sl O U F q p=>
  have⟨M,j,g⟩:=F i A
  refine⟨_,_,_,_,_,_,_,M,rfl,O,?_,j,g⟩
  have:i*es+es<=L.length*es:=by have:=nW es (dz A);rw[ve]at this;exact this
  omega
end aW
def One{α:Type}(f:α->J):α->AU->Prop:=λ a M=>M=[f a]
abbrev str(s:aI):J:=.lit (.string s)
abbrev ae(n:Int):J:=.lit (.int .i64 n)
variable{E:aK}{es:Nat}{ρ:bh}{α:Type}{t:aS}{w:bI}
def HR.Wa{w0:bI}{b n:Nat}{c:Array aC}{elem:aS}{K:Nat×Nat}{t:CX}(h:HR E w0 ρ H w)(Ei:b<w0.heap.size)(J:w.heap[b]?=some (.cells c elem K))(I:n<=c.size)(V:∀(i:Nat) av,i<n->t.get i=some av->∃v,c[i]?=some v/\Rl ρ av v):HR E w0 (ρ.add H.ab (b,0,c.size)) (H.add (.cells n t true)) w/\cV ρ H (ρ.add H.ab (b,0,c.size)) (H.add (.cells n t true))/\(ρ.add H.ab (b,0,c.size)) H.ab=some (b,0,c.size):=by
 have X:=h.fresh
 have Z:=bh.sk (p:=(b,0,c.size)) X
 have M:∀j p,(ρ.add H.ab (b,0,c.size)) j=some p->(j=H.ab/\p=(b,0,c.size))\/(j≠H.ab/\ρ j=some p):=by
  intro j p q;unfold bh.add at q;split at q
  .rename_i e;cases q;exact .inl ⟨e,rfl⟩
  .rename_i e;exact .inr ⟨e,q⟩
 have F:∀j,(H.add (.cells n t true)).t.get j=if j=H.ab then some (.cells n t true)else H.t.get j:=λ j=>D.jK H _ j
 refine⟨⟨?_,?_,?_,?_,?_,?_,h.ia,?_⟩,⟨Z,?_,?_⟩,by unfold bh.add;rw[aq rfl]⟩
 .intro j p q
  rcases M j p q with⟨rfl,_⟩|⟨_,q⟩
  .exact sx _
  .exact KM (h.lt j p q)
 .intro j b' s N o q u
  rw[F]at u;rcases M j _ q with⟨rfl,e⟩|⟨z,q⟩
  .cases e;rw[aq rfl]at u;cases u;refine⟨c,elem,K,J,rfl,ω,λ e=>(by cases e),λ i av A eM=>?_,λ _=>rfl⟩;obtain⟨v,O,U⟩:=V i av A eM;exact⟨v,by rw[mQ];exact O,U.mono Z⟩
  .rw[ao z]at u;exact(h.obj j b' s N o q u).mono Z
 .intro i j b' s N s' N' o o' A z u C B
  rw[F]at u C;rcases M j _ z with⟨rfl,_⟩|⟨Ex,G⟩
  .rw[aq rfl]at C;cases C;cases B
  .rw[ao Ex]at C;rcases M i _ A with⟨rfl,e⟩|⟨Mf,T⟩
   .cases e;exact absurd (h.own j b s' N' o' G C B) ω
   .rw[ao Mf]at u;exact h.inj i j b' s N s' N' o o' T G u C B
 .intro j b' s N o q u B
  rw[F]at u;rcases M j _ q with⟨rfl,_⟩|⟨z,q⟩
  .rw[aq rfl]at u;cases u;cases B
  .rw[ao z]at u;exact h.own j b' s N o q u B
 .intro j b' s N q
  rcases M j _ q with⟨rfl,e⟩|⟨z,q⟩
  .cases e;exact DZ J
  .exact h.bF j b' s N q
 .intro g id W
  obtain⟨N,hN⟩:=h.vo g id W;exact⟨N,Z _ _ hN⟩
 .intro id Q
  rw[F,ao (by have:H.ab+1<=id:=Q;omega)];exact h.Y id (by have:H.ab+1<=id:=Q;omega)
 .intro j z I
  exact⟨by unfold bh.add;rw[ao (bC z)];exact I,by rw[F,ao (bC z)]⟩
 .exact H7 _
def I.Wa{o:AO}:I [] H (H.add o):=(I.refl [] H).add o
section
variable{E:aK}{P:e8}{w:bI}{ay:Type}{enc:aS×aC->ay}
def EL(E:aK)(P:e8)(w:bI)(enc:aS×aC->ay)(t:aS){α:Type}(R:D->α->AU->Prop):Prop:=∀fuel M x,DataW.trod enc P w 0 (λ _=>true) true fuel t M=some x->∀ρ H,HR E w ρ H w->∃bM H' a l,HR E w bM H' w/\cV ρ H bM H'/\I [] H H'/\cA bM l M/\R H' a l
def Up{α:Type}(R:D->α->AU->Prop):Prop:=∀H H' a l,I [] H H'->R H a l->R H' a l
def aeH(k:IntKind):D->Int->AU->Prop:=λ _ n l=>l=[.lit (.int k n)]/\(Lit.int k n).wf=true
def X0:D->aI->AU->Prop:=λ _ s l=>l=[.lit (.string s)]/\s.size<=maxLen
def XZ{α:Type}(es:Nat)(R:D->α->AU->Prop):D->List α->AU->Prop:=λ H L l=>∃v,l=[v]/\aW H es (R H) v L
def alA{k:IntKind}:Up (aeH k):=λ _ _ _ _ _ h=>h
def DJ:Up X0:=λ _ _ _ _ _ h=>h
def N3{R:D->α->AU->Prop}(j:Up R):Up (XZ es R):=λ _ _ _ _ g ⟨v,O,U⟩=>⟨v,O,U.W g λ a M _ h=>j _ _ _ _ g h⟩
def agh{k:IntKind}(g:P.underlying t=some (.int k)):EL E P w enc t (aeH k):=by intro fuel M x h ρ H hr;obtain⟨n,rfl,_,hw⟩:=DataW.trod_int g h;exact⟨ρ,H,n,_,hr,cV.refl _ _,aw,.cons (.lit _) .nil,rfl,hw⟩
def Iy(g:P.underlying t=some .string):EL E P w enc t X0:=by intro fuel M x h ρ H hr;obtain⟨s,rfl,_,hw⟩:=DataW.trod_string g h;exact⟨ρ,H,s,_,hr,cV.refl _ _,aw,.cons (.lit _) .nil,rfl,hw⟩
def ams:D->Unit->AU->Prop:=λ _ _ l=>l=[]
def amr{α β:Type}(R:D->α->AU->Prop)(S:D->β->AU->Prop):D->α×β->AU->Prop:=λ H p l=>∃l1 l2,l=l1++l2/\R H p.1 l1/\S H p.2 l2
def Xg(P:e8):Nat->List Field->Bool
 |_,[]=>true|o,f::fs=>f.offset==o&&Xg P (o+P.cellsOf f.type) fs
def RJ(P:e8):List Field->Nat
 |[]=>0|f::fs=>P.cellsOf f.type+RJ P fs
def af0{a:Addr}{v:aC}(h:w.cell? a=some v):∃c elem g,w.heap[a.block]?=some (.cells c elem g)/\a.spot=none/\c[a.off]?=some v:=by
 have j:=World.cell?_spot h;unfold World.cell? at h;split at h
 .rename_i c elem g p;rw[j]at h;exact⟨c,elem,g,p,j,h⟩
 .cases h
theorem Z0{α:Type}{es:Nat}:∀{ls:List (List α)} {i j:Nat} (_:∀l∈ls,l.length=es) (A:i<ls.length) (_:j<es),ls.flatten[i*es+j]?=ls[i][j]?
 |[],i,j,_,A,_=>by simp at A
 |l::ls,0,j,h,_,p=>by
  have g:=h l ζ
  simp only[YE,OG,mQ,afd]
  rw[jI ω]
 |l::ls,i+1,j,h,A,p=>by
  have g:=h l ζ
  simp only[YE,afc]
  have e:(i+1)*es+j=l.length+(i*es+j):=by rw[ve,g];omega
  rw[e,mi ω,YL]
  exact Z0 (λ l' q=>h l' (by simp[q])) (by simpa using A) p
theorem agR{α:Type}{es:Nat}:∀{ls:List (List α)} (_:∀l∈ls,l.length=es),ls.flatten.length=ls.length*es
 |[],_=>ζ
 |l::ls,h=>by
  simp only[YE,iP,qi,ve]
  rw[agR λ l' g=>h l' (by simp[g]),h l ζ];omega
end
variable{v:J}{ks:KS}{l:List AE}{β:Type}{key x:aC}
section
open Go.RowKit Classical
def lk(key:aC):List AE->Option (Nat×J)
 |[]=>none|⟨x,b,v⟩::l=>if c8 x key=true then some (b,v)else lk key l
def cH(key:aC)(l:List AE):Option J:=(lk key l).map (·.2)
def oC(c:Nat)(key:aC)(l:List AE):Nat:=if(lk key l).isSome then c else c+1
def eD(c:Nat)(key:aC)(v:J):List AE->List AE
 |[]=>[⟨key,c,v⟩]|⟨x,b,u⟩::l=>if c8 x key=true then⟨key,b,v⟩::l else⟨x,b,u⟩::eD c key v l
def nA(key:aC):List AE->List AE
 |[]=>[]|⟨x,b,u⟩::l=>if c8 x key=true then l else⟨x,b,u⟩::nA key l
def bQ(l:List AE):List aC:=l.map (·.k)
def zW{b:Nat}:lk key (⟨x,b,v⟩::l)=if c8 x key=true then some (b,v)else lk key l:=rfl
def NC{c b:Nat}{u:J}:eD c key v (⟨x,b,u⟩::l)=if c8 x key=true then⟨key,b,v⟩::l else⟨x,b,u⟩::eD c key v l:=rfl
def Lh{b:Nat}{u:J}:nA key (⟨x,b,u⟩::l)=if c8 x key=true then l else⟨x,b,u⟩::nA key l:=rfl
section
variable{β:Type}
theorem ai9{key:aC}:∀{l:List AE} {k:Nat->J->R β} {d:Unit->R β},Nm key l k d=match lk key l with|some p=>k p.1 p.2|none=>d ()
 |[],k,d=>rfl
 |⟨x,b,v⟩::l,k,d=>by
  show aB (Nm key l k d) (k b v) (c8 x key)=_
  rw[ai9 (l:=l)]
  rw[zW]
  cases c8 x key<;>simp
theorem ajX{c:Nat}{key:aC}{v:J}:∀{l:List AE} {k:Nat->List AE->R β},ND c key v l k=k (oC c key l) (eD c key v l)
 |[],k=>by
  show d_ (Nat.succ c) (λ c'=>k c' [⟨key,c,v⟩])=_
  rw[mr];simp[oC,lk,eD]
 |⟨x,b,u⟩::l,k=>by
  show aB (ND c key v l λ c' r=>k c' (⟨x,b,u⟩::r)) (k c (⟨key,b,v⟩::l)) (c8 x key)=_
  rw[ajX (l:=l)]
  unfold oC
  rw[zW,NC]
  cases c8 x key<;>simp
theorem agb{key:aC}:∀{l:List AE} {k:List AE->R β},Pd key l k=k (nA key l)
 |[],k=>rfl
 |⟨x,b,u⟩::l,k=>by
  show aB (Pd key l λ r=>k (⟨x,b,u⟩::r)) (k l) (c8 x key)=_
  rw[agb (l:=l)]
  rw[Lh]
  cases c8 x key<;>simp
end
section
variable{ks:KS}{key um:aC}{c:Nat}{v:J}
def pI(h:KP ks key):c8 x key=true↔x=key:=⟨Gg,λ e=>by rw[e];exact Pn h⟩
def Ni:cH key []=none:=rfl
theorem Bb(h:KP ks key)(j:KP ks um):∀(l:List AE),cH um (eD c key v l)=if um=key then some v else cH um l
 |[]=>by
  simp only[eD,cH,lk]
  by_cases e:key=um
  .subst e;simp[(pI h).2 rfl]
  .have:c8 key um≠true:=λ q=>e ((pI j).1 q)
   simp[this,qj e]
 |⟨x,b,u⟩::l=>by
  have p:=Bb h j l
  rw[NC]
  by_cases e:c8 x key=true
  .have Z:=(pI h).1 e
   subst Z;rw[aq e];by_cases g:x=um
   .subst g;simp[cH,zW,(pI h).2 rfl]
   .have:c8 x um≠true:=λ q=>g ((pI j).1 q);simp[cH,zW,this,qj g]
  .rw[ao e]
   by_cases g:c8 x um=true
   .have Z:=(pI j).1 g;subst Z;have:¬x=key:=λ q=>e ((pI h).2 q);simp[cH,zW,g,this]
   .simp only[cH,zW,ao g]at p⊢;exact p
theorem Q8(h:KP ks key):∀(l:List AE),(cH key l).isSome=true↔key∈bQ l
 |[]=>by simp[cH,lk,bQ]
 |⟨x,b,u⟩::l=>by
  have g:=Q8 h l
  unfold cH bQ at*
  rw[zW]
  by_cases e:c8 x key=true
  .have:=(pI h).1 e;subst this;simp[e]
  .have:¬key=x:=λ q=>e ((pI h).2 q.symm)
   simp only[ao e,kB,cZ,this,false_or];exact g
theorem Jv(h:KP ks key):∀(l:List AE),bQ (eD c key v l)=if(lk key l).isSome=true then bQ l else bQ l++[key]
 |[]=>by simp[eD,lk,bQ]
 |⟨x,b,u⟩::l=>by
  have g:=Jv h l
  unfold bQ at*
  rw[NC,zW]
  by_cases e:c8 x key=true
  .have:=(pI h).1 e;subst this;simp[e]
  .simp only[ao e,kB]
   rw[g];split<;>simp
theorem aiU(h:KP ks key):∀(l:List AE),bQ (nA key l)=(bQ l).erase key
 |[]=>by simp[nA,bQ]
 |⟨x,b,u⟩::l=>by
  have g:=aiU h l
  unfold bQ at*
  rw[Lh]
  by_cases e:c8 x key=true
  .have:=(pI h).1 e;subst this;simp[e]
  .have:¬x=key:=λ q=>e ((pI h).2 q)
   simp only[ao e,kB];rw[g,List.erase_cons_tail (by simpa using this)]
theorem abn(h:KP ks key)(p:KP ks um):∀(l:List AE),(bQ l).Nodup->cH um (nA key l)=if um=key then none else cH um l
 |[],_=>by simp[nA,cH,lk]
 |⟨x,b,u⟩::l,j=>by
  unfold bQ at j
  simp only[kB,OA]at j
  have z:=abn h p l j.2
  rw[Lh]
  by_cases e:c8 x key=true
  .have Z:=(pI h).1 e
   subst Z;rw[aq e];by_cases g:x=um
   .subst g;rw[aq rfl];cases A:cH x l with
    |none=>rfl
    |some w=>
     have:=(Q8 h l).1 (by rw[A];rfl)
     exact absurd this j.1
   .have:c8 x um≠true:=λ q=>g ((pI p).1 q);simp[cH,zW,this,qj g]
  .rw[ao e]
   by_cases g:c8 x um=true
   .have Z:=(pI p).1 g;subst Z;have:¬x=key:=λ q=>e ((pI h).2 q);simp[cH,zW,g,this]
   .simp only[cH,zW,ao g]at z⊢;exact z
end
structure FG(H:D)(id:Nat)(kt:TypeId)(ks:KS)(l:List AE):Prop where
 ob:∃c,Lv H id (.map kt c l)
 kp:∀x∈bQ l,KP ks x
 nd:(bQ l).Nodup
def FG.W{H':D}{id:Nat}{kt:aS}{S:AT}(h:FG H id kt ks l)(g:I S H H')(j:id∉S):FG H' id kt ks l:=⟨let⟨c,p⟩:=h.ob;⟨c,p.W g j⟩,h.kp,h.nd⟩
def Dq{c:Nat}(h:KP ks key)(g:(bQ l).Nodup):(bQ (eD c key v l)).Nodup:=by
 rw[Jv h];split
 .exact g
 .rename_i e;have:key∉bQ l:=λ B=>e (by have:=(Q8 h l).2 B;simpa[cH]using this);rw[zd];exact⟨g,ζ,λ a p b j=>by simp at j;subst j;rintro rfl;exact this p⟩
def ajv(h:KP ks key)(g:(bQ l).Nodup):(bQ (nA key l)).Nodup:=by rw[aiU h];exact g.erase _
def Jx{c:Nat}(h:KP ks key)(g:∀x∈bQ l,KP ks x):∀x∈bQ (eD c key v l),KP ks x:=by
 rw[Jv h];split
 .exact g
 .intro x Z;rw[b_]at Z;rcases Z with Z|Z
  .exact g x Z
  .simp at Z;subst Z;exact h
section
def aw6{j k:IntKind}{n:Int}:oz (.i k) (.int j n)=(j==k):=rfl
def aw7{s:aI}:oz .s (.string s)=true:=rfl
def aw5{b:Bool}:oz .b (.bool b)=true:=rfl
def am9:oc [] []=true:=rfl
def am8{c:KC}{v:aC}{M:List KC}{g:List aC}:oc (c::M) (v::g)=(oz c v&&oc M g):=by show aB false (oc M g) (oz c v)=_;cases oz c v<;>rfl
attribute [simp] aw6 aw7 aw5 am9 am8
@[simp]def axi{j k:IntKind}{x y:Int}:c8 (.int j x) (.int k y)=(decide (j=k)&&decide (x=y)):=by
  have O:∀a b,(Value.int j a=Value.int k b)↔(j=k/\a=b):=λ a b=>ζ
  rw[qH]
  constructor
  .intro h;have:=Gg h;simp at this;simp[this]
  .intro h
   simp at h;obtain⟨rfl,rfl⟩:=h;exact Pn (ks:=.one (.i j)) (by simp[KP])
def axj{x y:aI}:c8 (.string x) (.string y)=decide (x=y):=by
 rw[qH];constructor
 .intro h;have:=Gg h;simp at this;simp[this]
 .intro h;simp at h;subst h;exact Pn (ks:=.one .s) (by simp[KP])
def axH{k:List aC->R β}:Fc [] k=k []:=rfl
def axG{v:aC}{l:AU}{k:List aC->R β}:Fc (.lit v::l) k=Fc l λ l'=>k (v::l'):=rfl
attribute [simp] axj axH axG
end
attribute [simp] ai9 ajX agb
end
variable{M:AU}{aH:AT}{L:List α}
inductive aX(H:D)(es:Nat):J->List J->List Nat->Prop
 |nil:aX H es (.lit (.slice none 0 0)) [] []|own {id n ax:Nat} {ex:Bool} {t:Tr J} {M:List J}:Lv H id (.cells (ax*es) t false)->M.length=n*es->(∀j,j<n*es->t.get j=M[j]?)->n<=ax->(ex=false->0<ax)->ax<=maxLen->aX H es (.sl id 0 es n ax ex) M [id]
def aX.W{H':D}{S:AT}(h:aX H es v M aH)(g:I S H H')(j:∀x∈aH,x∉S):aX H' es v M aH:=by cases h with|nil=>exact .nil|own O U F u q p=>exact .own (O.W g (j _ ζ)) U F u q p
def aX.lt(h:aX H es v M aH):∀x∈aH,x<H.ab:=by cases h with|nil=>simp|own O U F p j g=>intro x Z;simp at Z;subst Z;exact O.lt
def aX.yN(h:aX H es v M aH){R:α->AU->Prop}(q:0<es)(g:M.length=L.length*es)(B:∀i (A:i<L.length),R L[i] ((M.drop (i*es)).take es)):aW H es R v L:=by
 cases h with
 |nil=>
  have:L.length=0:=by
   rcases ze L.length with h|h
   .exact h
   .have:=YQ h q;simp only[wg]at g;omega
  rw[YH]at this;subst this;exact .nil
 |@own id n ax ex t _ O U F p G C=>
  have u:L.length=n:=by rw[U]at g;exact(afn q g).symm
  subst u
  have I:L.length*es<=ax*es:=nW _ p
  refine .sl O ω (λ i A=>⟨_,?_,B i A⟩) p C
  have D:i*es+es<=L.length*es:=by have:=nW es (dz A);rw[ve]at this;exact this
  refine iB.2 ⟨ξ,λ j z=>?_⟩
  rw[F _ ω,rI,aq z,v_,mQ]
def adG{t:CX}{n:Nat}(g:M.length=n)(h:∀j,j<n->t.get j=M[j]?):bc t 0 n=some M:=iB.2 ⟨g,λ i A=>by rw[mQ];exact h i A⟩
def Zd{t:CX}{new:AU}{a:Nat}(g:M.length=a)(h:∀j,j<a->t.get j=M[j]?):∀j,j<a+new.length->(t.iM a new).get j=(M++new)[j]?:=by
 intro j p;rw[Tr.vn];by_cases q:a<=j
 .rw[aq ⟨q,p⟩,mi ω,g]
 .rw[ao ω,jI ω];exact h j ω
section
variable{E:aK}{t e:aS}{d0 d:TypeDesc}{es bs a0 b0:Nat}{z0 z:AU}
def am3{s x:J}{new:AU}{n:Nat}(V:E.tt.get t=some ⟨.slice e,a0,b0,z0⟩)(he:E.tt.get e=some ⟨d,es,bs,z⟩)(h0:0<es)(W:aX H es s M aH)(Z:∀{β:Type} (k:Nat->AU->R β),pz es x H k=k n new)(hn:0<n)(q:new.length=n*es)(B:fX new=true)(Q:∀m,M.length=m*es->(m+n)*bs<=140737488355328)(N:∀m,M.length=m*es->m+n<=9223372036854775807):∃v' H' ids',cX E t s x H=val v' H'/\aX H' es v' (M++new) ids'/\I aH H H'/\(∀y∈ids',y∈aH\/H.ab<=y)/\∃id ax ex m,v'=.sl id 0 es m ax ex/\(M++new).length=m*es:=by
 unfold cX tS
 rw[vW,V]
 dsimp only
 rw[vW,he]
 dsimp only
 rw[Z]
 cases W with
 |nil=>
  obtain⟨m,rfl⟩:∃m,n=m+1:=⟨n-1,ω⟩
  have A:(m+1)*bs<=140737488355328:=by have:=Q 0 ζ;rw[mQ]at this;exact this
  have g:m+1<=9223372036854775807:=by have:=N 0 ζ;omega
  refine⟨.sl H.ab 0 es (m+1) (m+1) false,H.add (.cells ((m+1)*es) (Tr.e.iM 0 new) false),[H.ab],?_,?_,aw.add _,ζ,_,_,_,m+1,rfl,by simpa using q⟩
  .simp[A,g,B]
  .refine .own ⟨sx _,by rw[D.jK,aq rfl]⟩ (by simpa using q) (λ j h=>?_) aF (λ _=>ω) g
   have:=Zd (t:=Tr.e) (M:=[]) (new:=new) (a:=0) rfl (λ j h=>ω) j ω;exact this
 |@own id m ax ex t0 _ O U F h4 K X=>
  have A:(m+n)*bs<=140737488355328:=Q m U
  have g:m+n<=9223372036854775807:=N m U
  have bU:bc t0 0 (m*es)=some M:=adG U F
  have T:m*es<=ax*es:=nW _ h4
  have p:(M++new).length=(m+n)*es:=by rw[iP,U,q,DW]
  simp only[Ns,Rh,mQ,show Nat.beq es es=true by simp,pS,B,Pz,qS,O.get,show Nat.ble (m+n) 9223372036854775807=true by simpa using g,show Nat.ble ((m+n)*bs) 140737488355328=true by simpa using A]
  by_cases u:m+n<=ax
  .have gV:(m+n)*es<=ax*es:=nW _ u
   rw[show Nat.ble (m+n) ax=true by simpa using u,pS,Di,show Nat.ble ((m+n)*es) (ax*es)=true by simpa using gV,pS,FD,Bz];refine⟨_,_,[id],rfl,?_,aw.put (.inr ζ),λ y G=>.inl G,_,_,_,m+n,rfl,p⟩;refine .own (ax:=ax) (t:=t0.iM (m*es) new) ⟨O.lt,by rw[D.eR,aq rfl]⟩ p (λ j h=>?_) u K X;exact Zd U F j (by rw[q,<-DW];exact h)
  .rw[show Nat.ble (m+n) ax=false by simpa using u,Di]
   have C:∀(t1:CX),(∀j,j<m*es->t1.get j=M[j]?)->∀j,j<(m+n)*es->(t1.iM (m*es) new).get j=(M++new)[j]?:=λ t1 A3 j h=>Zd U A3 j (by rw[q,<-DW];exact h);have fO:∀j,j<m*es->((Tr.e:CX).iM 0 M).get j=M[j]?:=λ j h=>by rw[Tr.vn,aq ω,Ax]
   cases ex with
   |true=>
    rw[pS,show Nat.ble (m*es) (ax*es)=true by simpa using T,pS,bY bU,FD,FD,JG]
    refine⟨_,_,[H.ab],rfl,?_,aw.add _,ζ,_,_,_,m+n,rfl,p⟩
    exact .own ⟨sx _,by rw[D.jK,aq rfl]⟩ p (C _ fO) aF (λ _=>ω) g
   |false=>
    rw[Di,Di,show Nat.ble (m*es) (ax*es)=true by simpa using T,pS]
    by_cases fR:2<=(m+n)*es
    .rw[show Nat.ble 2 ((m+n)*es)=true by simpa using fR,pS,ajl,FD,Bz,JG]
     refine⟨_,_,[H.ab],rfl,?_,(aw.put (.inr ζ)).add _,ζ,_,_,_,m+n,rfl,p⟩;exact .own ⟨sx _,by rw[D.jK,aq rfl]⟩ p (C _ F) aF (λ _=>ω) g
    .exfalso
     have:=YQ (show 2<=m+n by have:=K rfl;omega) h0;omega
end
section
variable{E:aK}{r:R dS}{d:Option Tmp}{k:List fg}{Y:aE}{H:D}{aj:dE->aE->D->Prop}
def CB(x:Option J)(E:aK)(a b:Code)(k:List fg)(Y:aE)(H:D)(aj:dE->aE->D->Prop):Prop:=∃c,x=some (.lit (.bool c))/\(c=true->aD E (.code a::k) Y H aj)/\(c=false->aD E (.code b::k) Y H aj)
def aEf{x:dy}{a b:Code}:aD E (.code (.cond x a b)::k) Y H aj↔CB (BZ E Y.cD x) E a b k Y H aj:=aEg
@[simp]def aHe{a b:Code}:CB (some (.lit (.bool true))) E a b k Y H aj↔aD E (.code a::k) Y H aj:=by simp[CB]
@[simp]def aHd{a b:Code}:CB (some (.lit (.bool false))) E a b k Y H aj↔aD E (.code b::k) Y H aj:=by simp[CB]
def CB.mk{a b:Code}{c:Bool}(O:c=true->aD E (.code a::k) Y H aj)(U:c=false->aD E (.code b::k) Y H aj):CB (some (.lit (.bool c))) E a b k Y H aj:=⟨c,rfl,O,U⟩
def MG.mk{c:Bool}(O:c=true->MO E r d k Y aj)(U:c=false->MD E d pD k Y H aj):MG (some c) E r d k Y H aj:=atB.2 ⟨O,U⟩
attribute [simp] aEf
end
def anP{u:J}{c:Bool}:aB (val u H) (val v H) c=val (if c=true then v else u) H:=by cases c<;>rfl
def awH{p:Prop}[Decidable p]{a b:Bool}:(if p then J.lit (.bool a)else J.lit (.bool b))=.lit (.bool (if p then a else b)):=by split<;>rfl
def awI{p:Prop}[Decidable p]{k:IntKind}{a b:Int}:(if p then J.lit (.int k a)else J.lit (.int k b))=.lit (.int k (if p then a else b)):=by split<;>rfl
def awJ{p:Prop}[Decidable p]{a b:aI}:(if p then J.lit (.string a)else J.lit (.string b))=.lit (.string (if p then a else b)):=by split<;>rfl
attribute [simp] anP awH awI awJ
variable{ah:Nat}
def CF(E:aK)(f:J)(args:AU)(H:D)(aj:J->D->Prop):Prop:=match rM f args H with|.ok (.call g a H')=>C E (.call g a) H' aj|.ok (.round l a H')=>C E (.round l a) H' aj|_=>False
section
variable{E:aK}{f:J}{args:AU}{H:D}{aj Q':J->D->Prop}
def CF.mono(h:CF E f args H aj)(j:∀v H',aj v H'->Q' v H'):CF E f args H Q':=by
 unfold CF at h⊢;cases p:rM f args H with
 |er l=>rw[p]at h;exact h
 |ok r=>
  rw[p]at h
  cases r with|val v H'=>exact h|call g a H'=>exact C.mono h j|round l a H'=>exact C.mono h j
@[simp]def af1{n:Nat}{a c:AU}:CF E (.fn (.func n) a c) args H aj↔C E (.call n (a++(args++c))) H aj:=by
  unfold CF rM;simp
@[simp]def aHf{l:Nat}{a c:AU}:CF E (.fn (.yield l) a c) args H aj↔C E (.round l (a++args)) H aj:=by
  unfold CF rM;simp
def vM{P:J->D->Prop}{d:Option Tmp}{k:List fg}{Y:aE}{R:dE->aE->D->Prop}(h:CF E f args H P)(j:∀v H',P v H'->MD E d v k Y H' R):MO E (rM f args H) d k Y R:=by
 unfold CF at h;cases p:rM f args H with
 |er l=>rw[p]at h;exact h.elim
 |ok r=>
  rw[p]at h
  cases r with|val v H'=>exact h.elim|call g a H'=>exact C.mono h j|round l a H'=>exact C.mono h j
end
@[simp]def Im{n:Nat}{a c args:AU}:rM (.fn (.func n) a c) args H=.ok (.call n (a++(args++c)) H):=by unfold rM;simp
section
variable{E:aK}{t e a b:Nat}{z:AU}{H:D}
def de{id n ax:Nat}{ex:Bool}(g:E.tt.get t=some ⟨.slice e,a,b,z⟩):aN E t (.sl id ah es n ax ex) H=val (.lit (.int .i64 n)) H:=by unfold aN;simp[g]
def abk{s:aI}(g:E.tt.get t=some ⟨.string,a,b,z⟩):aN E t (.lit (.string s)) H=val (.lit (.int .i64 s.size)) H:=by
 have e:s.data.toList.length=s.size:=by rw[rH];rfl
 unfold aN;rw[vW,g];show JX s.data.toList H=_;unfold JX;rw[JA,e];rfl
def Ba{c:Nat}{n:Nat}(g:E.tt.get t=some ⟨.slice e,a,b,z⟩):aN E t (.lit (.slice none n c)) H=val (.lit (.int .i64 n)) H:=by unfold aN;simp[g]
def axC(g:E.tt.get t=some ⟨.slice e,a,b,z⟩):aN E t .eF H=val (.lit (.int .i64 0)) H:=by unfold aN;simp[g]
end
section
variable{β:Type}{s:CX}{a ah m:Nat}{v:Option J}{k:AU->R β}
@[simp]def aIV:pU (s.put a v) ah m k=JP (s.put a v) ah k m []:=aDK
end
section
variable{H:D}{o:AO}{id:Nat}
@[simp]def PN:(H.add o).get H.ab=some o:=by rw[D.jK,aq rfl]
def ag6(h:id<H.ab):(H.add o).get id=H.get id:=by rw[D.jK,ao (bC h)]
end
@[simp]def aI1:pD=.lit (.tuple #[]):=rfl
def bq(h:i<maxLen):IntKind.wrap .i64 ((i:Int)+1)=(i:Int)+1:=by unfold maxLen at h;exact fQ ω ω
section
variable{H H':D}{es:Nat}{α:Type}{R:α->AU->Prop}{v:J}{L:List α}
def aW.gL(h:aW H 1 R v L)(A:i<L.length):∃id ah ax ex n t ro c,v=.sl id ah 1 L.length ax ex/\Lv H id (.cells n t ro)/\ah+i<n/\t.get (ah+i)=some c/\R L[i] [c]:=by
 have⟨id,ah,ax,ex,n,t,ro,M,O,U,F,j,g⟩:=h.at_ A;have⟨q,p⟩:=iB.1 j;match M,q with
 |[c],_=>
  refine⟨id,ah,ax,ex,n,t,ro,c,O,U,ω,?_,g⟩
  have:=p 0 ω
  simpa using this
end
@[simp]theorem aGW{E:aK}{Y:aE}{H:D}{aj:dE->aE->D->Prop}:∀(k:List fg),MX E k .ret Y H aj↔aj .ret Y H
  |[]=>al5|_::k=>al6.trans (aGW k)
def aW.cell{R:α->AU->Prop}(h:aW H es R v L):km v=true:=by cases h<;>rfl
def idxOf{α:Type}(p:α->Bool)(L:List α):Int:=match L.findIdx? p with|some i=>i|none=>-1
def MV{p:α->Bool}(A:i<L.length)(g:p L[i]=true)(q:∀j (h:j<L.length),j<i->p L[j]=false):idxOf p L=i:=by
 have:L.findIdx? p=some i:=by rw[KD];exact⟨A,g,λ j u=>by simpa using q j ω u⟩
 unfold idxOf;rw[this]
def QT{p:α->Bool}(g:∀j (h:j<L.length),p L[j]=false):idxOf p L=-1:=by
 have:L.findIdx? p=none:=by rw[KB];intro x Z;obtain⟨j,q,rfl⟩:=rJ Z;simpa using g j q
 unfold idxOf;rw[this]
def VZ{p:α->Bool}:(0<=idxOf p L)↔L.any p=true:=by
 unfold idxOf;cases h:L.findIdx? p with
 |none=>
  rw[KB]at h
  simp only[YB]
  constructor
  .intro j;omega
  .rintro⟨x,Z,g⟩;have:=h x Z;simp[g]at this
 |some i=>
  rw[KD]at h
  have⟨A,g,_⟩:=h
  simp only[YB]
  exact⟨λ _=>⟨_,cG A,g⟩,λ _=>ω⟩
section
variable{E:aK}{β α:Type}{Y:CX}
def ak8{l:List α}:∀{n:Nat} {k:List α->R β} {d:R β},J7 n l k d=if n<=l.length then k (l.take n)else d:=by
 unfold J7;intro n;induction n generalizing l with
 |zero=>intro k d;simp;rfl
 |succ n g=>
  intro k d
  rw[z8]
  cases l with|nil=>simp|cons a l=>dsimp only;rw[g];simp
def aga{l:List α}:∀{n:Nat} {k:List α->R β} {d:R β},Li n l k d=if n<=l.length then k (l.drop n)else d:=by
 unfold Li;intro n;induction n generalizing l with
 |zero=>intro k d;simp;rfl
 |succ n g=>
  intro k d
  rw[z8]
  cases l with|nil=>simp|cons a l=>dsimp only;rw[g];simp
@[simp]def aHr{place:Nat->(Nat->Nat->R β)->R β}{cells:AU}{k:AU->R β}:CO E Y place [] cells k=k cells:=rfl
@[simp]def aHq{place:Nat->(Nat->Nat->R β)->R β}{cells:AU}{k:AU->R β}{x:dy}{l:List (Nat×dy)}:CO E Y place ((i,x)::l) cells k=bE E Y x λ v=>place i λ ah size=>jV (cellsOf v) λ m=>aB (.er [190]) (aB (.er [21]) (Nb ah (cellsOf v) cells λ cells=>CO E Y place l cells k) (Nat.beq m size)) (fX (cellsOf v)):=rfl
def axy{l cells:AU}{k:AU->R β}:Nb ah l cells k=if ah<=cells.length then(if ah+l.length<=cells.length then k (cells.take ah++(l++cells.drop (ah+l.length)))else .er [19])else .er [20]:=by unfold Nb;rw[ak8];simp only[JA,aga,Ns,afF]
def aDT{z:AU}{sz:Nat}{t:CX}{k:CX->R β}:Ac z sz 0 ah t k=k t:=rfl
def adJ{z:AU}{sz n:Nat}{t:CX}{k:CX->R β}:Ac z sz (n+1) ah t k=Ac z sz n ah (t.iM (ah+n*sz) z) k:=by show kN t (Nat.add ah (Nat.mul n sz)) z _=_;rw[FD];rfl
def aDS{z:AU}{sz n:Nat}{t:CX}{k:CX->R β}[NeZero n]:Ac z sz (no_index (OfNat.ofNat n)) ah t k=Ac z sz (n-1) ah (t.iM (ah+(n-1)*sz) z) k:=by cases n with|zero=>exact absurd rfl (NeZero.ne 0)|succ n=>exact adJ
def aqg{size len:Nat}{t:CX}{k:CX->R β}:ID E Y size len [] t k=k t:=rfl
def aqf{size len:Nat}{t:CX}{k:CX->R β}{x:dy}{l:List (Nat×dy)}:ID E Y size len ((i,x)::l) t k=bE E Y x λ v=>jV (cellsOf v) λ m=>aB (.er [191]) (aB (.er [22]) (aB (.er [23]) (kN t (Nat.mul i size) (cellsOf v) λ t=>ID E Y size len l t k) (Nat.blt i len)) (Nat.beq m size)) (fX (cellsOf v)):=rfl
attribute [simp] axy aDT adJ aDS aqg aqf
attribute [simp] ak8 aga
end
def Hu{l:Nat}{args:AU}{L:LR}{c_:Option Code}{aj:J->D->Prop}(aR:aE->D->Prop)(u:H.get l=some (LR.ob L .ready c_))(z:L.ps.length=args.length)(q:∀p∈L.ps,p<L.size/\p+1<18446744073709551616)(O:aD E [.code L.aI4] ⟨Fo L.ps args L.tmps,L.size,[],some l,L.fn⟩ H λ ex Y H1=>ex=.normal/\aR Y H1)(U:∀Y H1,aR Y H1->∃j g,H1.get l=some (LR.ob g .ready j)/\aD E [.code L.bd] Y (H1.put l (some (LR.ob g .busy j))) λ ex _ A=>XY l aj ex A):C E (.round l args) H aj:=alY u z q (O.mono λ _ Y H1 h=>⟨h.1,U Y H1 h.2⟩)
@[simp]def aIS{args:AU}:Fo [] args s=s:=by cases args<;>rfl
@[simp]def aIR{p:Tmp}{ps:List Tmp}{a:J}{args:AU}:Fo (p::ps) (a::args) s=Fo ps args (s.put p (some a)):=rfl
section
variable{α:Type}{t:Tr α}{a:Nat}{x y z:α}
def JQ(h:bc t a 2=some [x,y]):t.get a=some x/\t.get (a+1)=some y:=by have⟨_,h⟩:=iB.1 h;exact⟨by simpa using h 0 ω,by simpa using h 1 ω⟩
def uE(h:bc t a 3=some [x,y,z]):t.get a=some x/\t.get (a+1)=some y/\t.get (a+2)=some z:=by have⟨_,h⟩:=iB.1 h;exact⟨by simpa using h 0 ω,by simpa using h 1 ω,by simpa using h 2 ω⟩
end
section
variable{H:D}{es:Nat}{α:Type}{R:α->AU->Prop}{v:J}{L:List α}
def aW.full(h:aW H es R v L)(g:0<L.length):∃id ah ax ex n t ro,v=.sl id ah es L.length ax ex/\Lv H id (.cells n t ro)/\ah+L.length*es<=n/\(∀i (h:i<L.length),∃M,bc t (ah+i*es) es=some M/\R L[i] M)/\L.length<=ax/\ax<=maxLen:=by cases h with|nil=>simp at g|eF=>simp at g|sl O U F p j=>exact⟨_,_,_,_,_,_,_,rfl,O,U,F,p,j⟩
def aW.head{id ax:Nat}{ex:Bool}{m:Nat}(h:aW H es R (.sl id ah es m ax ex) L){k:Nat}(Q:k<=L.length):aW H es R (.sl id ah es k ax ex) (L.take k):=by
 have key:∀v,aW H es R v L->v=.sl id ah es m ax ex->aW H es R (.sl id ah es k ax ex) (L.take k):=by
  intro v h g;cases h with
  |nil=>cases g|eF=>cases g
  |@sl jO C q u n t ro L O U F z p=>
   cases g
   have j:(L.take k).length=k:=by rw[eK];omega
   have B:k*es<=L.length*es:=nW _ Q
   have:=aW.sl (H:=H) (es:=es) (ah:=ah) (R:=R) (L:=L.take k) (ax:=ax) (ex:=ex) O (by rw[j];omega) (λ i A=>by have⟨M,c1,c2⟩:=F i ω;refine⟨M,c1,?_⟩;rw[FL];exact c2) (by rw[j];omega) p
   rw[j]at this
   exact this
 exact key _ h rfl
end
def aa2(p:α->Bool)(L:List α):(idxOf p L=-1/\L.any p=false)\/∃i,∃h:i<L.length,idxOf p L=(i:Nat)/\p L[i]=true:=by
 unfold idxOf;cases h:L.findIdx? p with
 |none=>
  rw[KB]at h
  refine .inl ⟨rfl,?_⟩
  rw[Yz]
  intro x Z;simpa using h x Z
 |some i=>
  rw[KD]at h
  have⟨A,g,_⟩:=h
  exact .inr ⟨i,A,rfl,g⟩
structure bp where
 op:Int
 dst:aI
 a:aI
 b:aI
 n:Int
 fn:aI
 args:List aI
 eh:List aI
structure cU where
 label:aI
 code:List bp
structure aQ where
 name:aI
 params:List aI
 blocks:List cU
abbrev u8(n:Int):J:=.lit (.int .u8 n)
abbrev bl(b:Bool):J:=.lit (.bool b)
abbrev wV(f b i:Int):J:=.agg [ae f,ae b,ae i]
def xm:aI->AU->Prop:=λ s M=>M=[str s]/\s.size<=maxLen
def ku(H:D)(x:bp)(M:AU):Prop:=∃va vl,M=[u8 x.op,str x.dst,str x.a,str x.b,ae x.n,str x.fn,va,vl]/\aW H 1 xm va x.args/\aW H 1 xm vl x.eh/\(0<=x.op/\x.op<=255)/\(-9223372036854775808<=x.n/\x.n<=9223372036854775807)
def p_(H:D)(x:cU)(M:AU):Prop:=∃g,M=[str x.label,g]/\aW H 8 (ku H) g x.code
def qe(H:D)(x:aQ)(M:AU):Prop:=∃vp vb,M=[str x.name,vp,vb]/\aW H 1 xm vp x.params/\aW H 2 (p_ H) vb x.blocks
section
variable{H H':D}
def aW.fZ{R:α->AU->Prop}(h:aW H es R v L)(g:I [] H H'):aW H' es R v L:=h.W g λ _ _ _ h=>h
def ku.W{x:bp}(h:ku H x M)(g:I [] H H'):ku H' x M:=by have⟨va,vl,O,U,F,j⟩:=h;exact⟨va,vl,O,U.fZ g,F.fZ g,j⟩
def p_.W{x:cU}(h:p_ H x M)(g:I [] H H'):p_ H' x M:=by have⟨j,O,U⟩:=h;exact⟨j,O,U.W g λ _ _ _ h=>h.W g⟩
def qe.W{x:aQ}(h:qe H x M)(g:I [] H H'):qe H' x M:=by have⟨vp,vb,O,U,F⟩:=h;exact⟨vp,vb,O,U.fZ g,F.W g λ _ _ _ h=>h.W g⟩
abbrev oO(H:D)(v:J)(p:List aQ):Prop:=aW H 3 (qe H) v p
def oO.zB{p:List aQ}(h:oO H v p)(g:I [] H H'):oO H' v p:=h.W g λ _ _ _ h=>h.W g
end
def At(p:List aQ)(f b i:Nat)(x:bp):Prop:=∃fn bk,p[f]?=some fn/\fn.blocks[b]?=some bk/\bk.code[i]?=some x
def yS(f b i g b' i':Nat):Prop:=f<g\/(f=g/\(b<b'\/(b=b'/\i<i')))
variable{aG:α->Nat}
structure BK{ay:Type}(bk:DataW ay->Nat):Prop where
 one:∀d,1<=bk d
 agg:∀l,bk (.agg l)=(l.map bk).sum+1
 sl:∀l r,(l.map bk).sum+1<=bk (.slice l r)
section
variable{E:aK}{P:e8}{w:bI}{ay:Type}{enc:aS×aC->ay}{bk:DataW ay->Nat}
def xf(bk:DataW ay->Nat)(E:aK)(P:e8)(w:bI)(enc:aS×aC->ay)(t:aS){α:Type}(R:D->α->AU->Prop)(aG:α->Nat):Prop:=∀fuel M x,DataW.trod enc P w 0 (λ _=>true) true fuel t M=some x->∀ρ H,HR E w ρ H w->∃bM H' a l,HR E w bM H' w/\cV ρ H bM H'/\I [] H H'/\cA bM l M/\R H' a l/\aG a<=bk x.1
def D7{R:D->α->AU->Prop}(A:BK bk)(h:EL E P w enc t R):xf bk E P w enc t R λ _=>1:=by intro fuel M x Z ρ H hr;have⟨z,H1,a,l,u,q,p,j,g⟩:=h fuel M x Z ρ H hr;exact⟨z,H1,a,l,u,q,p,j,g,A.one _⟩
def Pj{R:D->α->AU->Prop}{R':D->β->AU->Prop}{g:β->Nat}(f:α->β)(h:xf bk E P w enc t R aG)(B:∀H a l,R H a l->R' H (f a) l)(C:∀a,g (f a)<=aG a):xf bk E P w enc t R' g:=by intro fuel M x Z ρ H hr;have⟨F,H1,a,l,A,z,u,q,p,j⟩:=h fuel M x Z ρ H hr;exact⟨F,H1,f a,l,A,z,u,q,B _ _ _ p,aY (C a) j⟩
def Ya(bk:DataW ay->Nat)(P:e8)(w:bI)(enc:aS×aC->ay)(n:Nat):List aS->List aC->Nat->Prop
 |[],M,N=>M=[]/\N=0|t::ts,M,N=>∃c1 c2 x aD,M=c1++c2/\DataW.trod enc P w 0 (λ _=>true) true n t c1=some x/\Ya bk P w enc n ts c2 aD/\N=bk x.1+aD
def Sr(bk:DataW ay->Nat)(E:aK)(P:e8)(w:bI)(enc:aS×aC->ay)(ts:List aS){α:Type}(R:D->α->AU->Prop)(aG:α->Nat):Prop:=∀fuel M N,Ya bk P w enc fuel ts M N->∀ρ H,HR E w ρ H w->∃bM H' a l,HR E w bM H' w/\cV ρ H bM H'/\I [] H H'/\cA bM l M/\R H' a l/\aG a<=N
def TQ:Sr bk E P w enc [] ams λ _=>0:=by intro fuel M N h ρ H hr;obtain⟨rfl,rfl⟩:=h;exact⟨ρ,H,(),[],hr,cV.refl _ _,aw,.nil,rfl,aF⟩
def wu{ts:List aS}{R:D->α->AU->Prop}{S:D->β->AU->Prop}{u:β->Nat}(hu:Up R)(h:xf bk E P w enc t R aG)(T:Sr bk E P w enc ts S u):Sr bk E P w enc (t::ts) (amr R S) λ p=>aG p.1+u p.2:=by intro fuel M N V ρ H hr;obtain⟨c1,c2,x,aD,rfl,O,U,rfl⟩:=V;have⟨W,H1,a,l1,G,F,C,B,A,z⟩:=h fuel c1 x O ρ H hr;have⟨g,X,b,l2,Q,q,j,K,J,I⟩:=T fuel c2 aD U W H1 G;exact⟨g,X,(a,b),l1++l2,Q,F.trans q,C.trans j,(cA.mono q.ext B).append K,⟨l1,l2,rfl,hu _ _ _ _ j A,J⟩,Nat.add_le_add z I⟩
theorem akK{n:Nat}{M:List aC}:∀{fs:List Field} {o:Nat} {xs:List (DataW ay×List MemPlace)},Xg P o fs=true->M.length=o+RJ P fs->xs.length=fs.length->(∀(i:Nat) (f:Field),fs[i]?=some f->DataW.trod enc P w 0 (λ _=>true) true n f.type ((M.drop f.offset).take (P.cellsOf f.type))=xs[i]?)->Ya bk P w enc n (fs.map (·.type)) (M.drop o) ((xs.map λ x=>bk x.1).sum)
 |[],o,[],_,j,_,_=>by
  refine⟨?_,rfl⟩
  exact ae4 (by simp[RJ]at j;omega)
 |[],o,x::xs,_,_,h,_=>by simp at h
 |f::fs,o,[],_,_,h,_=>by simp at h
 |f::fs,o,x::xs,p,j,Z,h=>by
  simp only[Xg,v8,zk]at p
  have⟨O,U⟩:=p
  have q:=h 0 f rfl
  rw[O]at q
  refine⟨_,M.drop (o+P.cellsOf f.type),x,(xs.map λ x=>bk x.1).sum,?_,q,akK U (by simp[RJ]at j;omega) (by simpa using Z) λ i g u=>h (i+1) g (by simpa using u),ζ⟩
  rw[<-Ow,wj]
def TP{fs:Array Field}{R:D->α->AU->Prop}(J:BK bk)(C:P.underlying t=some (.struct fs))(G:Xg P 0 fs.toList=true)(K:P.cellsOf t=RJ P fs.toList)(h:Sr bk E P w enc (fs.toList.map (·.type)) R aG):xf bk E P w enc t R aG:=by intro fuel M x Z ρ H hr;obtain⟨xs,n,rfl,rfl,N,g,F⟩:=DataW.trod_struct C Z;have:=akK (bk:=bk) (enc:=enc) (w:=w) (n:=n) (M:=M) (xs:=xs) G ω (by simpa using g) λ i f A=>F i f (by simpa using A);have⟨I,H1,a,l,B,z,u,q,p,j⟩:=h n M _ this ρ H hr;refine⟨I,H1,a,l,B,z,u,q,p,aY j ?_⟩;show _<=bk (.agg (xs.map (·.1)));rw[J.agg,u_];exact H7 _
theorem agi{e:aS}{α:Type}{R:D->α->AU->Prop}{aG:α->Nat}(hu:Up R)(h:xf bk E P w enc e R aG){n:Nat}{get:Nat->List aC}:∀{len:Nat} {xs:List (DataW ay×List MemPlace)} (_:xs.length=len),(∀i,i<len->DataW.trod enc P w 0 (λ _=>true) true n e (get i)=xs[i]?)->∀ρ H,HR E w ρ H w->∃bM H' L ls,HR E w bM H' w/\cV ρ H bM H'/\I [] H H'/\List.length L=len/\List.length ls=len/\(∀i (O:i<List.length L) (U:i<List.length ls),cA bM ls[i] (get i)/\R H' L[i] ls[i])/\(L.map aG).sum<=(xs.map λ x=>bk x.1).sum
 |0,xs,j,_,ρ,H,hr=>⟨ρ,H,[],[],hr,cV.refl _ _,aw,rfl,rfl,λ i O=>(by simp at O),ζ⟩
 |len+1,xs,j,Z,ρ,H,hr=>by
  have cR:xs≠[]:=by intro e;rw[e]at j;simp at j
  obtain⟨g,y,rfl⟩:∃g y,xs=g++[y]:=by obtain⟨g,y,e⟩:=SS xs|>.resolve_left cR;exact⟨g,y,by simpa using e⟩
  have F:g.length=len:=by simpa using j
  obtain⟨eU,H1,L,ls,T,Q,N,u,q,K,k7⟩:=agi hu h (len:=len) F (λ i A=>by rw[Z i ω,jI ω]) ρ H hr
  have C:=Z len ω
  rw[mi ω,F,YU]at C
  obtain⟨p,H2,a,l,X,B,z,W,V,j6⟩:=h n (get len) y C eU H1 T
  refine⟨p,H2,L++[a],ls++[l],X,Q.trans B,N.trans z,by simp[u],by simp[q],λ i O U=>?_,ξ⟩
  by_cases A:i<len
  .rw[HW ω,HW ω]
   obtain⟨J,G⟩:=K i ω ω;exact⟨cA.mono B.ext J,hu _ _ _ _ z G⟩
  .have:i=len:=by simp at O;omega
   subst this;simp only[afb,u,q,Nat.le_refl,YU,afd];exact⟨W,V⟩
def TO{e:aS}{R:D->α->AU->Prop}(cJ:BK bk)(ht:P.underlying t=some (.slice e))(iV:P.cellsOf e=es)(T:0<es)(hu:Up R)(h:xf bk E P w enc e R aG):xf bk E P w enc t (XZ es R) (λ L=>(L.map aG).sum+1):=by
 intro fuel M x Z ρ H hr;rcases DataW.trod_slice ht Z with⟨rfl,rfl⟩|⟨a,len,ax,elems,rest,n,rfl,rfl,hxe,_,hl,B,bA,Qo,hsp,_⟩
 .exact⟨ρ,H,[],[.lit (.slice none 0 0)],hr,cV.refl _ _,aw,.cons (.lit _) .nil,⟨_,rfl,.nil⟩,cJ.one _⟩
 .obtain⟨vF,zQ⟩:=hsp rfl;rw[iV]at Qo zQ;by_cases hz:len=0
  .subst hz;exact⟨ρ,H,[],[.eF],hr,cV.refl _ _,aw,.cons .eF .nil,⟨_,rfl,.eF⟩,cJ.one _⟩
  .have V:∀i,i<ax->∃c',w.cells? 0 (a.add (i*es)) es=some c':=by
    intro i A;by_cases jf:i<len
    .have:=Qo i jf;rw[bf ω,Tg]at this;obtain⟨c',O,_⟩:=this;exact⟨c',O⟩
    .have:=zQ (i-len) ω;rw[show len+(i-len)=i by omega,bf ω,Tg]at this;obtain⟨c',O,_⟩:=this;exact⟨c',O⟩
   have K:a.spot=none:=by obtain⟨c',u⟩:=V 0 ω;obtain⟨_,p,g⟩:=World.cells?_some u;have:=g 0 T;rw[bf ω]at this;have F:=World.cell?_spot this;simpa[Addr.add]using F
   obtain⟨b,ah,spot⟩:=a;dsimp only at K;subst K;have qu:∀i j:Nat,((⟨b,ah,none⟩:Addr).add i).add j=⟨b,ah+i+j,none⟩:=by
    intro i j;have k:∀o n:Nat,(⟨b,o,none⟩:Addr).add n=⟨b,o+n,none⟩:=by intro o n;unfold Addr.add;split<;>simp_all
    rw[k,k]
   have yf:∀i,i<ax->∀j,j<es->∃v,w.cell? ⟨b,ah+i*es+j,none⟩=some v:=by intro i A j J;obtain⟨c',u⟩:=V i A;obtain⟨_,p,g⟩:=World.cells?_some u;have:=g j J;rw[qu,bf ω]at this;exact⟨_,this⟩
   obtain⟨c,elem,U,hb⟩:∃c elem U,w.heap[b]?=some (.cells c elem U):=by obtain⟨v,G⟩:=yf 0 ω 0 T;obtain⟨c,elem,U,z,_,_⟩:=af0 G;exact⟨c,elem,U,z⟩
   have az:∀k v,w.cell? ⟨b,k,none⟩=some v->c[k]?=some v:=by intro k v G;obtain⟨c2,aHh,fz2,z,_,k2⟩:=af0 G;rw[hb]at z;cases z;exact k2
   have gu:ah+ax*es<=c.size:=by
    obtain⟨v,G⟩:=yf (ax-1) ω (es-1) ω;have:=az _ _ G;have F:=(tI.1 this).1;have e:ax*es=(ax-1)*es+es:=by
     have:ax=(ax-1)+1:=ω
     rw[this,ve];simp
    omega
   obtain⟨eU,H1,L,ls,z,k2,k3,k4,k5,X,k7⟩:=agi hu h (n:=n) (get:=λ i=>(w.cells? 0 ((⟨b,ah,none⟩:Addr).add (i*es)) es).getD []) (xs:=elems) (len:=len) bA (λ i A=>by
    have:=Qo i A;rw[bf ω,Tg]at this;obtain⟨c',p,g⟩:=this;have e:(w.cells? 0 ((⟨b,ah,none⟩:Addr).add (i*es)) es).getD []=c':=by rw[p];rfl
    rw[e,bf ω];exact g) ρ H hr
   have eN:∀i,i<len->∃c',w.cells? 0 ((⟨b,ah,none⟩:Addr).add (i*es)) es=some c'/\c'.length=es/\∀j,j<es->w.cell? ⟨b,ah+i*es+j,none⟩=c'[j]?:=by intro i A;obtain⟨c',u⟩:=V i ω;obtain⟨_,p,g⟩:=World.cells?_some u;exact⟨c',u,p,λ j J=>by rw[<-qu];exact g j J⟩
   have N:∀l∈ls,l.length=es:=by intro l lR;obtain⟨i,A,rfl⟩:=rJ lR;obtain⟨c',p,g,_⟩:=eN i ω;have:=(X i ω A).1.length;rw[this];show((w.cells? 0 _ es).getD []).length=es;rw[p];exact g
   have kH:ls.flatten.length=len*es:=by rw[agR N,k5]
   have aU:len*es<=ax*es:=nW _ hl;have wO:∀(k:Nat) av,k<ah+len*es->(Tr.e.iM ah ls.flatten).get k=some av->∃v,c[k]?=some v/\Rl eU av v:=by
    intro k av Q C;rw[Tr.vn]at C;split at C
    .rename_i dO;have Jd:k-ah<len*es:=ω
     have hdiv:(k-ah)/es<len:=(afl T).2 Jd;have Vk:(k-ah)%es<es:=H8 _ T;have jU:k-ah=(k-ah)/es*es+(k-ah)%es:=by rw[Td];exact(Nat.div_add_mod _ _).symm
     rw[jU,Z0 N ω Vk]at C;obtain⟨c',p,g,g3⟩:=eN _ hdiv;have q:=(X _ ω (by omega:(k-ah)/es<ls.length)).1;replace q:cA eU _ ((w.cells? 0 ((⟨b,ah,none⟩:Addr).add ((k-ah)/es*es)) es).getD []):=q;rw[p]at q;obtain⟨v,v1,v2⟩:=q.get C;refine⟨v,az _ _ ?_,v2⟩;have:=g3 _ Vk;have W:c'[(k-ah)%es]?=some v:=v1;rw[W]at this;rw[<-this];congr 2;omega
    .rw[Tr.atF]at C;cases C
   obtain⟨j1,j2,j3⟩:=z.Wa (DZ hb) hb (n:=ah+len*es) (t:=Tr.e.iM ah ls.flatten) ω wO;refine⟨_,_,L,[.sl H1.ab ah es L.length L.length false],j1,k2.trans j2,k3.trans I.Wa,.cons ?_ .nil,⟨_,rfl,?_⟩,by have:=cJ.sl (elems.map (·.1)) (rest.map (·.1));rw[u_]at this;rw[hxe];exact aY (Nat.succ_le_succ k7) this⟩
   .have:=Rl.sl (ρ:=eU.add H1.ab (b,0,c.size)) (id:=H1.ab) (ah:=ah) (es:=es) (len:=L.length) (ax:=L.length) (ex:=false) (c:=ax) j3 (λ e=>by cases e) ω aF ω B;rw[mQ,k4]at this;rw[k4];exact this
   .refine .sl (n:=ah+len*es) (t:=Tr.e.iM ah ls.flatten) (ro:=true) ⟨sx _,by rw[D.jK,aq rfl]⟩ (by rw[k4];exact aF) (λ i A=>?_) aF ω;have pO:i<len:=ω
    refine⟨ls[i]' ω,?_,hu _ _ _ _ I.Wa (X i A ω).2⟩
    have ck:=N (ls[i]' ω) (cG _)
    refine iB.2 ⟨ck,λ j J=>?_⟩;have eG:i*es+es<=len*es:=by have:=nW es (dz pO);rw[ve]at this;exact this
    rw[Tr.vn,aq ω];rw[show ah+i*es+j-ah=i*es+j by omega];exact Z0 N ω J
def zm(x:bp):Nat:=x.args.length+x.eh.length+1
def Ic(b:cU):Nat:=(b.code.map zm).sum+1
def Zg(f:aQ):Nat:=(f.blocks.map Ic).sum+1
def OO(p:List aQ):Nat:=(p.map Zg).sum
end
def FC:AT:=[58]
def E0:aK:=match Iz Tryz.prog wU keys (yg++FC.map λ f=>(f,5)) (λ E=>(R.ok E:R aK))with|.ok E=>E|.er _=>⟨.e,.e,.e,.e,.e,.e,0⟩
def H0:D:=match Mc g_ (λ H=>(R.ok H:R D))with|.ok H=>H|.er _=>⟨0,.e⟩
theorem agl(k:aK->R β):Iz Tryz.prog wU keys (yg++FC.map λ f=>(f,5)) k=k E0:=κ
@[simp]abbrev AV(t:Tr J)(n:Nat)(v:J):Prop:=t.get n=some v
abbrev CN(f:fD)(l:List J)(H:D)(P:J->D->Prop):Prop:=C E0 (.call f l) H P
def CA{E:aK}{a:Code}{k:List fg}{n:Nat}{m:List Nat}{r:Option Nat}{f:fD}{aj:dE->aE->D->Prop}(aJ:Nat->Tr J->D->Prop)(N:Nat){s:Tr J}{H:D}(h:aJ 0 s H)(t:∀(b:Code) (kk:List fg),b=a->kk=k->∀x s H,aJ x s H->(x<N->∀{s' H'},aJ (x+1) s' H'->aD E (.code (.loop b)::kk) ⟨s',n,m,r,f⟩ H' aj)->aD E (.code a::.code (.loop b)::kk) ⟨s,n,m,r,f⟩ H aj):aD E (.code (.loop a)::k) ⟨s,n,m,r,f⟩ H aj:=bu aJ (λ i=>N-i) (λ b k e g x s H h i=>t b k e g x s H h λ O _ _=>i _ _ _ (by show N-(x+1)<N-x;omega)) 0 s H h
theorem auN(k:D->R β):Mc g_ k=k H0:=κ
section
variable{E:aK}{k:List fg}{Y:aE}{H:D}{aj:dE->aE->D->Prop}{all:List Oper}
def aAq{au:aK}{rc:mP}{l1 l2:List Oper}{kk:aE->D->R β}:∀{Y:aE} {H:D},nO au rc all (l1++l2) kk Y H=nO au rc all l1 (λ Y H=>nO au rc all l2 kk Y H) Y H:=by
 induction l1 with
 |nil=>intro Y H;rfl
 |cons o l g=>
  intro Y H
  show iZ au rc Y all o H (λ an H'=>nO au rc all (l++l2) kk an H')=iZ au rc Y all o H (λ an H'=>nO au rc all l _ an H')
  congr 1;funext an H';exact g
def xj{l:List Oper}(n:Nat)(aR:aE->D->Prop)(O:∀Q':dE->aE->D->Prop,(∀an H',aR an H'->Q' .normal an H')->aD E [.ak all (l.take n)] Y H Q')(U:∀an H',aR an H'->aD E (.ak all (l.drop n)::k) an H' aj):aD E (.ak all l::k) Y H aj:=by obtain⟨n1,ex,p,H1,j,rfl,q⟩:=O (λ ex an H'=>ex=.normal/\aR an H') λ an H' h=>⟨rfl,h⟩;refine Oe ⟨n1,p,H1,U _ _ q,λ m B=>?_⟩;simp only[bN]at j⊢;have z:nO (E.at m) (bS E m) all (l.take n) (λ an H'=>.ok (dE.normal,an,H')) Y H=.ok (dE.normal,p,H1):=zV (WN (E:=E) (Dy B) λ x y=>le_refl _) j;have⟨an,H',F,u⟩:=WM z;cases F;have g:=aAq (all:=all) (au:=E.at m) (rc:=bS E m) (l1:=l.take n) (l2:=l.drop n) (kk:=λ an H'=>bN (E.at m) (bS E m) k .normal an H') (Y:=Y) (H:=H);rw[wj]at g;rw[g,u]
def Ap{l:List fg}(n:Nat)(aR:aE->D->Prop)(O:∀Q':dE->aE->D->Prop,(∀an H',aR an H'->Q' .normal an H')->aD E (l.take n) Y H Q')(U:∀an H',aR an H'->aD E (l.drop n) an H' aj):aD E l Y H aj:=by
 have app:∀(au:aK) (rc:mP) (l1 l2:List fg) ex Y H q an H',bN au rc l1 ex Y H=.ok (q,an,H')->bN au rc (l1++l2) ex Y H=bN au rc l2 q an H':=by
  intro au rc l1 l2;induction l1 with
  |nil=>intro ex Y H q an H' h;cases h;rfl
  |cons x l1 g=>
   intro ex Y H q an H' h
   show bN au rc (x::(l1++l2)) ex Y H=_
   cases ex with
   |ret=>simp only[bN]at h⊢;cases x<;>exact g _ _ _ _ _ _ h
   |exit j=>
    cases x with|bF id=>simp only[bN]at h⊢;exact g _ _ _ _ _ _ h|_=>simp only[bN]at h⊢;exact g _ _ _ _ _ _ h
   |normal=>
    cases x with
    |code c=>
     simp only[bN]at h⊢
     cases u:dX au rc c Y H with|er l=>rw[u]at h;cases h|ok r=>rw[u]at h;exact g _ _ _ _ _ _ h
    |ak a o=>
     simp only[bN]at h⊢
     have⟨f1,H1,F,p⟩:=WM h
     rw[p];exact g _ _ _ _ _ _ F
    |wT a o=>
     simp only[bN]at h⊢
     have⟨f1,H1,F,p⟩:=WV h
     rw[p];exact g _ _ _ _ _ _ F
    |again a o=>
     simp only[bN]at h⊢
     have⟨F,p⟩:=Yg h
     rw[p];exact g _ _ _ _ _ _ F
    |bF id=>simp only[bN]at h⊢;exact g _ _ _ _ _ _ h
 obtain⟨n1,ex,Q,H1,K,rfl,I⟩:=O (λ ex an H'=>ex=.normal/\aR an H') λ an H' h=>⟨rfl,h⟩;have⟨n2,C,z,N,J,G⟩:=U _ _ I;refine⟨max n1 n2,C,z,N,?_,G⟩;have B:=zV (oX (E:=E) (FQ n1 n2) (Dy (FQ n1 n2)) _ _ _ _) K;have A:=zV (oX (E:=E) (BQ n1 n2) (Dy (BQ n1 n2)) _ _ _ _) J;have:=app _ _ (l.take n) (l.drop n) _ _ _ _ _ _ B;rw[wj]at this;rw[this,A]
def XP{t:Task}{P:J->D->Prop}(h:∀Q':J->D->Prop,(∀{v H'},P v H'->Q' v H')->C E t H Q'):C E t H P:=h P λ h=>h
def alX{fn:Func}{c:Code}{j:Nat}{rs:List ResultVar}{args:AU}{P:J->D->Prop}(Q:E.Q.get f=none)(p:E.ft.get f=some fn)(g:(fn.body,fn.ntmps,fn.results.toList)=(some c,j,rs))(h:∀Q':J->D->Prop,(∀{v H'},P v H'->Q' v H')->aD E [.code c] ⟨Tr.e.iM 0 args,args.length+(j-args.length),[],none,f⟩ H (qb E rs Q')):C E (.call f args) H P:=XP λ Q' q=>aet Q p (zj g).1 (zj (zj g).2).1 (zj (zj g).2).2 (h Q' λ h=>q h)
end
def amp{n:Nat}{o:AO}{s N:Nat}{x:Option Obj}(h:OR E ρ o s N x):OR (E.at n) ρ o s N x:=by cases E;cases o with|loop st c_ fn size tmps params assign body df=>exact⟨XW _ h.1,XW _ h.2.1,h.2.2⟩|cells n t ro=>exact h|tN l=>exact h|map kt cl l=>exact h|deferred=>exact h
def HR.at{n:Nat}{w0:bI}(h:HR E w0 ρ H w):HR (E.at n) w0 ρ H w:=⟨h.lt,λ id b s N o O U=>amp (h.obj id b s N o O U),h.inj,h.own,h.bF,λ g id j=>h.vo g id (by cases E;exact j),h.ia,h.Y⟩
section
variable{P:e8}{pl:BF}{ky:List (Nat×KS)}{Q:List (Nat×Nat)}{E:aK}
def an5{args:AU}{j:Array aC}{u:aC}(dW:N_ P pl ky)(z:Iz P pl ky Q (λ E=>(R.ok E:R aK))=.ok E)(hr:HR E w ρ H w)(h:C E (.call f args) H λ v _=>v=.lit u)(q:cA ρ args j.toList)(A:∀E,eW P E->(∀f n,E.Q.get f=some n->(f,n)∈Q)->Hz P E w):Calls P f j w λ e w'=>e=.returned u/\jG (λ _=>False) w w':=by
 have⟨D,O,g,p,B⟩:=ZP dW z
 cases O
 obtain⟨n,v,H',F,rfl⟩:=h
 exact akg (g.at n) (A (E.at n) (g.at n) p) F hr.at q
def auO{g_:AT}(dW:N_ P pl ky)(q:Iz P pl ky Q (λ E=>(R.ok E:R aK))=.ok E)(j:Mc g_ (λ H=>(R.ok H:R D))=.ok H)(g:yW w g_):∃ρ,HR E w ρ H w:=by have⟨A,O,p,z,h⟩:=ZP dW q;cases O;have⟨H',U,u⟩:=ahF j;cases U;exact u E w h g
end
end
end Go.Proofs.YtgipmaoplfkdoaaGreatDoor
