import Derived.Test.YtmbnphmhaoomoaaGreatDoorAV6
import Derived.Test.YtmbnphmhaoomoaaGreatDoorAW1
import Derived.Test.YtmbnphmhaoomoaaGreatDoorChecked
import Derived.Lib.Strings
import Derived.Lib.Slices
import Derived.Lib.Walk
import Derived.Lib.Bytealg
import Derived.RangeFuncBound
import Derived.RangeFuncCalls
import Derived.RangeFuncLeaves
import Derived.Shelf.Abstract
import Derived.Shelf.RegionOpen
import Derived.WalkKit
import Derived.OwnWalkIn
import Derived.TacticsInMore
import Derived.LoopNIn
import Derived.LoopIn
set_option maxHeartbeats 4000000
set_option linter.unusedVariables false
set_option linter.unusedSimpArgs false
set_option maxRecDepth 100000
section
open Go Go.VM Go.Proofs
namespace Go.VM.Tryz
theorem tn3:tint Tryz.prog 3=true:=by kernel_rfl
theorem ty3:uh Tryz.prog 3=false:=by kernel_rfl
theorem tk3:bp Tryz.prog 3=(.int .i64):=by kernel_rfl
theorem ts3:al Tryz.prog 3=1:=by kernel_rfl
theorem tz3:cq Tryz.prog 3=(some [.int .i64 (0)]):=by kernel_rfl
theorem ti3:ti Tryz.prog 3=⟨1,8,(some false),none,(.int .i64),(some [.int .i64 (0)])⟩:=by kernel_rfl
theorem tk4:bp Tryz.prog 4 = .bool:=by kernel_rfl
theorem ti4:ti Tryz.prog 4=⟨1,1,(some false),none,.bool,(some [.bool false])⟩:=by kernel_rfl
theorem tk5:bp Tryz.prog 5=(.int .u8):=by kernel_rfl
theorem tk9:bp Tryz.prog 9 = .str:=by kernel_rfl
theorem te9:da Tryz.prog 9=none:=by kernel_rfl
theorem ts9:al Tryz.prog 9=1:=by kernel_rfl
theorem tz9:cq Tryz.prog 9=(some [.str []]):=by kernel_rfl
theorem ti9:ti Tryz.prog 9=⟨1,16,(some false),none,.str,(some [.str []])⟩:=by kernel_rfl
theorem tn22:tint Tryz.prog 22=false:=by kernel_rfl
theorem tk22:bp Tryz.prog 22 = .slice:=by kernel_rfl
theorem te22:da Tryz.prog 22=(some 62):=by kernel_rfl
theorem ti22:ti Tryz.prog 22=⟨1,24,(some false),(some 62),.slice,(some [.nil])⟩:=by kernel_rfl
theorem tn23:tint Tryz.prog 23=false:=by kernel_rfl
theorem tk23:bp Tryz.prog 23 = .slice:=by kernel_rfl
theorem te23:da Tryz.prog 23=(some 88):=by kernel_rfl
theorem ti23:ti Tryz.prog 23=⟨1,24,(some false),(some 88),.slice,(some [.nil])⟩:=by kernel_rfl
theorem tn24:tint Tryz.prog 24=false:=by kernel_rfl
theorem tk24:bp Tryz.prog 24 = .slice:=by kernel_rfl
theorem te24:da Tryz.prog 24=(some 78):=by kernel_rfl
theorem ti24:ti Tryz.prog 24=⟨1,24,(some false),(some 78),.slice,(some [.nil])⟩:=by kernel_rfl
theorem pl26:dy Tryz.prog 26=(some [(0,1),(1,1),(2,1),(3,1)]):=by kernel_rfl
theorem tf26_0:bg Tryz.prog 26 0=(some (0,24)):=by kernel_rfl
theorem tf26_1:bg Tryz.prog 26 1=(some (1,3)):=by kernel_rfl
theorem tf26_2:bg Tryz.prog 26 2=(some (2,3)):=by kernel_rfl
theorem tf26_3:bg Tryz.prog 26 3=(some (3,3)):=by kernel_rfl
theorem tz26:cq Tryz.prog 26=(some [.nil,.int .i64 (0),.int .i64 (0),.int .i64 (0)]):=by kernel_rfl
theorem ti26:ti Tryz.prog 26=⟨4,48,(some true),none,.other,(some [.nil,.int .i64 (0),.int .i64 (0),.int .i64 (0)])⟩:=by kernel_rfl
theorem pl28:dy Tryz.prog 28=(some [(0,1),(1,1),(2,4),(6,1)]):=by kernel_rfl
theorem tf28_0:bg Tryz.prog 28 0=(some (0,22)):=by kernel_rfl
theorem tf28_1:bg Tryz.prog 28 1=(some (1,23)):=by kernel_rfl
theorem tf28_2:bg Tryz.prog 28 2=(some (2,26)):=by kernel_rfl
theorem tf28_3:bg Tryz.prog 28 3=(some (6,3)):=by kernel_rfl
theorem tz28:cq Tryz.prog 28=(some [.nil,.nil,.nil,.int .i64 (0),.int .i64 (0),.int .i64 (0),.int .i64 (0)]):=by kernel_rfl
theorem ti28:ti Tryz.prog 28=⟨7,104,(some true),none,.other,(some [.nil,.nil,.nil,.int .i64 (0),.int .i64 (0),.int .i64 (0),.int .i64 (0)])⟩:=by kernel_rfl
theorem tk29:bp Tryz.prog 29=(.int .i64):=by kernel_rfl
theorem tz29:cq Tryz.prog 29=(some [.int .i64 (0)]):=by kernel_rfl
theorem ti29:ti Tryz.prog 29=⟨1,8,(some false),none,(.int .i64),(some [.int .i64 (0)])⟩:=by kernel_rfl
theorem tn38:tint Tryz.prog 38=false:=by kernel_rfl
theorem tk38:bp Tryz.prog 38 = .slice:=by kernel_rfl
theorem te38:da Tryz.prog 38=(some 81):=by kernel_rfl
theorem ti38:ti Tryz.prog 38=⟨1,24,(some false),(some 81),.slice,(some [.nil])⟩:=by kernel_rfl
theorem pl40:dy Tryz.prog 40=(some [(0,1),(1,1),(2,1),(3,1),(4,1),(5,1),(6,1),(7,1),(8,1),(9,1)]):=by kernel_rfl
theorem tf40_0:bg Tryz.prog 40 0=(some (0,3)):=by kernel_rfl
theorem tf40_1:bg Tryz.prog 40 1=(some (1,9)):=by kernel_rfl
theorem tf40_2:bg Tryz.prog 40 2=(some (2,9)):=by kernel_rfl
theorem tf40_3:bg Tryz.prog 40 3=(some (3,9)):=by kernel_rfl
theorem tf40_4:bg Tryz.prog 40 4=(some (4,9)):=by kernel_rfl
theorem tf40_5:bg Tryz.prog 40 5=(some (5,9)):=by kernel_rfl
theorem tf40_6:bg Tryz.prog 40 6=(some (6,3)):=by kernel_rfl
theorem tf40_7:bg Tryz.prog 40 7=(some (7,3)):=by kernel_rfl
theorem tf40_8:bg Tryz.prog 40 8=(some (8,3)):=by kernel_rfl
theorem tf40_9:bg Tryz.prog 40 9=(some (9,38)):=by kernel_rfl
theorem tz40:cq Tryz.prog 40=(some [.int .i64 (0),.str [],.str [],.str [],.str [],.str [],.int .i64 (0),.int .i64 (0),.int .i64 (0),.nil]):=by kernel_rfl
theorem ti40:ti Tryz.prog 40=⟨10,136,(some true),none,.other,(some [.int .i64 (0),.str [],.str [],.str [],.str [],.str [],.int .i64 (0),.int .i64 (0),.int .i64 (0),.nil])⟩:=by kernel_rfl
theorem tn41:tint Tryz.prog 41=false:=by kernel_rfl
theorem tk41:bp Tryz.prog 41 = .slice:=by kernel_rfl
theorem te41:da Tryz.prog 41=(some 72):=by kernel_rfl
theorem ts41:al Tryz.prog 41=1:=by kernel_rfl
theorem tz41:cq Tryz.prog 41=(some [.nil]):=by kernel_rfl
theorem ti41:ti Tryz.prog 41=⟨1,24,(some false),(some 72),.slice,(some [.nil])⟩:=by kernel_rfl
theorem tn42:tint Tryz.prog 42=false:=by kernel_rfl
theorem tk42:bp Tryz.prog 42 = .slice:=by kernel_rfl
theorem te42:da Tryz.prog 42=(some 70):=by kernel_rfl
theorem ti42:ti Tryz.prog 42=⟨1,24,(some false),(some 70),.slice,(some [.nil])⟩:=by kernel_rfl
theorem pl44:dy Tryz.prog 44=(some [(0,1),(1,1),(2,1),(3,1),(4,1)]):=by kernel_rfl
theorem tf44_0:bg Tryz.prog 44 0=(some (0,4)):=by kernel_rfl
theorem tf44_1:bg Tryz.prog 44 1=(some (1,41)):=by kernel_rfl
theorem tf44_2:bg Tryz.prog 44 2=(some (2,42)):=by kernel_rfl
theorem tf44_3:bg Tryz.prog 44 3=(some (3,3)):=by kernel_rfl
theorem tf44_4:bg Tryz.prog 44 4=(some (4,4)):=by kernel_rfl
theorem tz44:cq Tryz.prog 44=(some [.bool false,.nil,.nil,.int .i64 (0),.bool false]):=by kernel_rfl
theorem ti44:ti Tryz.prog 44=⟨5,72,(some true),none,.other,(some [.bool false,.nil,.nil,.int .i64 (0),.bool false])⟩:=by kernel_rfl
theorem pl46:dy Tryz.prog 46=(some [(0,1),(1,1),(2,5)]):=by kernel_rfl
theorem tf46_0:bg Tryz.prog 46 0=(some (0,29)):=by kernel_rfl
theorem tf46_1:bg Tryz.prog 46 1=(some (1,3)):=by kernel_rfl
theorem tf46_2:bg Tryz.prog 46 2=(some (2,44)):=by kernel_rfl
theorem tz46:cq Tryz.prog 46=(some [.int .i64 (0),.int .i64 (0),.bool false,.nil,.nil,.int .i64 (0),.bool false]):=by kernel_rfl
theorem ti46:ti Tryz.prog 46=⟨7,88,(some true),none,.other,(some [.int .i64 (0),.int .i64 (0),.bool false,.nil,.nil,.int .i64 (0),.bool false])⟩:=by kernel_rfl
theorem pl60:dy Tryz.prog 60=(some [(0,1),(1,1),(2,1)]):=by kernel_rfl
theorem tf60_0:bg Tryz.prog 60 0=(some (0,41)):=by kernel_rfl
theorem tf60_1:bg Tryz.prog 60 1=(some (1,3)):=by kernel_rfl
theorem tf60_2:bg Tryz.prog 60 2=(some (2,42)):=by kernel_rfl
theorem tz60:cq Tryz.prog 60=(some [.nil,.int .i64 (0),.nil]):=by kernel_rfl
theorem ti60:ti Tryz.prog 60=⟨3,56,(some true),none,.other,(some [.nil,.int .i64 (0),.nil])⟩:=by kernel_rfl
theorem pl62:dy Tryz.prog 62=(some [(0,1),(1,3)]):=by kernel_rfl
theorem tf62_0:bg Tryz.prog 62 0=(some (0,9)):=by kernel_rfl
theorem tf62_1:bg Tryz.prog 62 1=(some (1,60)):=by kernel_rfl
theorem ts62:al Tryz.prog 62=4:=by kernel_rfl
theorem tb62:co Tryz.prog 62=72:=by kernel_rfl
theorem tz62:cq Tryz.prog 62=(some [.str [],.nil,.int .i64 (0),.nil]):=by kernel_rfl
theorem ti62:ti Tryz.prog 62=⟨4,72,(some true),none,.other,(some [.str [],.nil,.int .i64 (0),.nil])⟩:=by kernel_rfl
theorem pl70:dy Tryz.prog 70=(some [(0,1),(1,1),(2,1)]):=by kernel_rfl
theorem tf70_0:bg Tryz.prog 70 0=(some (0,3)):=by kernel_rfl
theorem tf70_1:bg Tryz.prog 70 1=(some (1,9)):=by kernel_rfl
theorem tf70_2:bg Tryz.prog 70 2=(some (2,38)):=by kernel_rfl
theorem ts70:al Tryz.prog 70=3:=by kernel_rfl
theorem tb70:co Tryz.prog 70=48:=by kernel_rfl
theorem tz70:cq Tryz.prog 70=(some [.int .i64 (0),.str [],.nil]):=by kernel_rfl
theorem ti70:ti Tryz.prog 70=⟨3,48,(some true),none,.other,(some [.int .i64 (0),.str [],.nil])⟩:=by kernel_rfl
theorem pl72:dy Tryz.prog 72=(some [(0,1),(1,1),(2,1),(3,1)]):=by kernel_rfl
theorem tf72_0:bg Tryz.prog 72 0=(some (0,9)):=by kernel_rfl
theorem tf72_1:bg Tryz.prog 72 1=(some (1,4)):=by kernel_rfl
theorem tf72_2:bg Tryz.prog 72 2=(some (2,9)):=by kernel_rfl
theorem tf72_3:bg Tryz.prog 72 3=(some (3,3)):=by kernel_rfl
theorem tk72:bp Tryz.prog 72=(.flat [2,0,2,1]):=by kernel_rfl
theorem ts72:al Tryz.prog 72=4:=by kernel_rfl
theorem tb72:co Tryz.prog 72=48:=by kernel_rfl
theorem tz72:cq Tryz.prog 72=(some [.str [],.bool false,.str [],.int .i64 (0)]):=by kernel_rfl
theorem ti72:ti Tryz.prog 72=⟨4,48,(some true),none,(.flat [2,0,2,1]),(some [.str [],.bool false,.str [],.int .i64 (0)])⟩:=by kernel_rfl
theorem pl78:dy Tryz.prog 78=(some [(0,1),(1,1),(2,1),(3,1),(4,1)]):=by kernel_rfl
theorem tf78_0:bg Tryz.prog 78 0=(some (0,3)):=by kernel_rfl
theorem tf78_1:bg Tryz.prog 78 1=(some (1,9)):=by kernel_rfl
theorem tf78_2:bg Tryz.prog 78 2=(some (2,9)):=by kernel_rfl
theorem tf78_3:bg Tryz.prog 78 3=(some (3,3)):=by kernel_rfl
theorem tf78_4:bg Tryz.prog 78 4=(some (4,3)):=by kernel_rfl
theorem tk78:bp Tryz.prog 78=(.flat [1,2,2,1,1]):=by kernel_rfl
theorem ts78:al Tryz.prog 78=5:=by kernel_rfl
theorem tb78:co Tryz.prog 78=56:=by kernel_rfl
theorem tz78:cq Tryz.prog 78=(some [.int .i64 (0),.str [],.str [],.int .i64 (0),.int .i64 (0)]):=by kernel_rfl
theorem ti78:ti Tryz.prog 78=⟨5,56,(some true),none,(.flat [1,2,2,1,1]),(some [.int .i64 (0),.str [],.str [],.int .i64 (0),.int .i64 (0)])⟩:=by kernel_rfl
theorem pl81:dy Tryz.prog 81=(some [(0,1),(1,1),(2,1),(3,1),(4,1)]):=by kernel_rfl
theorem tf81_0:bg Tryz.prog 81 0=(some (0,3)):=by kernel_rfl
theorem tf81_1:bg Tryz.prog 81 1=(some (1,9)):=by kernel_rfl
theorem tf81_2:bg Tryz.prog 81 2=(some (2,9)):=by kernel_rfl
theorem tf81_3:bg Tryz.prog 81 3=(some (3,9)):=by kernel_rfl
theorem tf81_4:bg Tryz.prog 81 4=(some (4,3)):=by kernel_rfl
theorem tk81:bp Tryz.prog 81=(.flat [1,2,2,2,1]):=by kernel_rfl
theorem ts81:al Tryz.prog 81=5:=by kernel_rfl
theorem tb81:co Tryz.prog 81=64:=by kernel_rfl
theorem tz81:cq Tryz.prog 81=(some [.int .i64 (0),.str [],.str [],.str [],.int .i64 (0)]):=by kernel_rfl
theorem ti81:ti Tryz.prog 81=⟨5,64,(some true),none,(.flat [1,2,2,2,1]),(some [.int .i64 (0),.str [],.str [],.str [],.int .i64 (0)])⟩:=by kernel_rfl
theorem pl88:dy Tryz.prog 88=(some [(0,1),(1,1),(2,1)]):=by kernel_rfl
theorem tf88_0:bg Tryz.prog 88 0=(some (0,9)):=by kernel_rfl
theorem tf88_1:bg Tryz.prog 88 1=(some (1,9)):=by kernel_rfl
theorem tf88_2:bg Tryz.prog 88 2=(some (2,3)):=by kernel_rfl
theorem tk88:bp Tryz.prog 88=(.flat [2,2,1]):=by kernel_rfl
theorem ts88:al Tryz.prog 88=3:=by kernel_rfl
theorem tb88:co Tryz.prog 88=40:=by kernel_rfl
theorem tz88:cq Tryz.prog 88=(some [.str [],.str [],.int .i64 (0)]):=by kernel_rfl
theorem ti88:ti Tryz.prog 88=⟨3,40,(some true),none,(.flat [2,2,1]),(some [.str [],.str [],.int .i64 (0)])⟩:=by kernel_rfl
theorem tk89:bp Tryz.prog 89 = .slice:=by kernel_rfl
theorem te89:da Tryz.prog 89=(some 9):=by kernel_rfl
theorem pl94:dy Tryz.prog 94=(some [(0,7),(7,10)]):=by kernel_rfl
theorem tf94_0:bg Tryz.prog 94 0=(some (0,28)):=by kernel_rfl
theorem tf94_1:bg Tryz.prog 94 1=(some (7,40)):=by kernel_rfl
theorem tz94:cq Tryz.prog 94=(some [.nil,.nil,.nil,.int .i64 (0),.int .i64 (0),.int .i64 (0),.int .i64 (0),.int .i64 (0),.str [],.str [],.str [],.str [],.str [],.int .i64 (0),.int .i64 (0),.int .i64 (0),.nil]):=by kernel_rfl
theorem ti94:ti Tryz.prog 94=⟨17,240,(some true),none,.other,(some [.nil,.nil,.nil,.int .i64 (0),.int .i64 (0),.int .i64 (0),.int .i64 (0),.int .i64 (0),.str [],.str [],.str [],.str [],.str [],.int .i64 (0),.int .i64 (0),.int .i64 (0),.nil])⟩:=by kernel_rfl
theorem tk117:bp Tryz.prog 117 = .slice:=by kernel_rfl
theorem te117:da Tryz.prog 117=(some 41):=by kernel_rfl
theorem tm132:tmap Tryz.prog 132=some 4:=by kernel_rfl
theorem tk132:bp Tryz.prog 132 = .other:=by kernel_rfl
theorem pl153:dy Tryz.prog 153=(some [(0,3),(3,1)]):=by kernel_rfl
theorem zyi:bg Tryz.prog 153 0=(some (0,60)):=by kernel_rfl
theorem z1q:bg Tryz.prog 153 1=(some (3,41)):=by kernel_rfl
theorem tz153:cq Tryz.prog 153=(some [.nil,.int .i64 (0),.nil,.nil]):=by kernel_rfl
theorem ti153:ti Tryz.prog 153=⟨4,80,(some true),none,.other,(some [.nil,.int .i64 (0),.nil,.nil])⟩:=by kernel_rfl
theorem ty173:uh Tryz.prog 173=false:=by kernel_rfl
theorem tk173:bp Tryz.prog 173=(.int .u64):=by kernel_rfl
theorem tz187:cq Tryz.prog 187=(some [.bad]):=by kernel_rfl
theorem ti187:ti Tryz.prog 187=⟨1,8,(some false),none,.other,(some [.bad])⟩:=by kernel_rfl
theorem tk189:bp Tryz.prog 189 = .slice:=by kernel_rfl
theorem te189:da Tryz.prog 189=(some 3):=by kernel_rfl
theorem fb3:aw Tryz.prog 3=true:=by kernel_rfl
theorem fb6:aw Tryz.prog 6=true:=by kernel_rfl
theorem fb7:aw Tryz.prog 7=true:=by kernel_rfl
theorem fb8:aw Tryz.prog 8=true:=by kernel_rfl
theorem fb9:aw Tryz.prog 9=true:=by kernel_rfl
theorem fb12:aw Tryz.prog 12=true:=by kernel_rfl
theorem fb13:aw Tryz.prog 13=true:=by kernel_rfl
theorem fb14:aw Tryz.prog 14=true:=by kernel_rfl
theorem fb15:aw Tryz.prog 15=true:=by kernel_rfl
theorem fb16:aw Tryz.prog 16=true:=by kernel_rfl
theorem fb18:aw Tryz.prog 18=true:=by kernel_rfl
theorem fb20:aw Tryz.prog 20=true:=by kernel_rfl
theorem fb21:aw Tryz.prog 21=true:=by kernel_rfl
theorem fb22:aw Tryz.prog 22=true:=by kernel_rfl
theorem fb23:aw Tryz.prog 23=true:=by kernel_rfl
theorem fb24:aw Tryz.prog 24=true:=by kernel_rfl
theorem fb25:aw Tryz.prog 25=true:=by kernel_rfl
theorem fb31:aw Tryz.prog 31=true:=by kernel_rfl
theorem fb32:aw Tryz.prog 32=true:=by kernel_rfl
theorem fb33:aw Tryz.prog 33=true:=by kernel_rfl
theorem fb34:aw Tryz.prog 34=true:=by kernel_rfl
theorem fb35:aw Tryz.prog 35=true:=by kernel_rfl
theorem fb36:aw Tryz.prog 36=true:=by kernel_rfl
theorem fb37:aw Tryz.prog 37=true:=by kernel_rfl
theorem fb38:aw Tryz.prog 38=true:=by kernel_rfl
theorem fb39:aw Tryz.prog 39=true:=by kernel_rfl
theorem fb40:aw Tryz.prog 40=true:=by kernel_rfl
theorem fb44:aw Tryz.prog 44=true:=by kernel_rfl
theorem fb45:aw Tryz.prog 45=true:=by kernel_rfl
theorem fb57:aw Tryz.prog 57=true:=by kernel_rfl
theorem fb58:aw Tryz.prog 58=true:=by kernel_rfl
theorem fb59:aw Tryz.prog 59=true:=by kernel_rfl
theorem fb60:aw Tryz.prog 60=true:=by kernel_rfl
theorem fb61:aw Tryz.prog 61=true:=by kernel_rfl
theorem fb62:aw Tryz.prog 62=true:=by kernel_rfl
theorem fb63:aw Tryz.prog 63=true:=by kernel_rfl
theorem fb65:aw Tryz.prog 65=true:=by kernel_rfl
theorem fb66:aw Tryz.prog 66=true:=by kernel_rfl
theorem fb67:aw Tryz.prog 67=true:=by kernel_rfl
theorem fb68:aw Tryz.prog 68=true:=by kernel_rfl
theorem fb69:aw Tryz.prog 69=true:=by kernel_rfl
theorem fb70:aw Tryz.prog 70=true:=by kernel_rfl
theorem fb71:aw Tryz.prog 71=true:=by kernel_rfl
theorem fb72:aw Tryz.prog 72=true:=by kernel_rfl
theorem fb73:aw Tryz.prog 73=true:=by kernel_rfl
theorem fb74:aw Tryz.prog 74=true:=by kernel_rfl
theorem fb75:aw Tryz.prog 75=true:=by kernel_rfl
theorem fb76:aw Tryz.prog 76=true:=by kernel_rfl
theorem fb78:aw Tryz.prog 78=true:=by kernel_rfl
theorem fb79:aw Tryz.prog 79=true:=by kernel_rfl
theorem fb80:aw Tryz.prog 80=true:=by kernel_rfl
theorem fb81:aw Tryz.prog 81=true:=by kernel_rfl
theorem fb82:aw Tryz.prog 82=true:=by kernel_rfl
theorem fb83:aw Tryz.prog 83=true:=by kernel_rfl
theorem fb84:aw Tryz.prog 84=true:=by kernel_rfl
theorem fb85:aw Tryz.prog 85=true:=by kernel_rfl
theorem fb86:aw Tryz.prog 86=true:=by kernel_rfl
theorem fb87:aw Tryz.prog 87=true:=by kernel_rfl
theorem fb88:aw Tryz.prog 88=true:=by kernel_rfl
theorem fb89:aw Tryz.prog 89=true:=by kernel_rfl
theorem fb90:aw Tryz.prog 90=true:=by kernel_rfl
theorem fb91:aw Tryz.prog 91=true:=by kernel_rfl
theorem fb98:aw Tryz.prog 98=true:=by kernel_rfl
theorem fb99:aw Tryz.prog 99=true:=by kernel_rfl
theorem fb100:aw Tryz.prog 100=true:=by kernel_rfl
theorem fb101:aw Tryz.prog 101=true:=by kernel_rfl
theorem fb102:aw Tryz.prog 102=true:=by kernel_rfl
theorem fb103:aw Tryz.prog 103=true:=by kernel_rfl
theorem fb104:aw Tryz.prog 104=true:=by kernel_rfl
theorem fb105:aw Tryz.prog 105=true:=by kernel_rfl
theorem fb106:aw Tryz.prog 106=true:=by kernel_rfl
theorem fb107:aw Tryz.prog 107=true:=by kernel_rfl
theorem fb108:aw Tryz.prog 108=true:=by kernel_rfl
theorem fb111:aw Tryz.prog 111=true:=by kernel_rfl
theorem fb112:aw Tryz.prog 112=true:=by kernel_rfl
theorem fb113:aw Tryz.prog 113=true:=by kernel_rfl
theorem fb114:aw Tryz.prog 114=true:=by kernel_rfl
theorem fb115:aw Tryz.prog 115=true:=by kernel_rfl
theorem fb116:aw Tryz.prog 116=true:=by kernel_rfl
theorem fb117:aw Tryz.prog 117=true:=by kernel_rfl
theorem fb118:aw Tryz.prog 118=true:=by kernel_rfl
theorem fb119:aw Tryz.prog 119=true:=by kernel_rfl
theorem fb120:aw Tryz.prog 120=true:=by kernel_rfl
theorem fb121:aw Tryz.prog 121=true:=by kernel_rfl
theorem fb122:aw Tryz.prog 122=true:=by kernel_rfl
theorem fb123:aw Tryz.prog 123=true:=by kernel_rfl
theorem fb124:aw Tryz.prog 124=true:=by kernel_rfl
theorem fb125:aw Tryz.prog 125=true:=by kernel_rfl
theorem fb126:aw Tryz.prog 126=true:=by kernel_rfl
theorem fb127:aw Tryz.prog 127=true:=by kernel_rfl
theorem fb128:aw Tryz.prog 128=true:=by kernel_rfl
theorem fb129:aw Tryz.prog 129=true:=by kernel_rfl
theorem fb131:aw Tryz.prog 131=true:=by kernel_rfl
theorem fb132:aw Tryz.prog 132=true:=by kernel_rfl
theorem fb133:aw Tryz.prog 133=true:=by kernel_rfl
theorem fb134:aw Tryz.prog 134=true:=by kernel_rfl
theorem fb135:aw Tryz.prog 135=true:=by kernel_rfl
theorem fb136:aw Tryz.prog 136=true:=by kernel_rfl
theorem fb140:aw Tryz.prog 140=true:=by kernel_rfl
theorem fb141:aw Tryz.prog 141=true:=by kernel_rfl
theorem fb142:aw Tryz.prog 142=true:=by kernel_rfl
theorem fb143:aw Tryz.prog 143=true:=by kernel_rfl
theorem fb146:aw Tryz.prog 146=true:=by kernel_rfl
theorem fb148:aw Tryz.prog 148=true:=by kernel_rfl
theorem fb149:aw Tryz.prog 149=true:=by kernel_rfl
theorem fb152:aw Tryz.prog 152=true:=by kernel_rfl
theorem fb153:aw Tryz.prog 153=true:=by kernel_rfl
theorem fb154:aw Tryz.prog 154=true:=by kernel_rfl
theorem fb155:aw Tryz.prog 155=true:=by kernel_rfl
theorem fb156:aw Tryz.prog 156=true:=by kernel_rfl
theorem fb157:aw Tryz.prog 157=true:=by kernel_rfl
theorem fb158:aw Tryz.prog 158=true:=by kernel_rfl
theorem fb159:aw Tryz.prog 159=true:=by kernel_rfl
theorem fb169:aw Tryz.prog 169=true:=by kernel_rfl
theorem fb170:aw Tryz.prog 170=true:=by kernel_rfl
theorem fb171:aw Tryz.prog 171=true:=by kernel_rfl
theorem fb173:aw Tryz.prog 173=true:=by kernel_rfl
theorem fb174:aw Tryz.prog 174=true:=by kernel_rfl
theorem fb175:aw Tryz.prog 175=true:=by kernel_rfl
theorem fb177:aw Tryz.prog 177=true:=by kernel_rfl
theorem fb178:aw Tryz.prog 178=true:=by kernel_rfl
theorem fb180:aw Tryz.prog 180=true:=by kernel_rfl
theorem fb183:aw Tryz.prog 183=true:=by kernel_rfl
theorem fb186:aw Tryz.prog 186=true:=by kernel_rfl
theorem fb187:aw Tryz.prog 187=true:=by kernel_rfl
theorem fb188:aw Tryz.prog 188=true:=by kernel_rfl
theorem fb189:aw Tryz.prog 189=true:=by kernel_rfl
theorem fb190:aw Tryz.prog 190=true:=by kernel_rfl
theorem fb191:aw Tryz.prog 191=true:=by kernel_rfl
theorem fb194:aw Tryz.prog 194=true:=by kernel_rfl
theorem fb196:aw Tryz.prog 196=true:=by kernel_rfl
theorem fb197:aw Tryz.prog 197=true:=by kernel_rfl
theorem fb198:aw Tryz.prog 198=true:=by kernel_rfl
theorem fb199:aw Tryz.prog 199=true:=by kernel_rfl
theorem fb200:aw Tryz.prog 200=true:=by kernel_rfl
theorem fb201:aw Tryz.prog 201=true:=by kernel_rfl
theorem fb205:aw Tryz.prog 205=true:=by kernel_rfl
theorem cj:Tryz.prog.follows .mixedOrders=true:=by kernel_rfl
attribute [go_sem] tn3 ty3 tk3 ts3 tz3 ti3 tk4 ti4 tk5 tk9 te9 ts9 tz9 ti9 tn22 tk22 te22 ti22 tn23 tk23 te23 ti23 tn24 tk24 te24 ti24 pl26 tf26_0 tf26_1 tf26_2 tf26_3 tz26 ti26 pl28 tf28_0 tf28_1 tf28_2 tf28_3 tz28 ti28 tk29 tz29 ti29 tn38 tk38 te38 ti38 pl40 tf40_0 tf40_1 tf40_2 tf40_3 tf40_4 tf40_5 tf40_6 tf40_7 tf40_8 tf40_9 tz40 ti40 tn41 tk41 te41 ts41 tz41 ti41 tn42 tk42 te42 ti42 pl44 tf44_0 tf44_1 tf44_2 tf44_3 tf44_4 tz44 ti44 pl46 tf46_0 tf46_1 tf46_2 tz46 ti46 pl60 tf60_0 tf60_1 tf60_2 tz60 ti60 pl62 tf62_0 tf62_1 ts62 tb62 tz62 ti62 pl70 tf70_0 tf70_1 tf70_2 ts70 tb70 tz70 ti70 pl72 tf72_0 tf72_1 tf72_2 tf72_3 tk72 ts72 tb72 tz72 ti72 pl78 tf78_0 tf78_1 tf78_2 tf78_3 tf78_4 tk78 ts78 tb78 tz78 ti78 pl81 tf81_0 tf81_1 tf81_2 tf81_3 tf81_4 tk81 ts81 tb81 tz81 ti81 pl88 tf88_0 tf88_1 tf88_2 tk88 ts88 tb88 tz88 ti88 tk89 te89 pl94 tf94_0 tf94_1 tz94 ti94 tk117 te117 tm132 tk132 pl153 zyi z1q tz153 ti153 ty173 tk173 tz187 ti187 tk189 te189
end Go.VM.Tryz
end
section
open Go Go.VM Go.Proofs Tether
namespace Go.VM.Tryz.Gr
theorem vh (f:Nat) (caps:List V) (hc:ltrs 0 caps=true) (p:Grant→Bool) (l:List Grant) (hp:∀ x∈l,Meets Tryz.prog f (.agg (Grant.enc x)::caps) (.bool (p x)) []) (hl:l.length<4611686018427387904) :
  Meets Tryz.prog 132 [lstV 3 Grant.enc default l,.fn f [] caps] (.int .i64 (idxF p l)) []:=by
 refine an (fn:=Tryz.f132) Tryz.func132 rfl fb132 (by kernel_rfl) (Nat.le_of_ble_eq_true rfl) ?_
 refine aa ?_
 simp only[go_sem]
 repeat first|(with_reducible refine ad ?_ ?_;exact byD)|(with_reducible refine ae ?_ ?_;exact byQ)
 refine ab ?_
 refine aa ?_
 simp only[go_sem]
 refine ai ?_
 refine bm (σ:=Nat) (fun i=>i≤l.length∧∀ j,j<i→p (l.getD j default)=false) (fun i=>[⟨8,0,[],.int .i64 (i:Nat)⟩]) [0,1,7] (fun i=>l.length-i) 0 ⟨Nat.zero_le _,fun j hj=>absurd hj (Nat.not_lt_zero j)⟩ (Nat.zero_le _) byC (fun i hI1=>?_)
 simp only[go_sem]
 refine aa ?_
 simp only[go_sem]
 repeat first|(with_reducible refine ad ?_ ?_;exact byD)|(with_reducible refine ae ?_ ?_;exact byQ)
 intro t9 e9
 subst e9
 refine ab ?_
 refine ah _ rfl (fun h9=>?_) (fun h9=>?_)
 ·
  (try simp only[go_sem] at h9)
  refine ag ?_
  (try simp only[go_sem])
  refine ab (ai ?_)
  refine aa ?_
  simp only[go_sem]
  refine aa ?_
  simp only[go_sem]
  repeat first|(with_reducible refine ad ?_ ?_;exact byD)|(with_reducible refine ae ?_ ?_;exact byQ)
  refine cw_m (hp (l.getD i default) (bj (by omega))) byW byT ?_
  simp only[go_sem]
  refine ah _ rfl (fun h16=>?_) (fun h16=>?_)
  ·
   (try simp only[go_sem] at h16)
   refine aa ?_
   simp only[go_sem]
   refine af ?_
   simp only[go_sem]
   refine am ?_
   rw[qr (by omega) hI1.2 h16]
  ·
   (try simp only[go_sem] at h16)
   refine ag ?_
   (try simp only[go_sem])
   refine aj ?_
   simp only[go_sem]
   intro t18 e18
   (try replace e18:=w64 e18 (by omega) (by omega))
   refine ay (i+1) ⟨by omega,bw hI1.2 h16⟩ (by first|omega|(dsimp only;omega)) byC
 ·
  (try simp only[go_sem] at h9)
  refine bk ?_
  simp only[go_sem]
  refine aa ?_
  simp only[go_sem]
  refine af ?_
  simp only[go_sem]
  refine am ?_
  rw[om fun j hj=>hI1.2 j (by omega)]
theorem li (f:Nat) (caps:List V) (hc:ltrs 0 caps=true) (p:Grant→Bool) (l:List Grant) (hp:∀ x∈l,Meets Tryz.prog f (.agg (Grant.enc x)::caps) (.bool (p x)) []) (hl:l.length<4611686018427387904) :
  Meets Tryz.prog 102 [lstV 3 Grant.enc default l,.fn f [] caps] (.bool (l.any p)) []:=by
 refine an (fn:=Tryz.f102) Tryz.func102 rfl fb102 (by kernel_rfl) (Nat.le_of_ble_eq_true rfl) ?_
 refine aa ?_
 simp only[go_sem]
 repeat first|(with_reducible refine ad ?_ ?_;exact byD)|(with_reducible refine ae ?_ ?_;exact byQ)
 refine aa ?_
 simp only[go_sem]
 refine cw_m (vh f caps hc p l hp hl) byW byT ?_
 simp only[go_sem]
 intro t8 e8
 subst e8
 refine af ?_
 simp only[go_sem]
 refine aq ?_
 rw[← zaf]
theorem ql (l:List Grant) (hl:l.length*40≤140737488355328):Meets Tryz.prog 79 [lstV 3 Grant.enc default l] (.own none 0 3 0 l.length .loose) [.arr 3 l.length (En Grant.enc default l)]:=by
 refine an (fn:=Tryz.f79) Tryz.func79 rfl fb79 (by kernel_rfl) (Nat.le_of_ble_eq_true rfl) ?_
 refine uc 0 rfl fun b hb=>?_
 refine aa ?_
 simp only[go_sem]
 repeat first|(with_reducible refine ad ?_ ?_;exact byD)|(with_reducible refine ae ?_ ?_;exact byQ)
 refine ab ?_
 refine aa ?_
 simp only[go_sem]
 intro t4 e4
 subst e4
 refine ah _ rfl (fun h4=>?_) (fun h4=>?_)
 ·
  (try simp only[go_sem] at h4)
  have hb:=hb h4
  refine aa ?_
  simp only[go_sem]
  refine fp 2 3 (En Grant.enc default l) rfl ?_
  simp only[go_sem]
  refine af ?_
  simp only[go_sem]
  exact ap 1 [0] rfl byC byC byC byC
 ·
  (try simp only[go_sem] at h4)
  refine ag ?_
  (try simp only[go_sem])
  refine aa ?_
  simp only[go_sem]
  repeat first|(with_reducible refine ad ?_ ?_;exact byD)|(with_reducible refine ae ?_ ?_;exact byQ)
  refine af ?_
  simp only[go_sem]
  exact ap 1 [1] rfl byC byC byC byC
theorem zdh (l:List Grant) (i j:Nat) (hij:i≤j) (hj:j≤l.length) (hl:l.length*40≤140737488355328) :
  Does Tryz.prog 133 [.own none 0 3 0 l.length .loose,.int .i64 i,.int .i64 j] [.arr 3 l.length (En Grant.enc default l)]
   (.own none 0 3 0 (l.take i++l.drop j).length .loose) [.arr 3 (l.take i++l.drop j).length (En Grant.enc default (l.take i++l.drop j))]:=by
 have hlen:(l.take i++l.drop j).length=i+(l.length-j):=by simp;omega
 rw[hlen]
 refine eb (fn:=Tryz.f133) Tryz.func133 rfl fb133 (by kernel_rfl) (Nat.le_of_ble_eq_true rfl) ?_
 refine qv 0 rfl fun C hC=>?_
 refine aa ?_
 simp only[go_sem]
 repeat first|(with_reducible refine ad ?_ ?_;exact byD)|(with_reducible refine ae ?_ ?_;exact byQ)
 refine aa ?_
 simp only[go_sem]
 repeat first|(with_reducible refine ad ?_ ?_;exact byD)|(with_reducible refine ae ?_ ?_;exact byQ)
 refine ab ?_
 refine aa ?_
 simp only[go_sem]
 intro t16 e16
 subst e16
 refine ah _ rfl (fun h16=>?_) (fun h16=>?_)
 ·
  (try simp only[go_sem] at h16)
  refine aa ?_
  simp only[go_sem]
  refine af ?_
  simp only[go_sem]
  have hi:i=j:=by omega
  subst hi
  rw[List.take_append_drop]
  have:i+(l.length-i)=l.length:=by omega
  rw[this]
  exact⟨[0],rfl,rfl,byC,byC⟩
 ·
  (try simp only[go_sem] at h16)
  refine ag ?_
  (try simp only[go_sem])
  refine aa ?_
  simp only[go_sem]
  refine ab (bc cj [6] (.first 0 (.first 1 (.first 2 (.first 3 (.first 4 (.first 5 (.one 6 (.first 7 (.done))))))))) (by kernel_rfl) ?_)
  simp only[go_sem]
  repeat first|(with_reducible refine ad ?_ ?_;exact byD)|(with_reducible refine ae ?_ ?_;exact byQ)
  refine⟨fun hC26=>?_,fun hC26=>absurd hC26 (by omega)⟩
  refine aa ?_
  simp only[go_sem]
  repeat first|(with_reducible refine ad ?_ ?_;exact byD)|(with_reducible refine ae ?_ ?_;exact byQ)
  refine aa ?_
  simp only[go_sem]
  refine af ?_
  simp only[go_sem]
  refine⟨[0],rfl,rfl, ?_, ?_⟩
  ·exact byC
  ·simp only[go_sem,wk,wks,wkB,wkH]
   exact⟨by omega,fun q hq=>yz (fun _=>rfl) hij hj hq⟩
theorem ui (f:Nat) (caps:List V) (hc:ltrs 0 caps=true) (p:Str→Bool) (l:List Str) (hp:∀ x∈l,Meets Tryz.prog f (.str x::caps) (.bool (p x)) []) (hl:l.length<4611686018427387904) :
  Meets Tryz.prog 135 [lstV 1 strE [] l,.fn f [] caps] (.int .i64 (idxF p l)) []:=by
 refine an (fn:=Tryz.f135) Tryz.func135 rfl fb135 (by kernel_rfl) (Nat.le_of_ble_eq_true rfl) ?_
 refine aa ?_
 simp only[go_sem]
 repeat first|(with_reducible refine ad ?_ ?_;exact byD)|(with_reducible refine ae ?_ ?_;exact byQ)
 refine ab ?_
 refine aa ?_
 simp only[go_sem]
 refine ai ?_
 refine bm (σ:=Nat) (fun i=>i≤l.length∧∀ j,j<i→p (l.getD j [])=false) (fun i=>[⟨8,0,[],.int .i64 (i:Nat)⟩]) [0,1,7] (fun i=>l.length-i) 0 ⟨Nat.zero_le _,fun j hj=>absurd hj (Nat.not_lt_zero j)⟩ (Nat.zero_le _) byC (fun i hI1=>?_)
 simp only[go_sem]
 refine aa ?_
 simp only[go_sem]
 repeat first|(with_reducible refine ad ?_ ?_;exact byD)|(with_reducible refine ae ?_ ?_;exact byQ)
 intro t9 e9
 subst e9
 refine ab ?_
 refine ah _ rfl (fun h9=>?_) (fun h9=>?_)
 ·
  (try simp only[go_sem] at h9)
  refine ag ?_
  (try simp only[go_sem])
  refine ab (ai ?_)
  refine aa ?_
  simp only[go_sem]
  refine aa ?_
  simp only[go_sem]
  repeat first|(with_reducible refine ad ?_ ?_;exact byD)|(with_reducible refine ae ?_ ?_;exact byQ)
  refine cw_m (hp (l.getD i []) (bj (by omega))) byW byT ?_
  simp only[go_sem]
  refine ah _ rfl (fun h16=>?_) (fun h16=>?_)
  ·
   (try simp only[go_sem] at h16)
   refine aa ?_
   simp only[go_sem]
   refine af ?_
   simp only[go_sem]
   refine am ?_
   rw[qr (by omega) hI1.2 h16]
  ·
   (try simp only[go_sem] at h16)
   refine ag ?_
   (try simp only[go_sem])
   refine aj ?_
   simp only[go_sem]
   intro t18 e18
   (try replace e18:=w64 e18 (by omega) (by omega))
   refine ay (i+1) ⟨by omega,bw hI1.2 h16⟩ (by first|omega|(dsimp only;omega)) byC
 ·
  (try simp only[go_sem] at h9)
  refine bk ?_
  simp only[go_sem]
  refine aa ?_
  simp only[go_sem]
  refine af ?_
  simp only[go_sem]
  refine am ?_
  rw[om fun j hj=>hI1.2 j (by omega)]
theorem qd (f:Nat) (caps:List V) (hc:ltrs 0 caps=true) (p:Str→Bool) (l:List Str) (hp:∀ x∈l,Meets Tryz.prog f (.str x::caps) (.bool (p x)) []) (hl:l.length<4611686018427387904) :
  Meets Tryz.prog 106 [lstV 1 strE [] l,.fn f [] caps] (.bool (l.any p)) []:=by
 refine an (fn:=Tryz.f106) Tryz.func106 rfl fb106 (by kernel_rfl) (Nat.le_of_ble_eq_true rfl) ?_
 refine aa ?_
 simp only[go_sem]
 repeat first|(with_reducible refine ad ?_ ?_;exact byD)|(with_reducible refine ae ?_ ?_;exact byQ)
 refine aa ?_
 simp only[go_sem]
 refine cw_m (ui f caps hc p l hp hl) byW byT ?_
 simp only[go_sem]
 intro t8 e8
 subst e8
 refine af ?_
 simp only[go_sem]
 refine aq ?_
 rw[← zaf]
theorem zo (f:Nat) (tg:Grant) (c:Grant→Int) (hcmp:∀ x,Meets Tryz.prog f [.agg (Grant.enc x),.agg (Grant.enc tg)] (.int .i64 (c x)) []) (l:List Grant) (hl:l.length<4611686018427387904)
  (k:Nat) (hk:k≤l.length) (h1:∀ j,j<k→c (l.getD j default)<0) (h2:∀ j,k≤j→j<l.length→0≤c (l.getD j default)) :
  Meets Tryz.prog 136 [lstV 3 Grant.enc default l,.agg (Grant.enc tg),.fn f [] []] (.tup [.int .i64 (k:Nat),.bool (decide (k<l.length) && decide (c (l.getD k default)=0))]) []:=by
 refine an (fn:=Tryz.f136) Tryz.func136 rfl fb136 (by kernel_rfl) (Nat.le_of_ble_eq_true rfl) ?_
 refine aa ?_
 simp only[go_sem]
 repeat first|(with_reducible refine ad ?_ ?_;exact byD)|(with_reducible refine ae ?_ ?_;exact byQ)
 refine aa ?_
 simp only[go_sem]
 refine aa ?_
 simp only[go_sem]
 refine ab (ai ?_)
 refine bm (σ:=Nat × Nat) (fun s=>s.1≤k∧k≤s.2∧s.2≤l.length) (fun s=>[⟨9,0,[],.int .i64 (s.1:Nat)⟩,⟨10,0,[],.int .i64 (s.2:Nat)⟩]) [0,2,4,6,7,8] (fun s=>s.2-s.1) (0,l.length) ⟨Nat.zero_le _,hk,Nat.le_refl _⟩ (Nat.zero_le _) byC (fun s hI1=>?_)
 simp only[go_sem]
 refine ab ?_
 refine aa ?_
 simp only[go_sem]
 repeat first|(with_reducible refine ad ?_ ?_;exact byD)|(with_reducible refine ae ?_ ?_;exact byQ)
 intro t17 e17
 subst e17
 refine ah _ rfl (fun h17=>?_) (fun h17=>?_)
 ·
  (try simp only[go_sem] at h17)
  refine ag ?_
  (try simp only[go_sem])
  refine ai ?_
  refine aa ?_
  simp only[go_sem]
  intro t20 e20
  (try replace e20:=w64 e20 (by omega) (by omega))
  repeat first|(with_reducible refine ad ?_ ?_;exact byD)|(with_reducible refine ae ?_ ?_;exact byQ)
  intro t21 e21
  repeat first|(with_reducible refine ad ?_ ?_;exact byD)|(with_reducible refine ae ?_ ?_;exact byQ)
  intro t22 e22
  repeat first|(with_reducible refine ad ?_ ?_;exact byD)|(with_reducible refine ae ?_ ?_;exact byQ)
  intro t23 e23
  have hm:t23=(((s.1+s.2) / 2:Nat):Int):=zlk (by omega) (by omega) e21 e22 e23
  clear e23
  subst hm
  have hlt:(s.1+s.2) / 2<s.2:=by omega
  have hge:s.1≤(s.1+s.2) / 2:=by omega
  refine ab (bc cj [] (.first 0 (.first 1 (.first 2 (.first 3 (.first 4 (.first 5 (.one 6 (.first 7 (.done))))))))) (by kernel_rfl) ?_)
  simp only[go_sem]
  repeat first|(with_reducible refine ad ?_ ?_;exact byD)|(with_reducible refine ae ?_ ?_;exact byQ)
  refine ek (hcmp (l.getD ((s.1+s.2) / 2) default)) byW byT ?_
  simp only[go_sem]
  intro t31 e31
  subst e31
  refine ah _ rfl (fun h31=>?_) (fun h31=>?_)
  ·
   (try simp only[go_sem] at h31)
   refine aj ?_
   simp only[go_sem]
   intro t33 e33
   (try replace e33:=w64 e33 (by omega) (by omega))
   have:(s.1+s.2) / 2<k:=by
    rcases Nat.lt_or_ge ((s.1+s.2) / 2) k with h|h
    ·exact h
    ·have:=h2 _ h (by omega);omega
   refine ay ((s.1+s.2) / 2+1,s.2) ⟨by dsimp only;omega,hI1.2.1,hI1.2.2⟩ (by first|omega|(dsimp only;omega)) byC
  ·
   (try simp only[go_sem] at h31)
   refine aj ?_
   simp only[go_sem]
   have:k≤(s.1+s.2) / 2:=by
    rcases Nat.lt_or_ge ((s.1+s.2) / 2) k with h|h
    ·have:=h1 _ h;omega
    ·exact h
   refine ay (s.1,(s.1+s.2) / 2) ⟨hI1.1,this,by dsimp only;omega⟩ (by first|omega|(dsimp only;omega)) byC
 ·
  (try simp only[go_sem] at h17)
  have hks:s.1=k:=by omega
  refine bk ?_
  simp only[go_sem]
  refine ab (bc cj [] (.first 0 (.first 1 (.first 2 (.first 3 (.first 4 (.first 5 (.first 6 (.first 7 (.first 8 (.first 9 (.first 10 (.one 11 (.first 12 (.first 13 (.first 14 (.first 15 (.done))))))))))))))))) (by kernel_rfl) ?_)
  simp only[go_sem]
  intro t38 e38
  repeat first|(with_reducible refine ad ?_ ?_;exact byD)|(with_reducible refine ae ?_ ?_;exact byQ)
  refine⟨_,fun hp=>ek (hcmp (l.getD s.1 default)) byW byT ⟨rfl,rfl⟩, ?_⟩
  simp only[go_sem]
  intro t47 e47
  intro t48 e48
  rw[ar] at e48
  subst e38 e47 e48
  refine af ?_
  simp only[go_sem]
  rw[← hks]
  refine cy rfl ?_
  exact byC
theorem zcl (l:List Grant) (i:Nat) (x:Grant) (hi:i≤l.length) (hl:(l.length+1)*40≤140737488355328) :
  Does Tryz.prog 134 [.own none 0 3 0 l.length .loose,.int .i64 (i:Nat),.own (some false) 1 3 0 1 (.exact 1)] [.arr 3 l.length (En Grant.enc default l),.arr 3 1 (fun _=>Grant.enc x)]
   (.own none 2 3 0 (l.length+1) .loose) [.dead,.dead,.arr 3 (l.length+1) (En Grant.enc default (l.take i++x::l.drop i))]:=by
 refine eb (fn:=Tryz.f134) Tryz.func134 rfl fb134 (by kernel_rfl) (Nat.le_of_ble_eq_true rfl) ?_
 refine qv 0 rfl fun C hC=>?_
 refine aa ?_
 simp only[go_sem]
 repeat first|(with_reducible refine ad ?_ ?_;exact byD)|(with_reducible refine ae ?_ ?_;exact byQ)
 refine aa ?_
 simp only[go_sem]
 repeat first|(with_reducible refine ad ?_ ?_;exact byD)|(with_reducible refine ae ?_ ?_;exact byQ)
 refine aa ?_
 simp only[go_sem]
 refine ab ?_
 refine aa ?_
 simp only[go_sem]
 intro t16 e16
 subst e16
 refine ah _ rfl (fun h16=>?_) (fun h16=>?_)
 ·simp at h16
 ·
  (try simp only[go_sem] at h16)
  refine ag ?_
  (try simp only[go_sem])
  refine aa ?_
  simp only[go_sem]
  refine ab ?_
  refine aa ?_
  simp only[go_sem]
  intro t22 e22
  subst e22
  refine ah _ rfl (fun h22=>?_) (fun h22=>?_)
  ·
   (try simp only[go_sem] at h22)
   have hil:i=l.length:=by omega
   subst hil
   refine aa ?_
   simp only[go_sem]
   repeat first|(with_reducible refine ad ?_ ?_;exact byD)|(with_reducible refine ae ?_ ?_;exact byQ)
   refine⟨fun hC25=>?_,fun hC25=>?_⟩
   ·
    repeat first|(with_reducible refine ad ?_ ?_;exact byD)|(with_reducible refine ae ?_ ?_;exact byQ)
    refine ix 0 rfl ?_
    simp only[go_sem]
    refine af ?_
    simp only[go_sem]
    refine⟨[0,1,2],rfl,rfl, ?_, ?_⟩
    ·exact byC
    ·simp only[go_sem,wk,wks,wkB,wkH]
     exact⟨by omega,fun q hq=>dh (fun _=>rfl) (zex (fun _=>rfl) rfl hq)⟩
   ·
    repeat first|(with_reducible refine ad ?_ ?_;exact byD)|(with_reducible refine ae ?_ ?_;exact byQ)
    refine ix 0 rfl ?_
    simp only[go_sem]
    refine af ?_
    simp only[go_sem]
    refine⟨[0,1,2],rfl,rfl, ?_, ?_⟩
    ·exact byC
    ·simp only[go_sem,wk,wks,wkB,wkH]
     exact fun q hq=>dh (fun _=>rfl) (zay (fun _=>rfl) rfl hq)
  ·
   (try simp only[go_sem] at h22)
   refine ag ?_
   (try simp only[go_sem])
   refine ab ?_
   refine aa ?_
   simp only[go_sem]
   intro t28 e28
   (try replace e28:=w64 e28 (by omega) (by omega))
   repeat first|(with_reducible refine ad ?_ ?_;exact byD)|(with_reducible refine ae ?_ ?_;exact byQ)
   intro t31 e31
   subst e31
   refine ah _ rfl (fun h31=>?_) (fun h31=>?_)
   ·
    (try simp only[go_sem] at h31)
    refine aa ?_
    simp only[go_sem]
    repeat first|(with_reducible refine ad ?_ ?_;exact byD)|(with_reducible refine ae ?_ ?_;exact byQ)
    intro t37 e37
    (try replace e37:=w64 e37 (by omega) (by omega))
    intro t39 e39
    (try replace e39:=w64 e39 (by omega) (by omega))
    repeat first|(with_reducible refine ad ?_ ?_;exact byD)|(with_reducible refine ae ?_ ?_;exact byQ)
    refine aa ?_
    simp only[go_sem]
    repeat first|(with_reducible refine ad ?_ ?_;exact byD)|(with_reducible refine ae ?_ ?_;exact byQ)
    refine ab (bc cj [8] (.first 0 (.first 1 (.first 2 (.first 3 (.first 4 (.first 5 (.first 6 (.first 7 (.one 8 (.done)))))))))) (by kernel_rfl) ?_)
    simp only[go_sem]
    intro t49 e49
    (try replace e49:=w64 e49 (by omega) (by omega))
    repeat first|(with_reducible refine ad ?_ ?_;exact byD)|(with_reducible refine ae ?_ ?_;exact byQ)
    refine aa ?_
    simp only[go_sem]
    refine af ?_
    simp only[go_sem]
    have h39:t39.toNat=l.length+1-i:=by omega
    have h49:t49.toNat=i+1:=by omega
    refine⟨[0,1,2],rfl,rfl, ?_, ?_⟩
    ·exact byC
    ·simp only[go_sem,wk,wks,wkB,wkH,h39,h49]
     refine⟨by omega,fun q hq=>dh (fun _=>rfl) ?_⟩
     exact zas (fun _=>rfl) (by omega) hq (by omega) (by omega)
   ·
    (try simp only[go_sem] at h31)
    refine ag ?_
    (try simp only[go_sem])
    refine aa ?_
    simp only[go_sem]
    intro t59 e59
    (try replace e59:=w64 e59 (by omega) (by omega))
    repeat first|(with_reducible refine ad ?_ ?_;exact byD)|(with_reducible refine ae ?_ ?_;exact byQ)
    refine ab ?_
    refine aa ?_
    simp only[go_sem]
    intro t65 e65
    (try replace e65:=w64 e65 (by omega) (by omega))
    repeat first|(with_reducible refine ad ?_ ?_;exact byD)|(with_reducible refine ae ?_ ?_;exact byQ)
    refine zok (tS:=23) (tR:=4) Tryz.func167 (by kernel_rfl) (by kernel_rfl) (by kernel_rfl) (by kernel_rfl) te23 rfl rfl (by decide) (by omega) ?_
    simp only[go_sem]
    intro t68 e68
    subst e68
    refine ah _ rfl (fun h68=>?_) (fun h68=>ew h68)
    refine ab (bc cj [8] (.first 0 (.first 1 (.first 2 (.first 3 (.first 4 (.first 5 (.first 6 (.first 7 (.one 8 (.done)))))))))) (by kernel_rfl) ?_)
    simp only[go_sem]
    intro t72 e72
    (try replace e72:=w64 e72 (by omega) (by omega))
    repeat first|(with_reducible refine ad ?_ ?_;exact byD)|(with_reducible refine ae ?_ ?_;exact byQ)
    refine aa ?_
    simp only[go_sem]
    repeat first|(with_reducible refine ad ?_ ?_;exact byD)|(with_reducible refine ae ?_ ?_;exact byQ)
    refine aa ?_
    simp only[go_sem]
    refine ix 0 rfl ?_
    simp only[go_sem]
    refine af ?_
    simp only[go_sem]
    have h59:t59.toNat=l.length+1:=by omega
    have h72:t72.toNat=i+1:=by omega
    refine⟨[0,1,2],rfl,rfl, ?_, ?_⟩
    ·exact byC
    ·simp only[go_sem,wk,wks,wkB,wkH,h59,h72]
     refine⟨by omega,fun q hq=>dh (fun _=>rfl) ?_⟩
     exact zqo (fun _=>rfl) (by omega) hq (by omega) (by omega)
end Go.VM.Tryz.Gr
end
section
open Go Go.VM Go.Proofs
namespace Go.VM.Tryz
set_option maxRecDepth 100000 in
theorem ov (s:ByteArray) (c:Int) (w:World) :
  Calls Tryz.prog 116 #[.string s,.int .u8 c] w fun e w'=>e = .returned (.int .i64 (Lib.indexByte s.data.toList c.toNat.toUInt8))∧w'=w:=by
 go_enter Tryz.func116,Tryz.ntmps116
 go_wp2
 rw[run_callFunc_extern Tryz.func144 (by kernel_rfl) (by kernel_rfl) (by kernel_rfl) (e:=Extern.BytealgIndexByte.indexByte) (by kernel_rfl),Lib.run_indexByteString]
 simp only[Result.andThen]
 rw[Oper.upon_value]
 go_wp2
 go_ret
 exact⟨rfl,rfl⟩
theorem idx0 (s:List UInt8) (c:Int):Meets Tryz.prog 116 [.str s,.int .u8 c] (.int .i64 (Lib.indexByte s c.toNat.toUInt8)) [] :=
 zjk (us0:=#[.string ⟨s.toArray⟩,.int .u8 c]) fb116 (fun c' us hsz hus=>args2 hsz hus (fun u h=>by simpa only [VR] using h) (fun u h=>by simpa only [VR] using h)) (u0:=.int .i64 (Lib.indexByte s c.toNat.toUInt8)) (fun c=>by simp only[VR])
  fun w=>by simpa using ov ⟨s.toArray⟩ c w
theorem zlj (s:List UInt8) (c:Int):Meets Tryz.prog 73 [.str s,.int .u8 c] (.int .i64 (Lib.indexByte s c.toNat.toUInt8)) []:=by
 refine an (fn:=Tryz.f73) Tryz.func73 rfl fb73 (by kernel_rfl) (Nat.le_of_ble_eq_true rfl) ?_
 refine aa ?_
 simp only[go_sem]
 repeat first|(with_reducible refine ad ?_ ?_;exact byD)|(with_reducible refine ae ?_ ?_;exact byQ)
 refine aa ?_
 simp only[go_sem]
 refine cw_m (idx0 s c) byW byT ?_
 simp only[go_sem]
 refine af ?_
 simp only[go_sem]
 exact am rfl
theorem Index1 (s:List UInt8):Meets Tryz.prog 196 [.str s,.str [47]] (.int .i64 (Lib.indexByte s 47)) []:=by
 refine an (fn:=Tryz.f196) Tryz.func196 rfl fb196 (by kernel_rfl) (Nat.le_of_ble_eq_true rfl) ?_
 refine aa ?_
 simp only[go_sem]
 repeat first|(with_reducible refine ad ?_ ?_;exact byD)|(with_reducible refine ae ?_ ?_;exact byQ)
 refine aa ?_
 simp only[go_sem]
 refine ab (ai ?_)
 refine aa ?_
 simp only[go_sem]
 intro t18 e18
 intro t22 e22
 intro t23 e23
 rw[az] at e23
 subst e18 e22 e23
 refine ah _ rfl (fun h16=>?_) (fun h16=>?_)
 ·
  (try simp only[go_sem] at h16)
  refine aa ?_
  simp only[go_sem]
  refine af ?_
  simp only[go_sem]
  have h:[47]=s:=by simpa using h16
  subst h
  exact am (by decide)
 ·
  (try simp only[go_sem] at h16)
  refine aa ?_
  simp only[go_sem]
  intro t26 e26
  subst e26
  refine ah _ rfl (fun h24=>?_) (fun h24=>?_)
  ·
   (try simp only[go_sem] at h24)
   refine aa ?_
   simp only[go_sem]
   repeat first|(with_reducible refine ad ?_ ?_;exact byD)|(with_reducible refine ae ?_ ?_;exact byQ)
   intro t29 e29
   refine cw_m (idx0 s 47) byW byT ?_
   simp only[go_sem]
   refine af ?_
   simp only[go_sem]
   exact am rfl
  ·simp_all
theorem Index (s:List UInt8):Meets Tryz.prog 183 [.str s,.str [47]] (.int .i64 (Lib.indexByte s 47)) []:=by
 refine an (fn:=Tryz.f183) Tryz.func183 rfl fb183 (by kernel_rfl) (Nat.le_of_ble_eq_true rfl) ?_
 refine aa ?_
 simp only[go_sem]
 repeat first|(with_reducible refine ad ?_ ?_;exact byD)|(with_reducible refine ae ?_ ?_;exact byQ)
 refine aa ?_
 simp only[go_sem]
 refine cw_m (Index1 s) byW byT ?_
 simp only[go_sem]
 refine af ?_
 simp only[go_sem]
 exact am rfl
end Go.VM.Tryz
end
section
open Go Go.VM Go.Proofs
namespace Go.VM.Tryz
def pcs:List UInt8→List (List UInt8)
 | []=>[[]]
 | b::r=>if b=47 then []::pcs r else match pcs r with
   | []=>[[b]]
   | x::xs=>(b::x)::xs
theorem zlo:∀ s:List UInt8,(Lib.indexByte s 47 = -1∧pcs s=[s])∨∃ i:Nat,i<s.length∧Lib.indexByte s 47=i∧pcs s=s.take i::pcs (s.drop (i+1))
 | []=>.inl ⟨rfl,rfl⟩
 | b::r=>by
   by_cases h1:b=47
   ·exact .inr ⟨0,by simp,by simp[Lib.indexByte,h1],by simp[pcs,h1]⟩
   ·rcases zlo r with ⟨h2,h3⟩ | ⟨i,h2,h3,h4⟩
    ·exact .inl ⟨by simp[Lib.indexByte,h1,h2],by simp[pcs,h1,h3]⟩
    ·refine .inr ⟨i+1,by simp;omega, ?_,by simp[pcs,h1,h4]⟩
     have:¬ ((i:Int) = -1):=by omega
     simp[Lib.indexByte,h1,h3,this]
theorem ym (s:List UInt8):pcs s≠[]:=by
 rcases zlo s with ⟨_,h⟩ | ⟨i,_,_,h⟩<;>simp[h]
end Go.VM.Tryz
end
section
open Go Go.VM Go.Proofs Go.RowKit Go.Shelf
namespace Go.VM.Tryz
attribute [local go_sem] Oper.semAt_some
theorem zoc (s:List UInt8) (w:World) (gt:GT Tryz.prog w):Calls Tryz.prog 183 #[.string ⟨s.toArray⟩,.string ⟨#[47]⟩] w fun e w'=>e = .returned (.int .i64 (Lib.indexByte s 47))∧KB (fun _=>False) w w':=by
 have h:=(Index s).2 w (fun _=>False) gt (fun _ h=>h.elim) #[.string ⟨s.toArray⟩,.string ⟨#[47]⟩] rfl (by simp[VRs,VR])
 refine h.mono ?_
 rintro e w' ⟨c',u,rfl,rfl,h1,h2⟩
 simp only[VR] at h2
 exact⟨by rw[h2],h1.fr.os,h1.fr.tape,h1.fr.output,h1.fr.size,fun k hk _=>h1.fr.block k hk (fun h=>h)⟩
theorem z2x {W:World} {B:Nat} {v u:Value} {el:TypeId} (h:W.heap[B]? = some (.cells #[u] el)) :
  (W.setCell ⟨B,0,none⟩ v).heap[B]? = some (.cells #[v] el)∧KB (·=B) W (W.setCell ⟨B,0,none⟩ v):=by
 refine⟨by simp[World.setCell,Array.getElem?_modify,h],rfl,rfl,rfl,by simp[World.setCell],fun k hk hS=>?_⟩
 have hne:B≠k:=fun e=>hS e.symm
 simp[World.setCell,Array.getElem?_modify,hne]
def left (Bs:Nat) (W:World):Nat:=match W.cell? ⟨Bs,0,none⟩ with|some (.string b)=>b.size|_=>0
theorem zpr {W:World} {B:Nat} {u:ByteArray} {el:TypeId} (h:W.heap[B]? = some (.cells #[.string u] el)):left B W=u.size:=by
 simp[left,World.cell?,h]
set_option maxRecDepth 100000 in
theorem zrg (l Bs Bp Bv:Nat) (es ep ev:TypeId) (hsp:Bp≠Bs) (hsv:Bv≠Bs) (s:List UInt8) (hb:s.length<4611686018427387904) (J Jx:List (List UInt8)→World→Prop)
  (hJ:∀ pre A B,J pre A→KB (fun k=>k=Bs∨k=Bp∨k=Bv) A B→J pre B)
  (hJx:∀ pre A B,Jx pre A→KB (fun k=>k=Bs∨k=Bp∨k=Bv) A B→Jx pre B)
  (hG:∀ pre A,J pre A→GT Tryz.prog A)
  (hY:∀ pre x A,(pre++[x]) <+: pcs s→J pre A→YieldAt Fence.wide 0 Tryz.prog l #[.string ⟨x.toArray⟩] A fun e B =>
   (e = .returned (.bool true)∧J (pre++[x]) B∧B.heap[Bs]? = A.heap[Bs]?∧B.heap[Bp]? = A.heap[Bp]?∧B.heap[Bv]? = A.heap[Bv]?)∨(e = .returned (.bool false)∧Jx (pre++[x]) B))
  (W:World) (h1:W.heap[Bs]? = some (.cells #[.string ⟨s.toArray⟩] es)) (h2:W.heap[Bp]? = some (.cells #[.string ⟨#[47]⟩] ep)) (h3:W.heap[Bv]? = some (.cells #[.int .i64 0] ev)) (h0:J [] W) :
  CallsIn Fence.wide 1 Tryz.prog 181 #[.func (.yield l) #[] #[],.pointer (some ⟨Bp,0,none⟩),.pointer (some ⟨Bs,0,none⟩),.pointer (some ⟨Bv,0,none⟩)] W fun e B=>(∃ v,e = .returned v)∧(J (pcs s) B∨∃ pre,pre <+: pcs s∧Jx pre B):=by
 refine callsIn_of_wp Tryz.func181 rfl trivial ?_ rfl
 simp only[Tryz.ntmps181,List.size_toArray,List.length_cons,List.length_nil,Nat.reduceAdd,Nat.reduceSub,Array.replicate_succ,Array.replicate_zero,List.push_toArray,List.append_toArray,List.nil_append,List.cons_append]
 have c2:W.cell? ⟨Bp,0,none⟩=some (.string ⟨#[47]⟩):=by simp[World.cell?,h2]
 have n1:(1:Nat)≤1:=Nat.le_refl _
 gi_wp2
 gi_loopw [] (fun wr=>∃ (pre:List (List UInt8)) (r:List UInt8),pre++pcs r=pcs s∧r.length≤s.length∧J pre wr∧wr.heap[Bs]? = some (.cells #[.string ⟨r.toArray⟩] es)∧wr.heap[Bp]? = some (.cells #[.string ⟨#[47]⟩] ep)∧wr.heap[Bv]? = some (.cells #[.int .i64 0] ev))
  (fun wr=>left Bs wr)
 case atStart=>exact⟨[],s,rfl,Nat.le_refl _,h0,h1,h2,h3⟩
 case round =>
  obtain⟨pre,r,hpre,hlen,hj,k1,k2,k3⟩:=hrel
  have d1:wr.cell? ⟨Bs,0,none⟩=some (.string ⟨r.toArray⟩):=by simp[World.cell?,k1]
  have d2:wr.cell? ⟨Bp,0,none⟩=some (.string ⟨#[47]⟩):=by simp[World.cell?,k2]
  have d3:wr.cell? ⟨Bv,0,none⟩=some (.int .i64 0):=by simp[World.cell?,k3]
  gi_wp2
  refine⟨trivial, ?_⟩
  refine ((callsIn_wide (n:=0)).2 (zoc r wr (hG _ _ hj))).mono ?_
  rintro e w2 ⟨rfl,hkb⟩
  have hlt:∀ {k:Nat} {o:Obj},wr.heap[k]? = some o→w2.heap[k]? = some o:=fun {k o} h=>(hkb.2.2.2.2 k (Array.getElem?_eq_some_iff.1 h).1 (fun h=>h)).trans h
  have hj2:=hJ _ _ _ hj (hkb.mono fun k h=>h.elim)
  have q1:=hlt k1
  have q2:=hlt k2
  have q3:=hlt k3
  have e1:w2.cell? ⟨Bs,0,none⟩=some (.string ⟨r.toArray⟩):=by simp[World.cell?,q1]
  have e2:w2.cell? ⟨Bp,0,none⟩=some (.string ⟨#[47]⟩):=by simp[World.cell?,q2]
  have e3:w2.cell? ⟨Bv,0,none⟩=some (.int .i64 0):=by simp[World.cell?,q3]
  have f1:w2.frozen? ⟨Bs,0,none⟩=false:=by simp[World.frozen?,q1]
  rcases zlo r with ⟨g1,g2⟩ | ⟨i,g1,g2,g3⟩
  ·rw[g1]
   rw[g2] at hpre
   obtain⟨fn,tmps,assign,body,hy,hR⟩:=hY pre r w2 (by rw[hpre];exact List.prefix_refl _) hj2
   gi_wp2
   refine hR.mono ?_
   rintro e W3 (⟨rfl,hJ3,m1,m2,m3⟩ | ⟨rfl,hJx3⟩)
   ·gi_wp2
    go_end0
    exact⟨⟨_,rfl⟩,.inl (by rw[← hpre];exact hJ3)⟩
   ·gi_wp2
    go_end0
    exact⟨⟨_,rfl⟩,.inr ⟨_,by rw[hpre];exact List.prefix_refl _,hJx3⟩⟩
  ·rw[g2]
   rw[g3] at hpre
   obtain⟨fn,tmps,assign,body,hy,hR⟩:=hY pre (r.take i) w2 ⟨pcs (r.drop (i+1)),by rw[← hpre];simp⟩ hj2
   have hx:(⟨r.toArray⟩:ByteArray).extract 0 i=⟨(r.take i).toArray⟩:=by
    apply ByteArray.ext
    simp
   gi_wp2
   refine hR.mono ?_
   rintro e W3 (⟨rfl,hJ3,m1,m2,m3⟩ | ⟨rfl,hJx3⟩)
   ·rw[q1] at m1
    rw[q2] at m2
    rw[q3] at m3
    have e1:W3.cell? ⟨Bs,0,none⟩=some (.string ⟨r.toArray⟩):=by simp[World.cell?,m1]
    have e2:W3.cell? ⟨Bp,0,none⟩=some (.string ⟨#[47]⟩):=by simp[World.cell?,m2]
    have f1:W3.frozen? ⟨Bs,0,none⟩=false:=by simp[World.frozen?,m1]
    gi_wp2
    have hx2:(⟨r.toArray⟩:ByteArray).extract (i+1) r.length=⟨(r.drop (i+1)).toArray⟩:=by
     apply ByteArray.ext
     simp
     exact List.take_of_length_le (by simp)
    rw[hx2]
    obtain⟨s1,s2⟩:=z2x (v:=.string ⟨(r.drop (i+1)).toArray⟩) m1
    refine⟨⟨pre++[r.take i],r.drop (i+1),by rw[← hpre];simp,by simp;omega,hJ _ _ _ hJ3 (s2.mono fun k h=>.inl h),s1, ?_, ?_⟩, ?_⟩
    ·exact (s2.2.2.2.2 Bp (Array.getElem?_eq_some_iff.1 m2).1 hsp).trans m2
    ·exact (s2.2.2.2.2 Bv (Array.getElem?_eq_some_iff.1 m3).1 hsv).trans m3
    ·have z1:=zpr s1
     have z2:=zpr k1
     have y1:((r.drop (i+1)).toArray:Array UInt8).size=r.length-(i+1):=by simp
     have y2:(r.toArray:Array UInt8).size=r.length:=by simp
     show left Bs _<left Bs wr
     rw[z1,z2]
     show ((r.drop (i+1)).toArray:Array UInt8).size<(r.toArray:Array UInt8).size
     omega
   ·gi_wp2
    refine bodyPost_ret (results_none rfl _ _ _) rfl ?_
    exact⟨⟨_,rfl⟩,.inr ⟨_,⟨pcs (r.drop (i+1)),by rw[← hpre];simp⟩,hJx3⟩⟩
end Go.VM.Tryz
end
section
open Go Go.VM Go.Proofs Go.RowKit
namespace Go.VM.Tryz
theorem zox {c:Ctx} {r off:Nat} {u:Value} (h:VR c (.ptr r off) u):∃ b m,c.locs[r]? = some (some (b,m))∧u = .pointer (some ⟨b,off,none⟩):=by
 simp only[VR] at h
 split at h
 ·rename_i b m hl
  exact⟨b,m,hl,h⟩
 ·exact h.elim
theorem zns {F:Fr} {c:Ctx} {H:Heap} {r b m:Nat} {v:V} (hs:SR F c H) (hr:H[r]? = some (.box [v])) (hl:c.locs[r]? = some (some (b,m))):∃ u el,c.w.heap[b]? = some (.cells #[u] el)∧VR c v u:=by
 obtain⟨O,h1,⟨C,el,rfl,h2,h3,h4⟩,_,_⟩:=hs.blk r _ _ hr hl trivial
 obtain⟨⟨u,h5,h6⟩,_⟩:=h4
 refine⟨u,el, ?_,h6⟩
 have hC:C = #[u]:=by
  apply Array.ext
  ·simpa using h2
  ·intro i hi1 hi2
   have:i=0:=by simp at hi2;omega
   subst this
   have:=Array.getElem?_eq_some_iff.1 h5
   obtain⟨_,e⟩:=this
   simpa using e
 rw[← hC]
 exact h1
theorem zjv (s:List UInt8) (hb:s.length<4611686018427387904) (H:Heap) (rs rp rv:Nat) (h1:H[rs]? = some (.box [.str s])) (h2:H[rp]? = some (.box [.str [47]])) (h3:H[rv]? = some (.box [.int .i64 0])) (n1:rp≠rs) (n2:rv≠rs) :
  ItOk Tryz.prog (fun x:List UInt8=>Value.string ⟨x.toArray⟩) (pcs s) [rs,rp,rv] H (.fn 181 [] [.ptr rp 0,.ptr rs 0,.ptr rv 0]):=by
 intro F c u hs hu
 simp only[VR] at hu
 obtain⟨us,ws,rfl,hus,hws,_,hv⟩:=hu
 have hus0:us = #[]:=by simpa using hus
 subst hus0
 obtain⟨⟨u0,e0,v0⟩,⟨u1,e1,v1⟩,⟨u2,e2,v2⟩,_⟩:=hv
 obtain⟨Bp,mp,lp,rfl⟩:=zox v0
 obtain⟨Bs,ms,ls,rfl⟩:=zox v1
 obtain⟨Bv,mv,lv,rfl⟩:=zox v2
 have hws':ws = #[.pointer (some ⟨Bp,0,none⟩),.pointer (some ⟨Bs,0,none⟩),.pointer (some ⟨Bv,0,none⟩)]:=by
  apply Array.ext
  ·simpa using hws
  ·intro i hi1 hi2
   have hi:i<3:=by simpa using hi2
   rcases i with _|_|_|i
   ·obtain⟨_,e⟩:=Array.getElem?_eq_some_iff.1 e0;simpa using e
   ·obtain⟨_,e⟩:=Array.getElem?_eq_some_iff.1 e1;simpa using e
   ·obtain⟨_,e⟩:=Array.getElem?_eq_some_iff.1 e2;simpa using e
   ·omega
 subst hws'
 obtain⟨x1,es,g1,y1⟩:=zns hs h1 ls
 obtain⟨x2,ep,g2,y2⟩:=zns hs h2 lp
 obtain⟨x3,ev,g3,y3⟩:=zns hs h3 lv
 simp only[VR] at y1 y2 y3
 subst y1 y2 y3
 have d1:Bp≠Bs:=fun e=>by subst e;exact n1 (hs.inj rp rs _ _ Bp mp ms h2 h1 trivial trivial lp ls)
 have d2:Bv≠Bs:=fun e=>by subst e;exact n2 (hs.inj rv rs _ _ Bv mv ms h3 h1 trivial trivial lv ls)
 have hBl:∀ k,(k=Bs∨k=Bp∨k=Bv)↔Bl c [rs,rp,rv] k:=by
  intro k
  constructor
  ·rintro (rfl|rfl|rfl)
   ·exact⟨rs,ms,by simp,ls⟩
   ·exact⟨rp,mp,by simp,lp⟩
   ·exact⟨rv,mv,by simp,lv⟩
  ·rintro⟨r,m,hr,hl⟩
   simp at hr
   rcases hr with rfl|rfl|rfl
   ·rw[ls] at hl;simp at hl;exact .inl hl.1.symm
   ·rw[lp] at hl;simp at hl;exact .inr (.inl hl.1.symm)
   ·rw[lv] at hl;simp at hl;exact .inr (.inr hl.1.symm)
 refine⟨181,_,rfl,enters_of Tryz.func181 (by kernel_rfl) rfl, ?_⟩
 intro l J Jx W1 hJ hJx hG hY hsame h0
 refine (callsIn_wide (n:=0)).2 ((callsIn_wide (n:=1)).1 (zrg l Bs Bp Bv es ep ev d1 d2 s hb J Jx (fun pre A B h k=>hJ pre A B h (k.mono fun i hi=>(hBl i).1 hi)) (fun pre A B h k=>hJx pre A B h (k.mono fun i hi=>(hBl i).1 hi)) hG (fun pre x A hpre hj=>?_) W1
  ((hsame Bs ((hBl Bs).1 (.inl rfl))).trans g1) ((hsame Bp ((hBl Bp).1 (.inr (.inl rfl)))).trans g2) ((hsame Bv ((hBl Bv).1 (.inr (.inr rfl)))).trans g3) h0))
 obtain⟨fn,tmps,assign,body,hy,hR⟩:=hY pre x A hpre hj
 refine⟨fn,tmps,assign,body,hy,hR.mono ?_⟩
 rintro e B (⟨rfl,k1,k2⟩|k)
 ·exact .inl ⟨rfl,k1,k2 Bs ((hBl Bs).1 (.inl rfl)),k2 Bp ((hBl Bp).1 (.inr (.inl rfl))),k2 Bv ((hBl Bv).1 (.inr (.inr rfl)))⟩
 ·exact .inr k
end Go.VM.Tryz
end
section
open Go Go.VM Go.Proofs
namespace Go.VM.Tryz
theorem zmb (s:List UInt8):Meets Tryz.prog 170 [.str s,.str [47],.int .i64 0] (.fn 181 [] [.ptr 1 0,.ptr 0 0,.ptr 2 0]) [.box [.str s],.box [.str [47]],.box [.int .i64 0]]:=by
 refine an (fn:=Tryz.f170) Tryz.func170 rfl fb170 (by kernel_rfl) (Nat.le_of_ble_eq_true rfl) ?_
 refine aa ?_
 simp only[go_sem]
 repeat first|(with_reducible refine ad ?_ ?_;exact byD)|(with_reducible refine ae ?_ ?_;exact byQ)
 refine aa ?_
 simp only[go_sem]
 refine af ?_
 simp only[go_sem]
 exact ap 1 [0,1,2] rfl byC byC byC byC
theorem ztd (s:List UInt8):Meets Tryz.prog 142 [.str s,.str [47]] (.fn 181 [] [.ptr 1 0,.ptr 0 0,.ptr 2 0]) [.box [.str s],.box [.str [47]],.box [.int .i64 0]]:=by
 refine an (fn:=Tryz.f142) Tryz.func142 rfl fb142 (by kernel_rfl) (Nat.le_of_ble_eq_true rfl) ?_
 refine aa ?_
 simp only[go_sem]
 repeat first|(with_reducible refine ad ?_ ?_;exact byD)|(with_reducible refine ae ?_ ?_;exact byQ)
 refine aa ?_
 simp only[go_sem]
 refine cw_m (zmb s) byW byT ?_
 simp only[go_sem]
 refine af ?_
 simp only[go_sem]
 exact ap 1 [0,1,2] rfl byC byC byC byC
end Go.VM.Tryz
end
section
open Go Go.VM Go.Proofs Tether
namespace Go.VM
theorem cw_cnt {P:Program} {f:Nat} {fn:Func} (hf:P.funcs[f]? = some fn) (hname:(fn.name == "runtime.NumGoroutine")=false) (hb:fn.body.isNone=true) (hn:Extern.findNext fn=none) (he:Extern.find fn=some Extern.BytealgCount.count)
  {s:List UInt8} {c:Int} {H:Heap} {K:V→Heap→Prop} (hk:K (.int .i64 (s.count c.toNat.toUInt8:Nat)) H):cw P f [.str s,.int .u8 c] H K:=by
 intro F cc gt hs us hsz hus
 simp only[VRs,VR] at hus
 obtain⟨⟨u1,g1,rfl⟩,⟨u2,g2,rfl⟩,-⟩:=hus
 have hus:us = #[.string ⟨s.toArray⟩,.int .u8 c]:=by
  apply Array.ext'
  apply List.ext_getElem?
  intro j
  rcases j with _|_|j
  ·simpa using g1
  ·simpa using g2
  ·have:us.toList.length=2:=by simpa using hsz
   rw[List.getElem?_eq_none (by omega)]
   simp
 subst hus
 refine .inr ⟨.int .i64 (s.count c.toNat.toUInt8:Nat),cc.w, ?_,cc,.int .i64 (s.count c.toNat.toUInt8:Nat),.int .i64 (s.count c.toNat.toUInt8:Nat),H,rfl,rfl,Le.refl _,hs,by simp only[VR],hk⟩
 rw[run_callFunc_extern hf hname hb hn he]
 have:=Lib.run_countString (P:=P) ⟨s.toArray⟩ c cc.w
 simp only[Lib.countByte] at this
 simp[Sem.run_bind,this,Result.andThen]
end Go.VM
namespace Go.VM.Tryz
theorem sign_c (c:Int):Meets Tryz.prog 72 [.int .u8 c] (.bool (xq c)) []:=by
 refine an (fn:=Tryz.f72) Tryz.func72 rfl fb72 (by kernel_rfl) (Nat.le_of_ble_eq_true rfl) ?_
 refine aa ?_
 simp only[go_sem]
 repeat first|(with_reducible refine ad ?_ ?_;exact byD)|(with_reducible refine ae ?_ ?_;exact byQ)
 refine aa ?_
 simp only[go_sem]
 intro t4 e4
 intro t7 e7
 intro t8 e8
 rw[ar] at e8
 intro t11 e11
 intro t14 e14
 intro t15 e15
 rw[ar] at e15
 intro t16 e16
 rw[az] at e16
 intro t19 e19
 intro t22 e22
 intro t23 e23
 rw[ar] at e23
 intro t24 e24
 rw[az] at e24
 refine⟨_,fun hp=>cw_m (zlj _ c) byW byT ⟨rfl,rfl⟩, ?_⟩
 simp only[go_sem]
 intro t28 e28
 intro t29 e29
 rw[az] at e29
 subst e4 e7 e8 e11 e14 e15 e16 e19 e22 e23 e24 e28 e29
 refine af ?_
 simp only[go_sem]
 refine aq ?_
 simp[xq]
theorem jc (s:Str) (hs:s.length<4611686018427387904):Meets Tryz.prog 37 [.str s] (.bool (ba s)) []:=by
 refine an (fn:=Tryz.f37) Tryz.func37 rfl fb37 (by kernel_rfl) (Nat.le_of_ble_eq_true rfl) ?_
 refine aa ?_
 simp only[go_sem]
 repeat first|(with_reducible refine ad ?_ ?_;exact byD)|(with_reducible refine ae ?_ ?_;exact byQ)
 refine aa ?_
 simp only[go_sem]
 refine ab (ai ?_)
 refine aa ?_
 simp only[go_sem]
 intro t7 e7
 intro t11 e11
 intro t12 e12
 rw[az] at e12
 intro t15 e15
 intro t16 e16
 rw[az] at e16
 intro t19 e19
 intro t20 e20
 rw[az] at e20
 subst e7 e11 e12 e15 e16 e19 e20
 refine ah _ rfl (fun h5=>?_) (fun h5=>?_)
 ·
  (try simp only[go_sem] at h5)
  refine aa ?_
  simp only[go_sem]
  refine af ?_
  simp only[go_sem]
  refine aq ?_
  rcases h5 with ((h5|h5)|h5)|h5<;>simp[ba,h5]
 ·
  (try simp only[go_sem] at h5)
  have hpos:0<s.length:=by
   rcases s with _ | ⟨x,s⟩
   ·simp at h5
   ·simp
  refine aa ?_
  simp only[go_sem]
  repeat first|(with_reducible refine ad ?_ ?_;exact byD)|(with_reducible refine ae ?_ ?_;exact byQ)
  intro t23 e23
  intro t24 e24
  intro t29 e29
  (try replace e29:=w64 e29 (by omega) (by omega))
  repeat first|(with_reducible refine ad ?_ ?_;exact byD)|(with_reducible refine ae ?_ ?_;exact byQ)
  intro t30 e30
  intro t31 e31
  intro t32 e32
  rw[az] at e32
  subst e24 e31 e32
  refine ah _ rfl (fun h21=>?_) (fun h21=>?_)
  ·
   (try simp only[go_sem] at h21)
   refine aa ?_
   simp only[go_sem]
   refine af ?_
   simp only[go_sem]
   refine aq ?_
   have hl:((s.length:Int)-1).toNat=s.length-1:=by omega
   subst e23 e29 e30
   simp only[hl] at h21
   rcases h21 with h21|h21<;>simp[ba,at8]<;>intros<;>simp_all
  ·
   (try simp only[go_sem] at h21)
   refine ag ?_
   (try simp only[go_sem])
   refine ab ?_
   refine aa ?_
   simp only[go_sem]
   refine ai ?_
   refine bm (σ:=Nat) (fun i=>i≤s.length∧∀ j,j<i→xq (at8 s j)=true) (fun i=>[⟨35,0,[],.int .i64 (i:Nat)⟩]) [0,3,34] (fun i=>s.length-i) 0 ⟨Nat.zero_le _,fun j hj=>absurd hj (Nat.not_lt_zero j)⟩ (Nat.zero_le _) byC (fun i hI1=>?_)
   simp only[go_sem]
   refine aa ?_
   simp only[go_sem]
   repeat first|(with_reducible refine ad ?_ ?_;exact byD)|(with_reducible refine ae ?_ ?_;exact byQ)
   intro t36 e36
   subst e36
   refine ab ?_
   refine ah _ rfl (fun h36=>?_) (fun h36=>?_)
   ·
    (try simp only[go_sem] at h36)
    refine ag ?_
    (try simp only[go_sem])
    refine ab (ai ?_)
    refine aa ?_
    simp only[go_sem]
    refine aa ?_
    simp only[go_sem]
    repeat first|(with_reducible refine ad ?_ ?_;exact byD)|(with_reducible refine ae ?_ ?_;exact byQ)
    intro t41 e41
    refine cw_m (sign_c _) byW byT ?_
    simp only[go_sem]
    intro t43 e43
    subst e43
    refine ah _ rfl (fun h43=>?_) (fun h43=>?_)
    ·
     (try simp only[go_sem] at h43)
     refine aa ?_
     simp only[go_sem]
     refine af ?_
     simp only[go_sem]
     refine aq ?_
     have:=dl (p:=fun i=>xq (at8 s i)) (i:=i) (n:=s.length) (by omega) (by simpa [at8,e41] using h43)
     simp[ba,this]
    ·
     (try simp only[go_sem] at h43)
     refine ag ?_
     (try simp only[go_sem])
     refine aj ?_
     simp only[go_sem]
     intro t44 e44
     (try replace e44:=w64 e44 (by omega) (by omega))
     refine ay (i+1) ⟨by omega,fun j hj=>?_⟩ (by show s.length-(i+1)<s.length-i;omega) byC
     rcases Nat.lt_or_ge j i with h|h
     ·exact hI1.2 j h
     ·obtain rfl:j=i:=by omega
      simpa [at8,e41] using h43
   ·
    (try simp only[go_sem] at h36)
    refine bk ?_
    simp only[go_sem]
    refine aa ?_
    simp only[go_sem]
    refine af ?_
    simp only[go_sem]
    refine aq ?_
    have:=dk (p:=fun i=>xq (at8 s i)) (n:=s.length) fun j hj=>hI1.2 j (by omega)
    have hl:((s.length:Int)-1).toNat=s.length-1:=by omega
    subst e23 e29 e30
    simp only[hl] at h21
    simp[ba,at8,this,h5] at *
    simp_all
theorem Count (s:List UInt8):Meets Tryz.prog 171 [.str s,.str [47]] (.int .i64 (s.count 47:Nat)) []:=by
 refine an (fn:=Tryz.f171) Tryz.func171 rfl fb171 (by kernel_rfl) (Nat.le_of_ble_eq_true rfl) ?_
 refine aa ?_
 simp only[go_sem]
 repeat first|(with_reducible refine ad ?_ ?_;exact byD)|(with_reducible refine ae ?_ ?_;exact byQ)
 refine ab ?_
 refine aa ?_
 simp only[go_sem]
 intro t9 e9
 subst e9
 refine ah _ rfl (fun h9=>?_) (fun h9=>?_)
 ·simp at h9
 ·
  (try simp only[go_sem] at h9)
  refine ag ?_
  (try simp only[go_sem])
  refine ab ?_
  refine aa ?_
  simp only[go_sem]
  intro t15 e15
  subst e15
  refine ah _ rfl (fun h15=>?_) (fun h15=>?_)
  ·
   (try simp only[go_sem] at h15)
   refine aa ?_
   simp only[go_sem]
   repeat first|(with_reducible refine ad ?_ ?_;exact byD)|(with_reducible refine ae ?_ ?_;exact byQ)
   intro t18 e18
   refine cw_cnt Tryz.func185 (by kernel_rfl) (by kernel_rfl) (by kernel_rfl) (by kernel_rfl) ?_
   simp only[go_sem]
   refine af ?_
   simp only[go_sem]
   refine am ?_
   subst e18
   rfl
  ·simp at h15
def gw (s:List UInt8):Bool:=decide (6≤s.count 47) || decide (80<s.length)
theorem great (s:List UInt8):Meets Tryz.prog 143 [.str s] (.bool (gw s)) []:=by
 refine an (fn:=Tryz.f143) Tryz.func143 rfl fb143 (by kernel_rfl) (Nat.le_of_ble_eq_true rfl) ?_
 refine aa ?_
 simp only[go_sem]
 repeat first|(with_reducible refine ad ?_ ?_;exact byD)|(with_reducible refine ae ?_ ?_;exact byQ)
 refine aa ?_
 simp only[go_sem]
 refine cw_m (Count s) byW byT ?_
 simp only[go_sem]
 intro t5 e5
 intro t9 e9
 intro t10 e10
 rw[az] at e10
 subst e5 e9 e10
 refine af ?_
 simp only[go_sem]
 refine aq ?_
 simp[gw]
 have h1:((6:Int)≤(s.count 47:Nat))↔6≤s.count 47:=by omega
 have h2:((80:Int)<(s.length:Nat))↔80<s.length:=by omega
 simp only[h1,h2]
end Go.VM.Tryz
end
section
open Go Go.VM Go.Proofs Tether
namespace Tether
def strE' (s:Str):List V:=[.str s]
abbrev strsV' (l:List Str):V:=lstV 1 strE' [] l
attribute [go_sem] strE'
end Tether
namespace Go.VM.Tryz
theorem zyv:∀ (s x:List UInt8),x∈pcs s→x.length≤s.length:=by
 intro s
 induction s with
 | nil=>intro x h;simp[pcs] at h;simp[h]
 | cons b r ih =>
   intro x h
   by_cases hb:b=47
   ·simp[pcs,hb] at h
    rcases h with rfl|h
    ·simp
    ·have:=ih x h;simp;omega
   ·simp only[pcs,hb,if_false] at h
    rcases hp:pcs r with _ | ⟨y,ys⟩
    ·exact absurd hp (ym r)
    ·rw[hp] at h ih
     simp at h
     rcases h with rfl|h
     ·have:=ih y (by simp);simp;omega
     ·have:=ih x (by simp[h]);simp;omega
def bn:List Str→Int
 | []=>0
 | p::r=>if (pcs p).all ba then (if gw p then 2 else bn r) else 1
theorem zpl (l:List Str) (hl:l.length<4611686018427387904) (hs:∀ s∈l,s.length<4611686018427387904):Meets Tryz.prog 112 [strsV' l] (.int .i64 (bn l)) []:=by
 refine an (fn:=Tryz.f112) Tryz.func112 rfl fb112 (by kernel_rfl) (Nat.le_of_ble_eq_true rfl) ?_
 refine aa ?_
 simp only[go_sem]
 repeat first|(with_reducible refine ad ?_ ?_;exact byD)|(with_reducible refine ae ?_ ?_;exact byQ)
 refine ab ?_
 refine aa ?_
 simp only[go_sem]
 refine ai ?_
 refine gz (σ:=Nat) (fun i=>i≤l.length∧bn l=bn (l.drop i)) (fun i=>[⟨8,0,[],.int .i64 (i:Nat)⟩]) [2,6,7] (fun i=>[.box [.int .i64 0]]) (fun i=>l.length-i) 0 ⟨Nat.zero_le _,by simp⟩ (fun _=>(Nat.zero_le _)) byC (fun i hI1=>?_)
 simp only[go_sem]
 refine aa ?_
 simp only[go_sem]
 repeat first|(with_reducible refine ad ?_ ?_;exact byD)|(with_reducible refine ae ?_ ?_;exact byQ)
 intro t9 e9
 subst e9
 refine ab ?_
 refine ah _ rfl (fun h9=>?_) (fun h9=>?_)
 ·
  (try simp only[go_sem] at h9)
  have hlt:i<l.length:=by omega
  have hgd:l.getD i []=l[i]:=by simp[List.getD_eq_getElem?_getD,hlt]
  have hp:(l.getD i []).length<4611686018427387904:=hs _ (by rw[hgd];exact List.getElem_mem hlt)
  have hck:bn (l.drop i)=if (pcs (l.getD i [])).all ba then (if gw (l.getD i []) then 2 else bn (l.drop (i+1))) else 1:=by
   rw[List.drop_eq_getElem_cons hlt,hgd]
   rfl
  refine ag ?_
  (try simp only[go_sem])
  refine ab (ai ?_)
  refine aa ?_
  simp only[go_sem]
  repeat first|(with_reducible refine ad ?_ ?_;exact byD)|(with_reducible refine ae ?_ ?_;exact byQ)
  refine ab ?_
  refine aa ?_
  simp only[go_sem]
  refine cw_m (ztd _) byW byT ?_
  simp only[go_sem]
  refine ai ?_
  refine zst (fun x:List UInt8=>Value.string ⟨x.toArray⟩) (fun x:List UInt8=>V.str x) (fun c x=>by simp only[VR]) (pcs (l.getD i [])) [1,2,3] (fun pre=>∀ y∈pre,ba y=true) (fun y h=>by cases h) (fun pre=>[.box [.int .i64 0],.dead,.dead,.dead]) ?_ ?_ ?_ ?_ (fun _=>rfl) ?_ ?_
  ·exact zjv _ hp _ 1 2 3 rfl rfl rfl (by decide) (by decide)
  ·intro r hr;simp at hr;rcases hr with rfl|rfl|rfl<;>exact⟨_,rfl,trivial⟩
  ·exact⟨.inr rfl,.inl rfl,.inl rfl,.inl rfl,rfl⟩
  ·intro r x hr h;simp at hr;rcases hr with rfl|rfl|rfl<;>(cases h;exact id)
  ·
   rintro pre x hpre hIr
   have hm:x∈pcs (l.getD i []):=hpre.subset (by simp)
   have hx:x.length<4611686018427387904:=Nat.lt_of_le_of_lt (zyv _ _ hm) hp
   refine aj ?_
   simp only[go_sem]
   refine ai ?_
   refine aa ?_
   simp only[go_sem]
   refine cw_m (jc _ hx) byW byT ?_
   simp only[go_sem]
   intro t17 e17
   subst e17
   refine ah _ rfl (fun h17=>?_) (fun h17=>?_)
   ·
    (try simp only[go_sem] at h17)
    refine aa ?_
    simp only[go_sem]
    refine af ?_
    simp only[go_sem]
    have hall:(pcs (l.getD i [])).all ba=false:=by
     rw[List.all_eq_false]
     exact⟨x,hm,by simpa using h17⟩
    rw[hI1.2,hck,hall]
    exact ap 1 [] rfl byC byC byC byC
   ·
    (try simp only[go_sem] at h17)
    refine ag ?_
    (try simp only[go_sem])
    exact⟨fun y hy=>by rcases List.mem_append.1 hy with h|h;exact hIr y h;simp at h;subst h;simpa using h17,.inl byC⟩
  ·
   intro hIr
   (try simp only[go_sem])
   refine aa ?_
   simp only[go_sem]
   refine cw_m (great _) byW byT ?_
   simp only[go_sem]
   refine ah _ rfl (fun h19=>?_) (fun h19=>?_)
   ·
    (try simp only[go_sem] at h19)
    refine aa ?_
    simp only[go_sem]
    refine af ?_
    simp only[go_sem]
    have hall:(pcs (l.getD i [])).all ba=true:=List.all_eq_true.2 hIr
    rw[hI1.2,hck,hall,show gw (l.getD i [])=true from by simpa using h19]
    exact ap 1 [] rfl byC byC byC byC
   ·
    (try simp only[go_sem] at h19)
    refine ag ?_
    (try simp only[go_sem])
    refine aj ?_
    simp only[go_sem]
    intro t20 e20
    (try replace e20:=w64 e20 (by omega) (by omega))
    have hall:(pcs (l.getD i [])).all ba=true:=List.all_eq_true.2 hIr
    refine ay (i+1) ⟨by omega, ?_⟩ (by show l.length-(i+1)<l.length-i;omega) byC
    rw[hI1.2,hck,hall,show gw (l.getD i [])=false from by simpa using h19]
    rfl
 ·
  (try simp only[go_sem] at h9)
  refine bk ?_
  simp only[go_sem]
  refine aa ?_
  simp only[go_sem]
  refine af ?_
  simp only[go_sem]
  obtain rfl:i=l.length:=by omega
  rw[hI1.2]
  simp only[List.drop_length]
  exact ap 1 [] rfl byC byC byC byC
end Go.VM.Tryz
end
section
open Go Go.VM Tether
namespace Go.VM.Tryz
theorem uy:∀ s:List UInt8,47 ∉ s→pcs s=[s]
 | [],_=>rfl
 | b::r,h=>by
   have h1:b≠47:=fun e=>h (by simp[e])
   have h2:47 ∉ r:=fun e=>h (.tail _ e)
   simp[pcs,h1,uy r h2]
end Go.VM.Tryz
end
section
open Go Go.VM
namespace Tether
def sgnR (c:Int):Bool:=decide (97≤c) && decide (c≤122) || decide (65≤c) && decide (c≤90) || decide (48≤c) && decide (c≤57) || decide (c=45) || decide (c=95) || decide (c=46) || decide (c=40) || decide (c=41) || decide (c=32)
theorem zyo (c:UInt8):xq (c.toNat:Int)=sgnR (c.toNat:Int):=by
 have h:∀ n:Fin 256,xq (((UInt8.ofNat n.val).toNat:Nat):Int)=sgnR (((UInt8.ofNat n.val).toNat:Nat):Int):=by decide +kernel
 have:=h ⟨c.toNat,c.toNat_lt⟩
 simpa using this
def okAt (s:Str) (i:Nat):Bool:=sgnR (at8 s i) && !(decide (at8 s i=32) && (decide (i=0) || decide ((i:Int)=(s.length:Int)-1)))
theorem vx (s:Str):((List.range s.length).all (okAt s) && (((!decide (s=[]) && decide ((s.length:Int)≤20)) && !decide (s=[46])) && !decide (s=[46,46])))=ba s:=by
 unfold ba
 by_cases h0:s=[]
 ·subst h0;rfl
 have hpos:0<s.length:=by rcases s with _ | ⟨x,s⟩;exact absurd rfl h0;simp
 have key:(List.range s.length).all (okAt s)=(!(decide (at8 s 0=32) || decide (at8 s (s.length-1)=32)) && (List.range s.length).all fun i=>xq (at8 s i)):=by
  rw[Bool.eq_iff_iff]
  simp only[List.all_eq_true,List.mem_range,Bool.and_eq_true,Bool.not_eq_true',Bool.or_eq_false_iff,decide_eq_false_iff_not]
  have hs:∀ i,sgnR (at8 s i)=xq (at8 s i):=fun i=>(zyo _).symm
  constructor
  ·intro h
   refine⟨⟨fun e=>?_,fun e=>?_⟩,fun i hi=>?_⟩
   ·have:=h 0 hpos
    simp[okAt,e] at this
   ·have:=h (s.length-1) (by omega)
    have hk:((s.length-1:Nat):Int)=(s.length:Int)-1:=by omega
    simp[okAt,e,hk] at this
   ·have:=h i hi
    rw[okAt,hs] at this
    exact (Bool.and_eq_true_iff.1 this).1
  ·rintro⟨⟨e1,e2⟩,h⟩ i hi
   rw[okAt,hs,h i hi,Bool.true_and,Bool.not_eq_true']
   by_cases e:at8 s i=32
   ·have i0:i≠0:=by rintro rfl;exact e1 e
    have i1:¬ (i:Int)=(s.length:Int)-1:=by
     intro h
     have:i=s.length-1:=by omega
     subst this;exact e2 e
    simp[e,i0,i1]
   ·simp[e]
 rw[key]
 have e1:decide ((s.length:Int)≤20) = !decide (20<(s.length:Int)):=by
  by_cases h:(s.length:Int)≤20
  ·have:¬ 20<(s.length:Int):=by omega
   simp[h,this]
  ·have:20<(s.length:Int):=by omega
   simp[h,this]
 rw[e1]
 generalize decide (s=[])=a,decide (20<(s.length:Int))=b,decide (s=[46])=c,decide (s=[46,46])=d,(!(decide (at8 s 0=32) || decide (at8 s (s.length-1)=32)))=e,((List.range s.length).all fun i=>xq (at8 s i))=f
 cases a<;>cases b<;>cases c<;>cases d<;>cases e<;>cases f<;>rfl
def ya (s t:Session):Bool:=decide (s.num=t.num) && (decide (s.who=t.who) && (decide (s.text=t.text) && (decide (s.size=t.size) && decide (s.till=t.till))))
theorem zkm (s:Session):ya s s=true:=by simp[ya]
def zcc (a b:Uploads):Bool:=decide (a.next=b.next) && decide (a.lasts=b.lasts) && decide (a.room=b.room) && decide ((a.ss.length:Int)=(b.ss.length:Int)) && (List.range a.ss.length).all fun i=>ya (a.ss.getD i default) (b.ss.getD i default)
theorem zke (a:Uploads):zcc a a=true:=by
 simp only[zcc,decide_true,Bool.true_and]
 exact dk fun i _=>zkm _
end Tether
end
section
open Go Go.VM Go.Proofs Tether
namespace Go.VM.Tryz
theorem zdj (s:Str) (hs:s.length<4611686018427387904):Meets Tryz.prog 25 [.str s] (.bool (ba s)) []:=by
 refine an (fn:=Tryz.f25) Tryz.func25 rfl fb25 (by kernel_rfl) (Nat.le_of_ble_eq_true rfl) ?_
 refine aa ?_
 simp only[go_sem]
 repeat first|(with_reducible refine ad ?_ ?_;exact byD)|(with_reducible refine ae ?_ ?_;exact byQ)
 refine ab ?_
 refine aa ?_
 simp only[go_sem]
 refine ai ?_
 refine bm (σ:=Nat) (fun i=>i≤s.length∧∀ j,j<i→okAt s j=true) (fun i=>[⟨3,0,[],.int .i64 (i:Nat)⟩]) [0] (fun i=>s.length-i) 0 ⟨Nat.zero_le _,fun j hj=>absurd hj (Nat.not_lt_zero j)⟩ (Nat.zero_le _) byC (fun i hI1=>?_)
 simp only[go_sem]
 refine ab ?_
 refine aa ?_
 simp only[go_sem]
 repeat first|(with_reducible refine ad ?_ ?_;exact byD)|(with_reducible refine ae ?_ ?_;exact byQ)
 intro t9 e9
 subst e9
 refine ah _ rfl (fun h9=>?_) (fun h9=>?_)
 ·
  (try simp only[go_sem] at h9)
  refine ag ?_
  (try simp only[go_sem])
  refine ab (ai ?_)
  refine aa ?_
  simp only[go_sem]
  repeat first|(with_reducible refine ad ?_ ?_;exact byD)|(with_reducible refine ae ?_ ?_;exact byQ)
  intro t14 e14
  refine aa ?_
  simp only[go_sem]
  intro t16 e16
  intro t19 e19
  intro t20 e20
  rw[ar] at e20
  intro t23 e23
  intro t26 e26
  intro t27 e27
  rw[ar] at e27
  intro t28 e28
  rw[az] at e28
  intro t31 e31
  intro t34 e34
  intro t35 e35
  rw[ar] at e35
  intro t36 e36
  rw[az] at e36
  intro t39 e39
  intro t40 e40
  rw[az] at e40
  intro t43 e43
  intro t44 e44
  rw[az] at e44
  intro t47 e47
  intro t48 e48
  rw[az] at e48
  intro t51 e51
  intro t52 e52
  rw[az] at e52
  intro t55 e55
  intro t56 e56
  rw[az] at e56
  intro t59 e59
  intro t60 e60
  rw[az] at e60
  subst e16 e19 e20 e23 e26 e27 e28 e31 e34 e35 e36 e39 e40 e43 e44 e47 e48 e51 e52 e55 e56 e59 e60
  refine aa ?_
  simp only[go_sem]
  intro t62 e62
  intro t65 e65
  intro t68 e68
  intro t73 e73
  (try replace e73:=w64 e73 (by omega) (by omega))
  intro t74 e74
  intro t75 e75
  rw[az] at e75
  intro t76 e76
  rw[ar] at e76
  intro t77 e77
  rw[az] at e77
  subst e62 e65 e68 e74 e75 e76 e77
  refine ah _ rfl (fun h77=>?_) (fun h77=>?_)
  ·
   (try simp only[go_sem] at h77)
   refine aa ?_
   simp only[go_sem]
   refine af ?_
   simp only[go_sem]
   refine aq ?_
   have ha:at8 s i=t14:=e14.symm
   have hk:okAt s i=false:=by
    simp only[okAt,sgnR,ha,Bool.and_eq_true,Bool.or_eq_true,Bool.not_eq_false',Bool.and_eq_false_iff,Bool.or_eq_false_iff,decide_eq_true_eq,decide_eq_false_iff_not]
    omega
   rw[← vx,dl (i:=i) (by omega) hk,Bool.false_and]
  ·
   (try simp only[go_sem] at h77)
   refine ag ?_
   (try simp only[go_sem])
   refine aj ?_
   simp only[go_sem]
   intro t11 e11
   (try replace e11:=w64 e11 (by omega) (by omega))
   have ha:at8 s i=t14:=e14.symm
   have hk:okAt s i=true:=by
    simp only[okAt,sgnR,ha,Bool.and_eq_true,Bool.or_eq_true,Bool.not_eq_true',Bool.and_eq_false_iff,Bool.or_eq_false_iff,decide_eq_true_eq,decide_eq_false_iff_not]
    omega
   refine ay (i+1) ⟨by omega,bw hI1.2 hk⟩ (by first|omega|(dsimp only;omega)) byC
 ·
  (try simp only[go_sem] at h9)
  refine bk ?_
  simp only[go_sem]
  refine aa ?_
  simp only[go_sem]
  intro t79 e79
  intro t83 e83
  intro t84 e84
  rw[ar] at e84
  intro t87 e87
  intro t88 e88
  rw[ar] at e88
  intro t91 e91
  intro t92 e92
  rw[ar] at e92
  subst e79 e83 e84 e87 e88 e91 e92
  refine af ?_
  simp only[go_sem]
  refine aq ?_
  rw[← vx,dk fun j hj=>hI1.2 j (by omega),Bool.true_and]
end Go.VM.Tryz
end
section
open Go Go.VM Go.Proofs Tether
namespace Go.VM.Tryz
theorem vo (p:Str) (r:List Str):bn (p::r)=if bn [p]=0 then bn r else bn [p]:=by
 simp only[bn]
 by_cases h1:(pcs p).all ba=true<;>by_cases h2:gw p=true<;>simp only[h1,h2,if_true,if_false]<;>simp
end Go.VM.Tryz
end
section
open Go Go.VM Go.Proofs Tether
namespace Go.VM.Tryz
def lixN (s:Str) (c:Int):Nat→Int
 | 0=>-1
 | n+1=>if at8 s n=c then n else lixN s c n
theorem zqh (s:Str) (c:Int) (hs:s.length<4611686018427387904):Meets Tryz.prog 194 [.str s,.int .u8 c] (.int .i64 (lixN s c s.length)) []:=by
 refine an (fn:=Tryz.f194) Tryz.func194 rfl fb194 (by kernel_rfl) (Nat.le_of_ble_eq_true rfl) ?_
 refine aa ?_
 simp only[go_sem]
 repeat first|(with_reducible refine ad ?_ ?_;exact byD)|(with_reducible refine ae ?_ ?_;exact byQ)
 refine ab ?_
 refine aa ?_
 simp only[go_sem]
 intro t8 e8
 (try replace e8:=w64 e8 (by omega) (by omega))
 refine ai ?_
 refine bm (σ:=Nat) (fun n=>n≤s.length∧lixN s c n=lixN s c s.length) (fun n=>[⟨5,0,[],.int .i64 ((n:Int)-1)⟩]) [0,1] (fun n=>n) s.length ⟨Nat.le_refl _,rfl⟩ (Nat.zero_le _) byC (fun n hI1=>?_)
 simp only[go_sem]
 refine ab ?_
 refine aa ?_
 simp only[go_sem]
 repeat first|(with_reducible refine ad ?_ ?_;exact byD)|(with_reducible refine ae ?_ ?_;exact byQ)
 intro t10 e10
 subst e10
 refine ah _ rfl (fun h10=>?_) (fun h10=>?_)
 ·
  (try simp only[go_sem] at h10)
  obtain⟨m,rfl⟩:∃ m,n=m+1:=⟨n-1,by omega⟩
  have hm:(((m+1:Nat):Int)-1).toNat=m:=by omega
  have hl:lixN s c (m+1)=if at8 s m=c then (m:Int) else lixN s c m:=rfl
  refine ag ?_
  (try simp only[go_sem])
  refine ab (ai ?_)
  refine aa ?_
  simp only[go_sem]
  repeat first|(with_reducible refine ad ?_ ?_;exact byD)|(with_reducible refine ae ?_ ?_;exact byQ)
  intro t15 e15
  intro t17 e17
  subst e17
  refine ah _ rfl (fun h17=>?_) (fun h17=>?_)
  ·
   (try simp only[go_sem] at h17)
   refine aa ?_
   simp only[go_sem]
   refine af ?_
   simp only[go_sem]
   refine am ?_
   have hne:at8 s m=c:=by subst e15;simpa [at8,hm] using h17
   rw[if_pos hne] at hl
   rw[← hI1.2,hl]
   omega
  ·
   (try simp only[go_sem] at h17)
   refine ag ?_
   (try simp only[go_sem])
   refine aj ?_
   simp only[go_sem]
   intro t12 e12
   (try replace e12:=w64 e12 (by omega) (by omega))
   have hne:¬ at8 s m=c:=by subst e15;simpa [at8,hm] using h17
   rw[if_neg hne] at hl
   refine ay m ⟨by omega,by rw[← hl];exact hI1.2⟩ (by first|omega|(dsimp only;omega)) byC
 ·
  (try simp only[go_sem] at h10)
  obtain rfl:n=0:=by omega
  refine bk ?_
  simp only[go_sem]
  refine aa ?_
  simp only[go_sem]
  refine af ?_
  simp only[go_sem]
  refine am ?_
  rw[← hI1.2]
  rfl
theorem zuk (s:Str) (c:Int) (hs:s.length<4611686018427387904):Meets Tryz.prog 180 [.str s,.int .u8 c] (.int .i64 (lixN s c s.length)) []:=by
 refine an (fn:=Tryz.f180) Tryz.func180 rfl fb180 (by kernel_rfl) (Nat.le_of_ble_eq_true rfl) ?_
 refine aa ?_
 simp only[go_sem]
 repeat first|(with_reducible refine ad ?_ ?_;exact byD)|(with_reducible refine ae ?_ ?_;exact byQ)
 refine aa ?_
 simp only[go_sem]
 refine cw_m (zqh s c hs) byW byT ?_
 simp only[go_sem]
 refine af ?_
 simp only[go_sem]
 exact am rfl
def zh (s p:Str):Bool:=decide (p.length≤s.length) && decide (s.take p.length=p)
theorem zlx (s p:Str) (hs:s.length<4611686018427387904):Meets Tryz.prog 205 [.str s,.str p] (.bool (zh s p)) []:=by
 refine an (fn:=Tryz.f205) Tryz.func205 rfl fb205 (by kernel_rfl) (Nat.le_of_ble_eq_true rfl) ?_
 refine aa ?_
 simp only[go_sem]
 repeat first|(with_reducible refine ad ?_ ?_;exact byD)|(with_reducible refine ae ?_ ?_;exact byQ)
 refine aa ?_
 simp only[go_sem]
 intro t9 e9
 repeat first|(with_reducible refine ad ?_ ?_;exact byD)|(with_reducible refine ae ?_ ?_;exact byQ)
 intro t16 e16
 intro t17 e17
 rw[ar] at e17
 subst e9 e16 e17
 refine af ?_
 simp only[go_sem]
 refine aq ?_
 simp[zh]
theorem zsk (s p:Str) (hs:s.length<4611686018427387904):Meets Tryz.prog 197 [.str s,.str p] (.bool (zh s p)) []:=by
 refine an (fn:=Tryz.f197) Tryz.func197 rfl fb197 (by kernel_rfl) (Nat.le_of_ble_eq_true rfl) ?_
 refine aa ?_
 simp only[go_sem]
 repeat first|(with_reducible refine ad ?_ ?_;exact byD)|(with_reducible refine ae ?_ ?_;exact byQ)
 refine aa ?_
 simp only[go_sem]
 refine cw_m (zlx s p hs) byW byT ?_
 simp only[go_sem]
 refine af ?_
 simp only[go_sem]
 exact aq rfl
def isIn (a b:Str):Bool:=decide (a=b) || zh a (b++[47])
theorem In_c (a b:Str) (hs:a.length<4611686018427387904) (hb:b.length<4611686018427387904):Meets Tryz.prog 186 [.str a,.str b] (.bool (isIn a b)) []:=by
 refine an (fn:=Tryz.f186) Tryz.func186 rfl fb186 (by kernel_rfl) (Nat.le_of_ble_eq_true rfl) ?_
 refine aa ?_
 simp only[go_sem]
 repeat first|(with_reducible refine ad ?_ ?_;exact byD)|(with_reducible refine ae ?_ ?_;exact byQ)
 refine aa ?_
 simp only[go_sem]
 intro t7 e7
 repeat ((with_reducible first|refine ad ?_ ?_|refine ae ?_ ?_);focus (first|exact byD|exact byQ|((refine Sd.mk ?_;simp;omega))))
 repeat first|(with_reducible refine ad ?_ ?_;exact byD)|(with_reducible refine ae ?_ ?_;exact byQ)
 refine⟨_,fun hp=>cw_m (zsk _ _ hs) byW byT ⟨rfl,rfl⟩, ?_⟩
 simp only[go_sem]
 intro t13 e13
 rw[az] at e13
 subst e7 e13
 refine af ?_
 simp only[go_sem]
 refine aq ?_
 simp[isIn]
theorem Check_c (s:Str) (hs:s.length<4611686018427387904):Meets Tryz.prog 66 [.str s] (.int .i64 (bn [s])) []:=by
 refine an (fn:=Tryz.f66) Tryz.func66 rfl fb66 (by kernel_rfl) (Nat.le_of_ble_eq_true rfl) ?_
 refine aa ?_
 simp only[go_sem]
 repeat first|(with_reducible refine ad ?_ ?_;exact byD)|(with_reducible refine ae ?_ ?_;exact byQ)
 refine aa ?_
 simp only[go_sem]
 refine cw_v 2 (zpl [s] (by simp) (by simpa using hs)) byV byC rfl ?_
 simp only[go_sem]
 refine af ?_
 simp only[go_sem]
 exact am rfl
end Go.VM.Tryz
end
section
open Go Go.VM Go.Proofs Tether
namespace Go.VM.Tryz
abbrev lix (s:Str) (c:Int):Int:=lixN s c s.length
theorem vp (s:Str) (c:Int):∀ n,-1≤lixN s c n∧lixN s c n<n
 | 0=>by simp[lixN]
 | n+1=>by
   have:=vp s c n
   simp only[lixN]
   split<;>omega
def bq (s:Str):Str:=s.take (lix s 47).toNat
def mu (s:Str):Str:=s.drop (lix s 47+1).toNat
theorem z1a (s:Str) (hs:s.length<4611686018427387904):Meets Tryz.prog 169 [.str s] (.tup [.str (bq s),.str (mu s)]) []:=by
 refine an (fn:=Tryz.f169) Tryz.func169 rfl fb169 (by kernel_rfl) (Nat.le_of_ble_eq_true rfl) ?_
 have hlx:=vp s 47 s.length
 refine aa ?_
 simp only[go_sem]
 repeat first|(with_reducible refine ad ?_ ?_;exact byD)|(with_reducible refine ae ?_ ?_;exact byQ)
 refine aa ?_
 simp only[go_sem]
 refine cw_m (zuk s 47 hs) byW byT ?_
 simp only[go_sem]
 refine ab (bc cj [2,3,6,7] (.first 0 (.first 1 (.first 4 (.first 5 (.alt 2 (.alt 3 (.first 8 (.one 6 (.one 7 (.first 9 (.done))))) (.one 6 (.alt 3 (.first 8 (.one 7 (.first 9 (.done)))) (.one 7 (.one 3 (.first 8 (.first 9 (.done)))))))) (.one 6 (.alt 2 (.alt 3 (.first 8 (.one 7 (.first 9 (.done)))) (.one 7 (.one 3 (.first 8 (.first 9 (.done)))))) (.one 7 (.one 2 (.one 3 (.first 8 (.first 9 (.done))))))))))))) (by kernel_rfl) ?_)
 simp only[go_sem]
 refine⟨?_, ?_⟩
 ·
  refine⟨?_, ?_⟩
  ·
   repeat first|(with_reducible refine ad ?_ ?_;exact byD)|(with_reducible refine ae ?_ ?_;exact byQ)
   intro t13 e13
   (try replace e13:=w64 e13 (by omega) (by omega))
   repeat first|(with_reducible refine ad ?_ ?_;exact byD)|(with_reducible refine ae ?_ ?_;exact byQ)
   refine af ?_
   simp only[go_sem]
   refine cy rfl ?_
   have h1:(if lixN s 47 s.length > 0 then lixN s 47 s.length else 0).toNat=(lixN s 47 s.length).toNat:=by split<;>omega
   subst e13
   rw[h1]
   exact bf _
  ·
   intro t13 e13
   (try replace e13:=w64 e13 (by omega) (by omega))
   refine⟨?_, ?_⟩
   ·
    repeat first|(with_reducible refine ad ?_ ?_;exact byD)|(with_reducible refine ae ?_ ?_;exact byQ)
    refine af ?_
    simp only[go_sem]
    refine cy rfl ?_
    have h1:(if lixN s 47 s.length > 0 then lixN s 47 s.length else 0).toNat=(lixN s 47 s.length).toNat:=by split<;>omega
    subst e13
    rw[h1]
    exact bf _
   ·
    repeat first|(with_reducible refine ad ?_ ?_;exact byD)|(with_reducible refine ae ?_ ?_;exact byQ)
    refine af ?_
    simp only[go_sem]
    refine cy rfl ?_
    have h1:(if lixN s 47 s.length > 0 then lixN s 47 s.length else 0).toNat=(lixN s 47 s.length).toNat:=by split<;>omega
    subst e13
    rw[h1]
    exact bf _
 ·
  intro t13 e13
  (try replace e13:=w64 e13 (by omega) (by omega))
  refine⟨?_, ?_⟩
  ·
   refine⟨?_, ?_⟩
   ·
    repeat first|(with_reducible refine ad ?_ ?_;exact byD)|(with_reducible refine ae ?_ ?_;exact byQ)
    refine af ?_
    simp only[go_sem]
    refine cy rfl ?_
    have h1:(if lixN s 47 s.length > 0 then lixN s 47 s.length else 0).toNat=(lixN s 47 s.length).toNat:=by split<;>omega
    subst e13
    rw[h1]
    exact bf _
   ·
    repeat first|(with_reducible refine ad ?_ ?_;exact byD)|(with_reducible refine ae ?_ ?_;exact byQ)
    refine af ?_
    simp only[go_sem]
    refine cy rfl ?_
    have h1:(if lixN s 47 s.length > 0 then lixN s 47 s.length else 0).toNat=(lixN s 47 s.length).toNat:=by split<;>omega
    subst e13
    rw[h1]
    exact bf _
  ·
   repeat first|(with_reducible refine ad ?_ ?_;exact byD)|(with_reducible refine ae ?_ ?_;exact byQ)
   refine af ?_
   simp only[go_sem]
   refine cy rfl ?_
   have h1:(if lixN s 47 s.length > 0 then lixN s 47 s.length else 0).toNat=(lixN s 47 s.length).toNat:=by split<;>omega
   subst e13
   rw[h1]
   exact bf _
def qa (s f t:Str):Str × Int :=
 if bn [s,f,t]≠0 then ([],bn [s,f,t])
 else if isIn s f=false then ([],5)
 else if gw (t++s.drop f.length) then ([],2)
 else (t++s.drop f.length,0)
theorem zbb {a b:Str} (h:isIn a b=true):b.length≤a.length:=by
 simp only[isIn,zh,Bool.or_eq_true,decide_eq_true_eq,Bool.and_eq_true] at h
 rcases h with rfl | ⟨h,_⟩
 ·exact Nat.le_refl _
 ·simp at h;omega
theorem z2s (s f t:Str) (hs:s.length+t.length<4611686018427387904) (hf:f.length<4611686018427387904):Meets Tryz.prog 191 [.str s,.str f,.str t] (.tup [.str (qa s f t).1,.int .i64 (qa s f t).2]) []:=by
 refine an (fn:=Tryz.f191) Tryz.func191 rfl fb191 (by kernel_rfl) (Nat.le_of_ble_eq_true rfl) ?_
 refine aa ?_
 simp only[go_sem]
 repeat first|(with_reducible refine ad ?_ ?_;exact byD)|(with_reducible refine ae ?_ ?_;exact byQ)
 refine ab ?_
 refine aa ?_
 simp only[go_sem]
 refine cw_v 2 (zpl [s,f,t] (by simp) (by simp;omega)) byV byC rfl ?_
 simp only[go_sem]
 refine aa ?_
 simp only[go_sem]
 intro t16 e16
 subst e16
 refine ah _ rfl (fun h16=>?_) (fun h16=>?_)
 ·
  (try simp only[go_sem] at h16)
  refine aa ?_
  simp only[go_sem]
  refine af ?_
  simp only[go_sem]
  refine cy rfl ?_
  unfold qa
  simp_all [wk]
  exact ak _
 ·
  (try simp only[go_sem] at h16)
  refine ag ?_
  (try simp only[go_sem])
  refine ab ?_
  refine aa ?_
  simp only[go_sem]
  refine cw_m (In_c s f (by omega) hf) byW byT ?_
  simp only[go_sem]
  intro t21 e21
  subst e21
  refine ah _ rfl (fun h21=>?_) (fun h21=>?_)
  ·
   (try simp only[go_sem] at h21)
   refine aa ?_
   simp only[go_sem]
   refine af ?_
   simp only[go_sem]
   refine cy rfl ?_
   unfold qa
   simp_all [wk]
   exact ak _
  ·
   (try simp only[go_sem] at h21)
   have hin:isIn s f=true:=by simpa using h21
   have hfl:=zbb hin
   refine ag ?_
   (try simp only[go_sem])
   refine aa ?_
   simp only[go_sem]
   repeat ((with_reducible first|refine ad ?_ ?_|refine ae ?_ ?_);focus (first|exact byD|exact byQ|((refine Sd.mk ?_;simp;omega))))
   repeat first|(with_reducible refine ad ?_ ?_;exact byD)|(with_reducible refine ae ?_ ?_;exact byQ)
   refine ab ?_
   refine aa ?_
   simp only[go_sem]
   refine cw_m (great _) byW byT ?_
   simp only[go_sem]
   refine ah _ rfl (fun h29=>?_) (fun h29=>?_)
   ·
    (try simp only[go_sem] at h29)
    refine aa ?_
    simp only[go_sem]
    refine af ?_
    simp only[go_sem]
    refine cy rfl ?_
    unfold qa
    simp_all [wk]
    exact ak _
   ·
    (try simp only[go_sem] at h29)
    refine ag ?_
    (try simp only[go_sem])
    refine aa ?_
    simp only[go_sem]
    refine af ?_
    simp only[go_sem]
    refine cy rfl ?_
    unfold qa
    simp_all [wk]
    exact ak _
end Go.VM.Tryz
end
section
open Go Go.VM Go.Proofs Tether
namespace Go.VM.Tryz
def mj (l:List Str):Nat→Str
 | 0=>[]
 | i+1=>(if i=0 then mj l i else mj l i++[47])++l.getD i []
end Go.VM.Tryz
end
section
open Go Go.VM Go.Proofs Tether
namespace Go.VM.Tryz
def inP (a b:List Str):Bool:=decide (b.length≤a.length) && (List.range b.length).all fun i=>decide (a.getD i []=b.getD i [])
end Go.VM.Tryz
end
section
open Go Go.VM
namespace Tether
structure Entry where
 path:Str
 folder:Bool
 text:Str
 version:Int
 deriving Inhabited,DecidableEq
def Entry.enc (x:Entry):List V:=[.str x.path,.bool x.folder,.str x.text,.int .i64 x.version]
structure Change where
 kind:Int
 path:Str
 to:Str
 text:Str
 base:Int
 deriving Inhabited,DecidableEq
def Change.enc (c:Change):List V:=[.int .i64 c.kind,.str c.path,.str c.to,.str c.text,.int .i64 c.base]
attribute [go_sem] Entry.enc Change.enc
def bo (l:List Entry):Prop:=l.Pairwise fun a b=>a.path<b.path
theorem qx {a b c:Str} (h:a<b) (k:b<c):a<c:=List.lt_trans h k
theorem eq (a:Str):¬ a<a:=List.lt_irrefl a
theorem xj {a b:Str} (h:a<b):¬ b<a:=fun k=>eq a (qx h k)
def eIx (l:List Entry) (p:Str):Nat:=l.findIdx fun x=>!(blt x.path p)
def hasE (l:List Entry) (p:Str):Bool:=decide (eIx l p<l.length) && decide ((l.getD (eIx l p) default).path=p)
def zjh (l:List Entry) (p:Str):Option Entry:=l.find? fun x=>decide (x.path=p)
theorem zdp (l:List Entry) (p:Str):eIx l p≤l.length:=List.findIdx_le_length
theorem zmn {l:List Entry} {p:Str} {j:Nat} (h:j<eIx l p):(l.getD j default).path<p:=by
 have hl:j<l.length:=Nat.lt_of_lt_of_le h (zdp l p)
 have:=List.not_of_lt_findIdx (p:=fun x:Entry=>!(blt x.path p)) h
 rw[List.getD_eq_getElem?_getD,List.getElem?_eq_getElem hl]
 exact blt_iff.1 (by simpa using this)
theorem zne {l:List Entry} (hs:bo l) {p:Str} {j:Nat} (h:eIx l p≤j) (hj:j<l.length):¬ (l.getD j default).path<p:=by
 have hi:eIx l p<l.length:=by omega
 have h1:¬ (l[eIx l p]).path<p:=by
  have:(!(blt (l[eIx l p]).path p))=true:=List.findIdx_getElem (p:=fun x:Entry=>!(blt x.path p)) (w:=hi)
  intro h2
  rw[blt_iff.2 h2] at this
  cases this
 rw[List.getD_eq_getElem?_getD,List.getElem?_eq_getElem hj]
 simp only[Option.getD_some]
 rcases Nat.eq_or_lt_of_le h with h2|h2
 ·subst h2;exact h1
 ·intro h3
  have:=List.pairwise_iff_getElem.1 hs (eIx l p) j hi hj h2
  exact h1 (qx this h3)
theorem si {l:List Entry} (hs:bo l) {i j:Nat} (hi:i<l.length) (hj:j<l.length) (h:l[i].path=l[j].path):i=j:=by
 rcases Nat.lt_trichotomy i j with h1|h1|h1
 ·have:=List.pairwise_iff_getElem.1 hs i j hi hj h1
  rw[h] at this
  exact absurd this (eq _)
 ·exact h1
 ·have:=List.pairwise_iff_getElem.1 hs j i hj hi h1
  rw[h] at this
  exact absurd this (eq _)
theorem iz {l:List Entry} (hs:bo l) {x y:Entry} (hx:x∈l) (hy:y∈l) (h:x.path=y.path):x=y:=by
 obtain⟨i,hi,rfl⟩:=List.getElem_of_mem hx
 obtain⟨j,hj,rfl⟩:=List.getElem_of_mem hy
 obtain rfl:=si hs hi hj h
 rfl
theorem mn {l:List Entry} {p:Str} {x:Entry} (h:zjh l p=some x):x∈l∧x.path=p :=
 ⟨List.mem_of_find?_eq_some h,by simpa using List.find?_some h⟩
theorem findE_none {l:List Entry} {p:Str}:zjh l p=none↔∀ x∈l,x.path≠p:=by
 simp[zjh,List.find?_eq_none]
theorem zbg {l:List Entry} (hs:bo l) {x:Entry} (h:x∈l):zjh l x.path=some x:=by
 cases hf:zjh l x.path with
 | none=>exact absurd rfl (findE_none.1 hf x h)
 | some y =>
   obtain⟨h1,h2⟩:=mn hf
   rw[iz hs h1 h h2]
theorem zad {l:List Entry} (hs:bo l) (p:Str):zjh l p=if hasE l p=true then some (l.getD (eIx l p) default) else none:=by
 by_cases h:hasE l p=true
 ·rw[if_pos h]
  simp only[hasE,Bool.and_eq_true,decide_eq_true_eq] at h
  have hm:l.getD (eIx l p) default∈l:=by
   rw[List.getD_eq_getElem?_getD,List.getElem?_eq_getElem h.1]
   exact List.getElem_mem _
  have:=zbg hs hm
  rwa [h.2] at this
 ·rw[if_neg h,findE_none]
  intro x hx hp
  obtain⟨j,hj,rfl⟩:=List.getElem_of_mem hx
  apply h
  have hjd:l.getD j default=l[j]:=by rw[List.getD_eq_getElem?_getD,List.getElem?_eq_getElem hj];rfl
  have h1:eIx l p≤j:=by
   rcases Nat.lt_or_ge j (eIx l p) with h2|h2
   ·have:=zmn h2
    rw[hjd,hp] at this
    exact absurd this (eq _)
   ·exact h2
  have hlt:eIx l p<l.length:=by omega
  simp only[hasE,Bool.and_eq_true,decide_eq_true_eq]
  refine⟨hlt, ?_⟩
  rcases Nat.eq_or_lt_of_le h1 with h2|h2
  ·rw[h2,hjd,hp]
  ·have h3:=List.pairwise_iff_getElem.1 hs (eIx l p) j hlt hj h2
   rw[hp] at h3
   have h4:=zne hs (Nat.le_refl (eIx l p)) hlt
   rw[List.getD_eq_getElem?_getD,List.getElem?_eq_getElem hlt] at h4
   exact absurd h3 h4
theorem pr {l:List Entry} (hs:bo l) {p:Str}:hasE l p=true↔∃ x∈l,x.path=p:=by
 have h:=zad hs p
 constructor
 ·intro h1
  rw[if_pos h1] at h
  exact⟨_,(mn h).1,(mn h).2⟩
 ·rintro⟨x,hx,rfl⟩
  rw[zbg hs hx] at h
  by_cases h1:hasE l x.path=true
  ·exact h1
  ·rw[if_neg h1] at h
   cases h
theorem zxv {l:List Entry} {p:Str} {j:Nat} (h:j<eIx l p):cmpS (l.getD j default).path p<0:=cmpS_lt.2 (zmn h)
theorem zxs {l:List Entry} (hs:bo l) {p:Str} {j:Nat} (h:eIx l p≤j) (hj:j<l.length):0≤cmpS (l.getD j default).path p:=by
 have:=zne hs h hj
 rw[← cmpS_lt] at this
 omega
def putE (l:List Entry) (x:Entry):List Entry:=if hasE l x.path=true then l.set (eIx l x.path) x else l.take (eIx l x.path)++x::l.drop (eIx l x.path)
theorem zet {l:List Entry} {p:Str} {x:Entry} (h:x∈l.take (eIx l p)):x.path<p:=by
 obtain⟨j,hj,rfl⟩:=List.getElem_of_mem h
 simp only[List.length_take] at hj
 have:=zmn (l:=l) (p:=p) (j:=j) (by omega)
 rw[List.getD_eq_getElem?_getD,List.getElem?_eq_getElem (by omega)] at this
 simpa using this
theorem zft {l:List Entry} (hs:bo l) {p:Str} {x:Entry} (h:x∈l.drop (if hasE l p=true then eIx l p+1 else eIx l p)):p<x.path:=by
 obtain⟨j,hj,rfl⟩:=List.getElem_of_mem h
 simp only[List.length_drop] at hj
 simp only[List.getElem_drop]
 have hjl:(if hasE l p=true then eIx l p+1 else eIx l p)+j<l.length:=by omega
 have h1:eIx l p≤(if hasE l p=true then eIx l p+1 else eIx l p)+j:=by split<;>omega
 have h2:=zne hs h1 hjl
 rw[List.getD_eq_getElem?_getD,List.getElem?_eq_getElem hjl] at h2
 simp only[Option.getD_some] at h2
 rcases qk (l[(if hasE l p=true then eIx l p+1 else eIx l p)+j]).path p with h3|h3|h3
 ·exact absurd h3 h2
 ·exfalso
  have hh:hasE l p=true:=(pr hs).2 ⟨_,List.getElem_mem hjl,h3⟩
  simp only[hh,if_true] at h3 hjl
  have hh':=hh
  simp only[hasE,Bool.and_eq_true,decide_eq_true_eq] at hh'
  have h5:(l[eIx l p]'hh'.1).path=p:=by
   have:=hh'.2
   rw[List.getD_eq_getElem?_getD,List.getElem?_eq_getElem hh'.1] at this
   exact this
  have:=si hs hjl hh'.1 (by rw[h3,h5])
  omega
 ·exact h3
theorem zpa (l:List Entry) (x:Entry):putE l x=l.take (eIx l x.path)++x::l.drop (if hasE l x.path=true then eIx l x.path+1 else eIx l x.path):=by
 unfold putE
 by_cases h:hasE l x.path=true
 ·rw[if_pos h,if_pos h]
  simp only[hasE,Bool.and_eq_true,decide_eq_true_eq] at h
  rw[List.set_eq_take_append_cons_drop,if_pos h.1]
 ·rw[if_neg h,if_neg h]
theorem fq {l:List Entry} (hs:bo l) (x:Entry):bo (putE l x):=by
 rw[zpa]
 unfold bo
 rw[List.pairwise_append]
 refine⟨hs.sublist (List.take_sublist _ _),List.pairwise_cons.2 ⟨fun y hy=>zft hs hy,hs.sublist (List.drop_sublist _ _)⟩,fun a ha b hb=>?_⟩
 rcases List.mem_cons.1 hb with rfl|hb
 ·exact zet ha
 ·exact qx (zet ha) (zft hs hb)
theorem je {l:List Entry} (hs:bo l) {x y:Entry}:y∈putE l x↔y=x∨(y∈l∧y.path≠x.path):=by
 rw[zpa]
 constructor
 ·intro h
  rcases List.mem_append.1 h with h|h
  ·exact .inr ⟨List.mem_of_mem_take h,fun e=>eq _ (e ▸ zet h)⟩
  ·rcases List.mem_cons.1 h with h|h
   ·exact .inl h
   ·exact .inr ⟨List.mem_of_mem_drop h,fun e=>by have:=zft hs h;rw[e] at this;exact eq _ this⟩
 ·rintro (rfl | ⟨h1,h2⟩)
  ·simp
  ·have hsplit:l=l.take (eIx l x.path)++l.drop (eIx l x.path):=(List.take_append_drop _ _).symm
   rw[hsplit] at h1
   rcases List.mem_append.1 h1 with h|h
   ·exact List.mem_append_left _ h
   ·apply List.mem_append_right
    apply List.mem_cons_of_mem
    by_cases hh:hasE l x.path=true
    ·rw[if_pos hh]
     simp only[hasE,Bool.and_eq_true,decide_eq_true_eq] at hh
     rw[List.drop_eq_getElem_cons hh.1] at h
     rcases List.mem_cons.1 h with e|h
     ·exfalso
      have:=hh.2
      rw[List.getD_eq_getElem?_getD,List.getElem?_eq_getElem hh.1] at this
      exact h2 (by rw[e];exact this)
     ·exact h
    ·rw[if_neg hh]
     exact h
theorem vv (l:List Entry) (x:Entry):(putE l x).length=if hasE l x.path=true then l.length else l.length+1:=by
 have hle:=zdp l x.path
 unfold putE
 split
 ·simp
 ·simp
  omega
theorem ef {l:List Entry} (hs:bo l) (p:Entry→Bool):bo (l.filter p):=List.Pairwise.filter _ hs
end Tether
end
section
open Go Go.VM Go.Proofs Tether
namespace Go.VM.Tryz
theorem zqp (a:Str):Meets Tryz.prog 131 [.str a] (.bool false) []:=by
 refine an (fn:=Tryz.f131) Tryz.func131 rfl fb131 (by kernel_rfl) (Nat.le_of_ble_eq_true rfl) ?_
 refine aa ?_
 simp only[go_sem]
 repeat first|(with_reducible refine ad ?_ ?_;exact byD)|(with_reducible refine ae ?_ ?_;exact byQ)
 refine aa ?_
 simp only[go_sem]
 intro t5 e5
 subst e5
 refine af ?_
 simp only[go_sem]
 exact aq (by simp)
theorem rq (a b:Str):Meets Tryz.prog 100 [.str a,.str b] (.int .i64 (cmpS a b)) []:=by
 refine an (fn:=Tryz.f100) Tryz.func100 rfl fb100 (by kernel_rfl) (Nat.le_of_ble_eq_true rfl) ?_
 refine aa ?_
 simp only[go_sem]
 repeat first|(with_reducible refine ad ?_ ?_;exact byD)|(with_reducible refine ae ?_ ?_;exact byQ)
 refine aa ?_
 simp only[go_sem]
 refine cw_m (zqp a) byW byT ?_
 simp only[go_sem]
 refine aa ?_
 simp only[go_sem]
 refine cw_m (zqp b) byW byT ?_
 simp only[go_sem]
 refine ab ?_
 refine aa ?_
 simp only[go_sem]
 refine ah _ rfl (fun h11=>ew h11) (fun h11=>?_)
 refine ag ?_
 (try simp only[go_sem])
 refine ab ?_
 refine aa ?_
 simp only[go_sem]
 refine ah _ rfl (fun h13=>ew h13) (fun h13=>?_)
 refine ag ?_
 (try simp only[go_sem])
 refine ab ?_
 refine aa ?_
 simp only[go_sem]
 intro t16 e16
 subst e16
 refine ah _ rfl (fun h16=>?_) (fun h16=>?_)
 ·
  (try simp only[go_sem] at h16)
  refine aa ?_
  simp only[go_sem]
  refine af ?_
  simp only[go_sem]
  refine am ?_
  rw[cmpS,if_pos h16]
 ·
  (try simp only[go_sem] at h16)
  refine ag ?_
  (try simp only[go_sem])
  refine ab ?_
  refine aa ?_
  simp only[go_sem]
  intro t19 e19
  subst e19
  refine ah _ rfl (fun h19=>?_) (fun h19=>?_)
  ·
   (try simp only[go_sem] at h19)
   refine aa ?_
   simp only[go_sem]
   refine af ?_
   simp only[go_sem]
   refine am ?_
   have h1:¬ a<b:=fun h=>by rw[blt_iff.2 h] at h16;cases h16
   have h2:b<a:=by
    rcases qk a b with h|h|h
    ·exact absurd h h1
    ·exact absurd h h19.2
    ·exact h
   rw[cmpS,if_neg (by simp[h16]),if_pos (blt_iff.2 h2)]
  ·
   (try simp only[go_sem] at h19)
   refine ag ?_
   (try simp only[go_sem])
   refine aa ?_
   simp only[go_sem]
   refine af ?_
   simp only[go_sem]
   refine am ?_
   rcases h19 with h|h
   ·rw[h] at h16;cases h16
   ·subst h
    exact (cmpS_eq.2 rfl).symm
theorem pa (f:Nat) (caps:List V) (hc:ltrs 0 caps=true) (p:Entry→Bool) (l:List Entry) (hp:∀ x∈l,Meets Tryz.prog f (.agg (Entry.enc x)::caps) (.bool (p x)) []) (hl:l.length<4611686018427387904) :
  Meets Tryz.prog 198 [lstV 4 Entry.enc default l,.fn f [] caps] (.int .i64 (idxF p l)) []:=by
 refine an (fn:=Tryz.f198) Tryz.func198 rfl fb198 (by kernel_rfl) (Nat.le_of_ble_eq_true rfl) ?_
 refine aa ?_
 simp only[go_sem]
 repeat first|(with_reducible refine ad ?_ ?_;exact byD)|(with_reducible refine ae ?_ ?_;exact byQ)
 refine ab ?_
 refine aa ?_
 simp only[go_sem]
 refine ai ?_
 refine bm (σ:=Nat) (fun i=>i≤l.length∧∀ j,j<i→p (l.getD j default)=false) (fun i=>[⟨8,0,[],.int .i64 (i:Nat)⟩]) [0,1,7] (fun i=>l.length-i) 0 ⟨Nat.zero_le _,fun j hj=>absurd hj (Nat.not_lt_zero j)⟩ (Nat.zero_le _) byC (fun i hI1=>?_)
 simp only[go_sem]
 refine aa ?_
 simp only[go_sem]
 repeat first|(with_reducible refine ad ?_ ?_;exact byD)|(with_reducible refine ae ?_ ?_;exact byQ)
 intro t9 e9
 subst e9
 refine ab ?_
 refine ah _ rfl (fun h9=>?_) (fun h9=>?_)
 ·
  (try simp only[go_sem] at h9)
  refine ag ?_
  (try simp only[go_sem])
  refine ab (ai ?_)
  refine aa ?_
  simp only[go_sem]
  refine aa ?_
  simp only[go_sem]
  repeat first|(with_reducible refine ad ?_ ?_;exact byD)|(with_reducible refine ae ?_ ?_;exact byQ)
  refine cw_m (hp (l.getD i default) (bj (by omega))) byW byT ?_
  simp only[go_sem]
  refine ah _ rfl (fun h16=>?_) (fun h16=>?_)
  ·
   (try simp only[go_sem] at h16)
   refine aa ?_
   simp only[go_sem]
   refine af ?_
   simp only[go_sem]
   refine am ?_
   rw[qr (by omega) hI1.2 h16]
  ·
   (try simp only[go_sem] at h16)
   refine ag ?_
   (try simp only[go_sem])
   refine aj ?_
   simp only[go_sem]
   intro t18 e18
   (try replace e18:=w64 e18 (by omega) (by omega))
   refine ay (i+1) ⟨by omega,bw hI1.2 h16⟩ (by first|omega|(dsimp only;omega)) byC
 ·
  (try simp only[go_sem] at h9)
  refine bk ?_
  simp only[go_sem]
  refine aa ?_
  simp only[go_sem]
  refine af ?_
  simp only[go_sem]
  refine am ?_
  rw[om fun j hj=>hI1.2 j (by omega)]
theorem lj (f:Nat) (caps:List V) (hc:ltrs 0 caps=true) (p:Entry→Bool) (l:List Entry) (hp:∀ x∈l,Meets Tryz.prog f (.agg (Entry.enc x)::caps) (.bool (p x)) []) (hl:l.length<4611686018427387904) :
  Meets Tryz.prog 188 [lstV 4 Entry.enc default l,.fn f [] caps] (.bool (l.any p)) []:=by
 refine an (fn:=Tryz.f188) Tryz.func188 rfl fb188 (by kernel_rfl) (Nat.le_of_ble_eq_true rfl) ?_
 refine aa ?_
 simp only[go_sem]
 repeat first|(with_reducible refine ad ?_ ?_;exact byD)|(with_reducible refine ae ?_ ?_;exact byQ)
 refine aa ?_
 simp only[go_sem]
 refine cw_m (pa f caps hc p l hp hl) byW byT ?_
 simp only[go_sem]
 intro t8 e8
 subst e8
 refine af ?_
 simp only[go_sem]
 refine aq ?_
 rw[← zaf]
theorem kr (l:List Entry) (hl:l.length*48≤140737488355328):Meets Tryz.prog 101 [lstV 4 Entry.enc default l] (.own none 0 4 0 l.length .loose) [.arr 4 l.length (En Entry.enc default l)]:=by
 refine an (fn:=Tryz.f101) Tryz.func101 rfl fb101 (by kernel_rfl) (Nat.le_of_ble_eq_true rfl) ?_
 refine uc 0 rfl fun b hb=>?_
 refine aa ?_
 simp only[go_sem]
 repeat first|(with_reducible refine ad ?_ ?_;exact byD)|(with_reducible refine ae ?_ ?_;exact byQ)
 refine ab ?_
 refine aa ?_
 simp only[go_sem]
 intro t4 e4
 subst e4
 refine ah _ rfl (fun h4=>?_) (fun h4=>?_)
 ·
  (try simp only[go_sem] at h4)
  have hb:=hb h4
  refine aa ?_
  simp only[go_sem]
  refine fp 2 4 (En Entry.enc default l) rfl ?_
  simp only[go_sem]
  refine af ?_
  simp only[go_sem]
  exact ap 1 [0] rfl byC byC byC byC
 ·
  (try simp only[go_sem] at h4)
  refine ag ?_
  (try simp only[go_sem])
  refine aa ?_
  simp only[go_sem]
  repeat first|(with_reducible refine ad ?_ ?_;exact byD)|(with_reducible refine ae ?_ ?_;exact byQ)
  refine af ?_
  simp only[go_sem]
  exact ap 1 [1] rfl byC byC byC byC
theorem ue (f:Nat) (cs:List V) (hcs:ltrs 0 cs=true) (p:Entry→Bool) (l:List Entry) (hp:∀ x∈l,Meets Tryz.prog f [.agg (Entry.enc x),.iptr cs 0] (.bool (p x)) []) (hl:l.length<4611686018427387904) :
  Does Tryz.prog 200 [.own none 0 4 0 l.length .loose,.fn f [] [.ptr 1 0]] [.arr 4 l.length (En Entry.enc default l),.box cs]
   (.own none 0 4 0 (l.filter fun x=>!p x).length .loose) [.arr 4 (l.filter fun x=>!p x).length (En Entry.enc default (l.filter fun x=>!p x)),.box cs]:=by
 refine eb (fn:=Tryz.f200) Tryz.func200 rfl fb200 (by kernel_rfl) (Nat.le_of_ble_eq_true rfl) ?_
 refine aa ?_
 simp only[go_sem,hcs]
 repeat ((with_reducible first|refine ad ?_ ?_|refine ae ?_ ?_);focus (first|(refine Sd.mk ?_;omega)|(refine Sq.mk ?_;omega)|exact Sd.mk trivial|exact Sq.mk trivial|(refine Sq.mk ?_;and_intros<;>first|omega|trivial|(simp;omega))|(refine Sd.of fun hp=>?_;simp only[pc,and_true] at hp;(try subst_vars);simp only[decide_eq_true_eq,Bool.not_eq_true',decide_eq_false_iff_not,Bool.and_eq_true,Bool.or_eq_true,Bool.or_eq_false_iff] at hp;omega)))
 refine aa ?_
 simp only[go_sem,hcs]
 refine cw_v 2 (pa f [.iptr cs 0] rfl p l hp hl) (by first|(simp only[go_sem,hcs];exact ak _)|(first|trivial|(simp only[go_sem,hcs,wk,wks,wkB,wkH,subw,cn,cm,ltb,subr,dc];done)|(simp only[go_sem,hcs,wk,wks,wkB,wkH,subw,cn,cm,ltb,subr,dc];and_intros<;>first|trivial|rfl|omega|assumption|exact Nat.le_refl _|exact ak _|exact bf _|(intros;exact ak _)|(simp;done)|(simp;omega)))) (by (first|trivial|(simp only[go_sem,hcs,wk,wks,wkB,wkH,subw,cn,cm,ltb,subr,dc];done)|(simp only[go_sem,hcs,wk,wks,wkB,wkH,subw,cn,cm,ltb,subr,dc];and_intros<;>first|trivial|rfl|omega|assumption|exact Nat.le_refl _|exact ak _|exact bf _|(intros;exact ak _)|(simp;done)|(simp;omega)))) rfl ?_
 simp only[go_sem,hcs]
 refine ab ?_
 refine aa ?_
 simp only[go_sem,hcs]
 intro t12 e12
 subst e12
 refine ah _ rfl (fun h12=>?_) (fun h12=>?_)
 ·
  (try simp only[go_sem,hcs] at h12)
  refine aa ?_
  simp only[go_sem,hcs]
  refine af ?_
  simp only[go_sem,hcs]
  rw[zhn h12]
  refine⟨[0,1],rfl,rfl, ?_, ?_⟩<;>(first|trivial|(simp only[go_sem,hcs,wk,wks,wkB,wkH,subw,cn,cm,ltb,subr,dc];done)|(simp only[go_sem,hcs,wk,wks,wkB,wkH,subw,cn,cm,ltb,subr,dc];and_intros<;>first|trivial|rfl|omega|assumption|exact Nat.le_refl _|exact ak _|exact bf _|(intros;exact ak _)|(simp;done)|(simp;omega)))
 ·
  (try simp only[go_sem,hcs] at h12)
  obtain⟨iN,hiN,hiN1,hiN2,hiN3⟩:=rh default h12
  refine ag ?_
  (try simp only[go_sem,hcs])
  refine ab ?_
  refine aa ?_
  simp only[go_sem,hcs]
  intro t15 e15
  (try replace e15:=w64 e15 (by omega) (by omega))
  refine ai ?_
  refine gz (σ:=Nat × Nat × List Entry) (fun s=>s.2.1<s.1∧s.1≤l.length∧s.2.2.length=l.length∧s.2.2.take s.2.1=(l.take s.1).filter (fun x=>!p x)∧s.2.2.drop s.1=l.drop s.1) (fun s=>[⟨6,0,[],.int .i64 (s.1:Nat)⟩,⟨5,0,[],.int .i64 (s.2.1:Nat)⟩]) [0,1,4] (fun s=>[.arr 4 l.length (En Entry.enc default s.2.2),.box cs]) (fun s=>l.length-s.1) (iN+1,iN,l) ⟨by dsimp only;omega,by dsimp only;omega,rfl,hiN3.symm,rfl⟩ (fun _=>(Nat.le_of_ble_eq_true rfl)) (by (first|trivial|(simp only[go_sem,hcs,wk,wks,wkB,wkH,subw,cn,cm,ltb,subr,dc];done)|(simp only[go_sem,hcs,wk,wks,wkB,wkH,subw,cn,cm,ltb,subr,dc];and_intros<;>first|trivial|rfl|omega|assumption|exact Nat.le_refl _|exact ak _|exact bf _|(intros;exact ak _)|(simp;done)|(simp;omega)))) (fun s hI1=>?_)
  simp only[go_sem,hcs]
  refine ab ?_
  refine aa ?_
  simp only[go_sem,hcs]
  repeat ((with_reducible first|refine ad ?_ ?_|refine ae ?_ ?_);focus (first|(refine Sd.mk ?_;omega)|(refine Sq.mk ?_;omega)|exact Sd.mk trivial|exact Sq.mk trivial|(refine Sq.mk ?_;and_intros<;>first|omega|trivial|(simp;omega))|(refine Sd.of fun hp=>?_;simp only[pc,and_true] at hp;(try subst_vars);simp only[decide_eq_true_eq,Bool.not_eq_true',decide_eq_false_iff_not,Bool.and_eq_true,Bool.or_eq_true,Bool.or_eq_false_iff] at hp;omega)))
  intro t19 e19
  subst e19
  refine ah _ rfl (fun h19=>?_) (fun h19=>?_)
  ·
   (try simp only[go_sem,hcs] at h19)
   have hmem:s.2.2.getD s.1 default∈l:=by
    have h5:=congrArg (fun z=>z.getD 0 default) hI1.2.2.2.2
    simp only[List.getD_eq_getElem?_getD,List.getElem?_drop,Nat.add_zero] at h5
    rw[List.getD_eq_getElem?_getD,h5,← List.getD_eq_getElem?_getD]
    exact bj (by omega)
   refine ag ?_
   (try simp only[go_sem,hcs])
   refine ab (ai ?_)
   refine aa ?_
   simp only[go_sem,hcs]
   repeat ((with_reducible first|refine ad ?_ ?_|refine ae ?_ ?_);focus (first|(refine Sd.mk ?_;omega)|(refine Sq.mk ?_;omega)|exact Sd.mk trivial|exact Sq.mk trivial|(refine Sq.mk ?_;and_intros<;>first|omega|trivial|(simp;omega))|(refine Sd.of fun hp=>?_;simp only[pc,and_true] at hp;(try subst_vars);simp only[decide_eq_true_eq,Bool.not_eq_true',decide_eq_false_iff_not,Bool.and_eq_true,Bool.or_eq_true,Bool.or_eq_false_iff] at hp;omega)))
   refine aa ?_
   simp only[go_sem,hcs]
   refine cw_v 2 (hp (s.2.2.getD s.1 default) hmem) (by first|(simp only[go_sem,hcs];exact ak _)|(first|trivial|(simp only[go_sem,hcs,wk,wks,wkB,wkH,subw,cn,cm,ltb,subr,dc];done)|(simp only[go_sem,hcs,wk,wks,wkB,wkH,subw,cn,cm,ltb,subr,dc];and_intros<;>first|trivial|rfl|omega|assumption|exact Nat.le_refl _|exact ak _|exact bf _|(intros;exact ak _)|(simp;done)|(simp;omega)))) (by (first|trivial|(simp only[go_sem,hcs,wk,wks,wkB,wkH,subw,cn,cm,ltb,subr,dc];done)|(simp only[go_sem,hcs,wk,wks,wkB,wkH,subw,cn,cm,ltb,subr,dc];and_intros<;>first|trivial|rfl|omega|assumption|exact Nat.le_refl _|exact ak _|exact bf _|(intros;exact ak _)|(simp;done)|(simp;omega)))) rfl ?_
   simp only[go_sem,hcs]
   intro t29 e29
   subst e29
   refine ah _ rfl (fun h29=>?_) (fun h29=>?_)
   ·
    (try simp only[go_sem,hcs] at h29)
    refine aa ?_
    simp only[go_sem,hcs]
    repeat ((with_reducible first|refine ad ?_ ?_|refine ae ?_ ?_);focus (first|(refine Sd.mk ?_;omega)|(refine Sq.mk ?_;omega)|exact Sd.mk trivial|exact Sq.mk trivial|(refine Sq.mk ?_;and_intros<;>first|omega|trivial|(simp;omega))|(refine Sd.of fun hp=>?_;simp only[pc,and_true] at hp;(try subst_vars);simp only[decide_eq_true_eq,Bool.not_eq_true',decide_eq_false_iff_not,Bool.and_eq_true,Bool.or_eq_true,Bool.or_eq_false_iff] at hp;omega)))
    refine aj ?_
    simp only[go_sem,hcs]
    intro t35 e35
    (try replace e35:=w64 e35 (by omega) (by omega))
    refine aj ?_
    simp only[go_sem,hcs]
    intro t21 e21
    (try replace e21:=w64 e21 (by omega) (by omega))
    obtain⟨i1,i2,i3,i4,i5⟩:=hI1
    obtain⟨g1,g2⟩:=zhl (d:=default) i1 (by omega) i3 i4 i5 h29
    refine ay (s.1+1,s.2.1+1,s.2.2.set s.2.1 (s.2.2.getD s.1 default)) ⟨by dsimp only;omega,by dsimp only;omega,by simpa using i3,g1,g2⟩ (by first|omega|(dsimp only;omega)) ?_
    simp only[go_sem,hcs,wk,wks,wkB,wkH,subw,cn,cm,ltb]
    exact⟨⟨by omega,by omega⟩,fun i hi=>su (by omega) (ak _) i⟩
   ·
    (try simp only[go_sem,hcs] at h29)
    refine ag ?_
    (try simp only[go_sem,hcs])
    refine aj ?_
    simp only[go_sem,hcs]
    intro t21 e21
    (try replace e21:=w64 e21 (by omega) (by omega))
    obtain⟨i1,i2,i3,i4,i5⟩:=hI1
    obtain⟨g1,g2⟩:=zhk (d:=default) (by omega) i4 i5 h29
    refine ay (s.1+1,s.2.1,s.2.2) ⟨by dsimp only;omega,by dsimp only;omega,i3,g1,g2⟩ (by first|omega|(dsimp only;omega)) (by (first|trivial|(simp only[go_sem,hcs,wk,wks,wkB,wkH,subw,cn,cm,ltb,subr,dc];done)|(simp only[go_sem,hcs,wk,wks,wkB,wkH,subw,cn,cm,ltb,subr,dc];and_intros<;>first|trivial|rfl|omega|assumption|exact Nat.le_refl _|exact ak _|exact bf _|(intros;exact ak _)|(simp;done)|(simp;omega))))
  ·
   (try simp only[go_sem,hcs] at h19)
   refine bk ?_
   simp only[go_sem,hcs]
   refine aa ?_
   simp only[go_sem,hcs]
   repeat ((with_reducible first|refine ad ?_ ?_|refine ae ?_ ?_);focus (first|(refine Sd.mk ?_;omega)|(refine Sq.mk ?_;omega)|exact Sd.mk trivial|exact Sq.mk trivial|(refine Sq.mk ?_;and_intros<;>first|omega|trivial|(simp;omega))|(refine Sd.of fun hp=>?_;simp only[pc,and_true] at hp;(try subst_vars);simp only[decide_eq_true_eq,Bool.not_eq_true',decide_eq_false_iff_not,Bool.and_eq_true,Bool.or_eq_true,Bool.or_eq_false_iff] at hp;omega)))
   refine aa ?_
   simp only[go_sem,hcs]
   repeat ((with_reducible first|refine ad ?_ ?_|refine ae ?_ ?_);focus (first|(refine Sd.mk ?_;omega)|(refine Sq.mk ?_;omega)|exact Sd.mk trivial|exact Sq.mk trivial|(refine Sq.mk ?_;and_intros<;>first|omega|trivial|(simp;omega))|(refine Sd.of fun hp=>?_;simp only[pc,and_true] at hp;(try subst_vars);simp only[decide_eq_true_eq,Bool.not_eq_true',decide_eq_false_iff_not,Bool.and_eq_true,Bool.or_eq_true,Bool.or_eq_false_iff] at hp;omega)))
   refine af ?_
   simp only[go_sem,hcs]
   obtain⟨i1,i2,i3,i4,i5⟩:=hI1
   have hn:s.1=l.length:=by omega
   rw[hn,List.take_of_length_le (Nat.le_refl _)] at i4
   have hk:(l.filter fun x=>!p x).length=s.2.1:=by rw[← i4];simp;omega
   refine⟨[0,1],rfl,rfl, ?_, ?_⟩
   ·(first|trivial|(simp only[go_sem,hcs,wk,wks,wkB,wkH,subw,cn,cm,ltb,subr,dc];done)|(simp only[go_sem,hcs,wk,wks,wkB,wkH,subw,cn,cm,ltb,subr,dc];and_intros<;>first|trivial|rfl|omega|assumption|exact Nat.le_refl _|exact ak _|exact bf _|(intros;exact ak _)|(simp;done)|(simp;omega)))
   ·simp only[go_sem,hcs,wk,wks,wkB,wkH]
    exact⟨by omega,fun i hi=>xl (fun _=>rfl) (by omega) (by rw[← i4,zcy (by omega)])⟩
theorem zv (f:Nat) (tg:Str) (c:Entry→Int) (hcmp:∀ x,Meets Tryz.prog f [.agg (Entry.enc x),.str tg] (.int .i64 (c x)) []) (l:List Entry) (hl:l.length<4611686018427387904)
  (k:Nat) (hk:k≤l.length) (h1:∀ j,j<k→c (l.getD j default)<0) (h2:∀ j,k≤j→j<l.length→0≤c (l.getD j default)) :
  Meets Tryz.prog 113 [lstV 4 Entry.enc default l,.str tg,.fn f [] []] (.tup [.int .i64 (k:Nat),.bool (decide (k<l.length) && decide (c (l.getD k default)=0))]) []:=by
 refine an (fn:=Tryz.f113) Tryz.func113 rfl fb113 (by kernel_rfl) (Nat.le_of_ble_eq_true rfl) ?_
 refine aa ?_
 simp only[go_sem]
 repeat first|(with_reducible refine ad ?_ ?_;exact byD)|(with_reducible refine ae ?_ ?_;exact byQ)
 refine aa ?_
 simp only[go_sem]
 refine aa ?_
 simp only[go_sem]
 refine ab (ai ?_)
 refine bm (σ:=Nat × Nat) (fun s=>s.1≤k∧k≤s.2∧s.2≤l.length) (fun s=>[⟨9,0,[],.int .i64 (s.1:Nat)⟩,⟨10,0,[],.int .i64 (s.2:Nat)⟩]) [0,1,2,6,7,8] (fun s=>s.2-s.1) (0,l.length) ⟨Nat.zero_le _,hk,Nat.le_refl _⟩ (Nat.zero_le _) byC (fun s hI1=>?_)
 simp only[go_sem]
 refine ab ?_
 refine aa ?_
 simp only[go_sem]
 repeat first|(with_reducible refine ad ?_ ?_;exact byD)|(with_reducible refine ae ?_ ?_;exact byQ)
 intro t17 e17
 subst e17
 refine ah _ rfl (fun h17=>?_) (fun h17=>?_)
 ·
  (try simp only[go_sem] at h17)
  refine ag ?_
  (try simp only[go_sem])
  refine ai ?_
  refine aa ?_
  simp only[go_sem]
  intro t20 e20
  (try replace e20:=w64 e20 (by omega) (by omega))
  repeat first|(with_reducible refine ad ?_ ?_;exact byD)|(with_reducible refine ae ?_ ?_;exact byQ)
  intro t21 e21
  repeat first|(with_reducible refine ad ?_ ?_;exact byD)|(with_reducible refine ae ?_ ?_;exact byQ)
  intro t22 e22
  repeat first|(with_reducible refine ad ?_ ?_;exact byD)|(with_reducible refine ae ?_ ?_;exact byQ)
  intro t23 e23
  have hm:t23=(((s.1+s.2) / 2:Nat):Int):=zlk (by omega) (by omega) e21 e22 e23
  clear e23
  subst hm
  have hlt:(s.1+s.2) / 2<s.2:=by omega
  have hge:s.1≤(s.1+s.2) / 2:=by omega
  refine aa ?_
  simp only[go_sem]
  repeat first|(with_reducible refine ad ?_ ?_;exact byD)|(with_reducible refine ae ?_ ?_;exact byQ)
  refine cw_m (hcmp (l.getD ((s.1+s.2) / 2) default)) byW byT ?_
  simp only[go_sem]
  intro t31 e31
  subst e31
  refine ah _ rfl (fun h31=>?_) (fun h31=>?_)
  ·
   (try simp only[go_sem] at h31)
   refine aj ?_
   simp only[go_sem]
   intro t33 e33
   (try replace e33:=w64 e33 (by omega) (by omega))
   have:(s.1+s.2) / 2<k:=by
    rcases Nat.lt_or_ge ((s.1+s.2) / 2) k with h|h
    ·exact h
    ·have:=h2 _ h (by omega);omega
   refine ay ((s.1+s.2) / 2+1,s.2) ⟨by dsimp only;omega,hI1.2.1,hI1.2.2⟩ (by first|omega|(dsimp only;omega)) byC
  ·
   (try simp only[go_sem] at h31)
   refine aj ?_
   simp only[go_sem]
   have:k≤(s.1+s.2) / 2:=by
    rcases Nat.lt_or_ge ((s.1+s.2) / 2) k with h|h
    ·have:=h1 _ h;omega
    ·exact h
   refine ay (s.1,(s.1+s.2) / 2) ⟨hI1.1,this,by dsimp only;omega⟩ (by first|omega|(dsimp only;omega)) byC
 ·
  (try simp only[go_sem] at h17)
  have hks:s.1=k:=by omega
  refine bk ?_
  simp only[go_sem]
  refine aa ?_
  simp only[go_sem]
  intro t38 e38
  repeat first|(with_reducible refine ad ?_ ?_;exact byD)|(with_reducible refine ae ?_ ?_;exact byQ)
  refine⟨_,fun hp=>cw_m (hcmp (l.getD s.1 default)) byW byT ⟨rfl,rfl⟩, ?_⟩
  simp only[go_sem]
  intro t47 e47
  intro t48 e48
  rw[ar] at e48
  subst e38 e47 e48
  refine af ?_
  simp only[go_sem]
  rw[← hks]
  refine cy rfl ?_
  exact byC
theorem zed (l:List Entry) (i:Nat) (x:Entry) (hi:i≤l.length) (hl:(l.length+1)*48≤140737488355328) :
  Does Tryz.prog 199 [.own none 0 4 0 l.length .loose,.int .i64 (i:Nat),.own (some false) 1 4 0 1 (.exact 1)] [.arr 4 l.length (En Entry.enc default l),.arr 4 1 (fun _=>Entry.enc x)]
   (.own none 2 4 0 (l.length+1) .loose) [.dead,.dead,.arr 4 (l.length+1) (En Entry.enc default (l.take i++x::l.drop i))]:=by
 refine eb (fn:=Tryz.f199) Tryz.func199 rfl fb199 (by kernel_rfl) (Nat.le_of_ble_eq_true rfl) ?_
 refine qv 0 rfl fun C hC=>?_
 refine aa ?_
 simp only[go_sem]
 repeat first|(with_reducible refine ad ?_ ?_;exact byD)|(with_reducible refine ae ?_ ?_;exact byQ)
 refine aa ?_
 simp only[go_sem]
 repeat first|(with_reducible refine ad ?_ ?_;exact byD)|(with_reducible refine ae ?_ ?_;exact byQ)
 refine aa ?_
 simp only[go_sem]
 refine ab ?_
 refine aa ?_
 simp only[go_sem]
 intro t16 e16
 subst e16
 refine ah _ rfl (fun h16=>?_) (fun h16=>?_)
 ·simp at h16
 ·
  (try simp only[go_sem] at h16)
  refine ag ?_
  (try simp only[go_sem])
  refine aa ?_
  simp only[go_sem]
  refine ab ?_
  refine aa ?_
  simp only[go_sem]
  intro t22 e22
  subst e22
  refine ah _ rfl (fun h22=>?_) (fun h22=>?_)
  ·
   (try simp only[go_sem] at h22)
   have hil:i=l.length:=by omega
   subst hil
   refine aa ?_
   simp only[go_sem]
   repeat first|(with_reducible refine ad ?_ ?_;exact byD)|(with_reducible refine ae ?_ ?_;exact byQ)
   refine⟨fun hC25=>?_,fun hC25=>?_⟩
   ·
    repeat first|(with_reducible refine ad ?_ ?_;exact byD)|(with_reducible refine ae ?_ ?_;exact byQ)
    refine ix 0 rfl ?_
    simp only[go_sem]
    refine af ?_
    simp only[go_sem]
    refine⟨[0,1,2],rfl,rfl, ?_, ?_⟩
    ·exact byC
    ·simp only[go_sem,wk,wks,wkB,wkH]
     exact⟨by omega,fun q hq=>dh (fun _=>rfl) (zex (fun _=>rfl) rfl hq)⟩
   ·
    repeat first|(with_reducible refine ad ?_ ?_;exact byD)|(with_reducible refine ae ?_ ?_;exact byQ)
    refine ix 0 rfl ?_
    simp only[go_sem]
    refine af ?_
    simp only[go_sem]
    refine⟨[0,1,2],rfl,rfl, ?_, ?_⟩
    ·exact byC
    ·simp only[go_sem,wk,wks,wkB,wkH]
     exact fun q hq=>dh (fun _=>rfl) (zay (fun _=>rfl) rfl hq)
  ·
   (try simp only[go_sem] at h22)
   refine ag ?_
   (try simp only[go_sem])
   refine ab ?_
   refine aa ?_
   simp only[go_sem]
   intro t28 e28
   (try replace e28:=w64 e28 (by omega) (by omega))
   repeat first|(with_reducible refine ad ?_ ?_;exact byD)|(with_reducible refine ae ?_ ?_;exact byQ)
   intro t31 e31
   subst e31
   refine ah _ rfl (fun h31=>?_) (fun h31=>?_)
   ·
    (try simp only[go_sem] at h31)
    refine aa ?_
    simp only[go_sem]
    repeat first|(with_reducible refine ad ?_ ?_;exact byD)|(with_reducible refine ae ?_ ?_;exact byQ)
    intro t37 e37
    (try replace e37:=w64 e37 (by omega) (by omega))
    intro t39 e39
    (try replace e39:=w64 e39 (by omega) (by omega))
    repeat first|(with_reducible refine ad ?_ ?_;exact byD)|(with_reducible refine ae ?_ ?_;exact byQ)
    refine aa ?_
    simp only[go_sem]
    repeat first|(with_reducible refine ad ?_ ?_;exact byD)|(with_reducible refine ae ?_ ?_;exact byQ)
    refine ab (bc cj [8] (.first 0 (.first 1 (.first 2 (.first 3 (.first 4 (.first 5 (.first 6 (.first 7 (.one 8 (.done)))))))))) (by kernel_rfl) ?_)
    simp only[go_sem]
    intro t49 e49
    (try replace e49:=w64 e49 (by omega) (by omega))
    repeat first|(with_reducible refine ad ?_ ?_;exact byD)|(with_reducible refine ae ?_ ?_;exact byQ)
    refine aa ?_
    simp only[go_sem]
    refine af ?_
    simp only[go_sem]
    have h39:t39.toNat=l.length+1-i:=by omega
    have h49:t49.toNat=i+1:=by omega
    refine⟨[0,1,2],rfl,rfl, ?_, ?_⟩
    ·exact byC
    ·simp only[go_sem,wk,wks,wkB,wkH,h39,h49]
     refine⟨by omega,fun q hq=>dh (fun _=>rfl) ?_⟩
     exact zas (fun _=>rfl) (by omega) hq (by omega) (by omega)
   ·
    (try simp only[go_sem] at h31)
    refine ag ?_
    (try simp only[go_sem])
    refine aa ?_
    simp only[go_sem]
    intro t59 e59
    (try replace e59:=w64 e59 (by omega) (by omega))
    repeat first|(with_reducible refine ad ?_ ?_;exact byD)|(with_reducible refine ae ?_ ?_;exact byQ)
    refine ab ?_
    refine aa ?_
    simp only[go_sem]
    intro t65 e65
    (try replace e65:=w64 e65 (by omega) (by omega))
    repeat first|(with_reducible refine ad ?_ ?_;exact byD)|(with_reducible refine ae ?_ ?_;exact byQ)
    refine zok (tS:=41) (tR:=4) Tryz.func206 (by kernel_rfl) (by kernel_rfl) (by kernel_rfl) (by kernel_rfl) te41 rfl rfl (by decide) (by omega) ?_
    simp only[go_sem]
    intro t68 e68
    subst e68
    refine ah _ rfl (fun h68=>?_) (fun h68=>ew h68)
    refine ab (bc cj [8] (.first 0 (.first 1 (.first 2 (.first 3 (.first 4 (.first 5 (.first 6 (.first 7 (.one 8 (.done)))))))))) (by kernel_rfl) ?_)
    simp only[go_sem]
    intro t72 e72
    (try replace e72:=w64 e72 (by omega) (by omega))
    repeat first|(with_reducible refine ad ?_ ?_;exact byD)|(with_reducible refine ae ?_ ?_;exact byQ)
    refine aa ?_
    simp only[go_sem]
    repeat first|(with_reducible refine ad ?_ ?_;exact byD)|(with_reducible refine ae ?_ ?_;exact byQ)
    refine aa ?_
    simp only[go_sem]
    refine ix 0 rfl ?_
    simp only[go_sem]
    refine af ?_
    simp only[go_sem]
    have h59:t59.toNat=l.length+1:=by omega
    have h72:t72.toNat=i+1:=by omega
    refine⟨[0,1,2],rfl,rfl, ?_, ?_⟩
    ·exact byC
    ·simp only[go_sem,wk,wks,wkB,wkH,h59,h72]
     refine⟨by omega,fun q hq=>dh (fun _=>rfl) ?_⟩
     exact zqo (fun _=>rfl) (by omega) hq (by omega) (by omega)
theorem uw (n:Int):Meets Tryz.prog 148 [.int .i64 n] (.bool (decide (1≤n) && decide (n≤1000000))) []:=by
 refine an (fn:=Tryz.f148) Tryz.func148 rfl fb148 (by kernel_rfl) (Nat.le_of_ble_eq_true rfl) ?_
 refine aa ?_
 simp only[go_sem]
 repeat first|(with_reducible refine ad ?_ ?_;exact byD)|(with_reducible refine ae ?_ ?_;exact byQ)
 refine aa ?_
 simp only[go_sem]
 intro t4 e4
 intro t7 e7
 intro t8 e8
 rw[ar] at e8
 subst e4 e7 e8
 refine af ?_
 simp only[go_sem]
 exact aq rfl
theorem z1o (x:Entry) (p:Str):Meets Tryz.prog 114 [.agg x.enc,.str p] (.int .i64 (cmpS x.path p)) []:=by
 refine an (fn:=Tryz.f114) Tryz.func114 rfl fb114 (by kernel_rfl) (Nat.le_of_ble_eq_true rfl) ?_
 refine aa ?_
 simp only[go_sem]
 repeat first|(with_reducible refine ad ?_ ?_;exact byD)|(with_reducible refine ae ?_ ?_;exact byQ)
 refine aa ?_
 simp only[go_sem]
 refine cw_m (rq x.path p) byW byT ?_
 simp only[go_sem]
 refine af ?_
 simp only[go_sem]
 exact am rfl
abbrev esV (l:List Entry):V:=lstV 4 Entry.enc default l
theorem At_c (l:List Entry) (p:Str) (hs:bo l) (hl:l.length<4611686018427387904):Meets Tryz.prog 67 [esV l,.str p] (.tup [.int .i64 (eIx l p:Nat),.bool (hasE l p)]) []:=by
 have hB:=zv 114 p (fun x=>cmpS x.path p) (fun x=>z1o x p) l hl (eIx l p) (zdp l p) (fun j hj=>zxv hj) (fun j h1 h2=>zxs hs h1 h2)
 have hh:hasE l p=(decide (eIx l p<l.length) && decide (cmpS (l.getD (eIx l p) default).path p=0)):=by
  rw[hasE]
  congr 1
  exact decide_eq_decide.2 cmpS_eq.symm
 rw[hh]
 refine an (fn:=Tryz.f67) Tryz.func67 rfl fb67 (by kernel_rfl) (Nat.le_of_ble_eq_true rfl) ?_
 refine aa ?_
 simp only[go_sem]
 repeat first|(with_reducible refine ad ?_ ?_;exact byD)|(with_reducible refine ae ?_ ?_;exact byQ)
 refine aa ?_
 simp only[go_sem]
 refine cw_m (hB) byW byT ?_
 simp only[go_sem]
 refine af ?_
 simp only[go_sem]
 exact cy rfl (bf _)
def ge (x:Entry):Int :=
 if bn [x.path]≠0 then bn [x.path] else if x.folder=true∧x.text≠[] then 1 else if 300<(x.text.length:Int) then 2 else if x.version<1∨1000000<x.version then 3 else 0
theorem zcs (x:Entry) (hx:x.path.length<4611686018427387904):Meets Tryz.prog 140 [.agg x.enc] (.int .i64 (ge x)) []:=by
 refine an (fn:=Tryz.f140) Tryz.func140 rfl fb140 (by kernel_rfl) (Nat.le_of_ble_eq_true rfl) ?_
 refine aa ?_
 simp only[go_sem]
 repeat first|(with_reducible refine ad ?_ ?_;exact byD)|(with_reducible refine ae ?_ ?_;exact byQ)
 refine ab ?_
 refine aa ?_
 simp only[go_sem]
 refine cw_m (Check_c x.path hx) byW byT ?_
 simp only[go_sem]
 refine aa ?_
 simp only[go_sem]
 intro t8 e8
 subst e8
 refine ah _ rfl (fun h8=>?_) (fun h8=>?_)
 ·
  (try simp only[go_sem] at h8)
  refine aa ?_
  simp only[go_sem]
  refine af ?_
  simp only[go_sem]
  refine am ?_
  unfold ge
  grind
 ·
  (try simp only[go_sem] at h8)
  refine ag ?_
  (try simp only[go_sem])
  refine ab (ai ?_)
  refine aa ?_
  simp only[go_sem]
  intro t16 e16
  intro t17 e17
  rw[ar] at e17
  subst e16 e17
  refine ah _ rfl (fun h10=>?_) (fun h10=>?_)
  ·
   (try simp only[go_sem] at h10)
   refine aa ?_
   simp only[go_sem]
   refine af ?_
   simp only[go_sem]
   refine am ?_
   unfold ge
   grind
  ·
   (try simp only[go_sem] at h10)
   refine aa ?_
   simp only[go_sem]
   intro t22 e22
   subst e22
   refine ah _ rfl (fun h18=>?_) (fun h18=>?_)
   ·
    (try simp only[go_sem] at h18)
    refine aa ?_
    simp only[go_sem]
    refine af ?_
    simp only[go_sem]
    refine am ?_
    unfold ge
    grind
   ·
    (try simp only[go_sem] at h18)
    refine aa ?_
    simp only[go_sem]
    refine cw_m (uw x.version) byW byT ?_
    simp only[go_sem]
    intro t27 e27
    subst e27
    refine ah _ rfl (fun h23=>?_) (fun h23=>?_)
    ·
     (try simp only[go_sem] at h23)
     refine aa ?_
     simp only[go_sem]
     refine af ?_
     simp only[go_sem]
     refine am ?_
     unfold ge
     grind
    ·
     (try simp only[go_sem] at h23)
     refine ag ?_
     (try simp only[go_sem])
     refine aa ?_
     simp only[go_sem]
     refine af ?_
     simp only[go_sem]
     refine am ?_
     unfold ge
     grind
end Go.VM.Tryz
end
