/- The facts on types and functions, by program (gentab.py). -/
import Derived.Test.YtamednbojpnalaaGreatDoorVgG
import Derived.Test.YtamednbojpnalaaGreatDoorProg
import Derived.KernelRfl
set_option linter.unusedVariables false
set_option linter.unusedSimpArgs false
namespace Go.Proofs.YtamednbojpnalaaGreatDoor
open Go.Vg Go.Proofs
@[go_sem] theorem bytes0:Program.bytesOf Tryz.prog 0=0:=by kernel_rfl
@[go_sem] theorem cells3:Program.cellsOf Tryz.prog 3=1:=by kernel_rfl
@[go_sem] theorem bytes3:Program.bytesOf Tryz.prog 3=8:=by kernel_rfl
@[go_sem] theorem info3:infoOK Tryz.prog 3=true:=by kernel_rfl
@[go_sem] theorem zero3:zeroP Tryz.prog 3=[.int .i64 0]:=by kernel_rfl
@[go_sem] theorem zok3:zeroOKP Tryz.prog 3=true:=by kernel_rfl
@[go_sem] theorem elem3:elemOK Tryz.prog 3=true:=by kernel_rfl
@[go_sem] theorem cells4:Program.cellsOf Tryz.prog 4=1:=by kernel_rfl
@[go_sem] theorem info4:infoOK Tryz.prog 4=true:=by kernel_rfl
@[go_sem] theorem zok4:zeroOKP Tryz.prog 4=true:=by kernel_rfl
@[go_sem] theorem cells5:Program.cellsOf Tryz.prog 5=1:=by kernel_rfl
@[go_sem] theorem bytes5:Program.bytesOf Tryz.prog 5=1:=by kernel_rfl
@[go_sem] theorem info5:infoOK Tryz.prog 5=true:=by kernel_rfl
@[go_sem] theorem zero5:zeroP Tryz.prog 5=[.int .u8 0]:=by kernel_rfl
@[go_sem] theorem elem5:elemOK Tryz.prog 5=true:=by kernel_rfl
@[go_sem] theorem cells9:Program.cellsOf Tryz.prog 9=1:=by kernel_rfl
@[go_sem] theorem bytes9:Program.bytesOf Tryz.prog 9=16:=by kernel_rfl
@[go_sem] theorem info9:infoOK Tryz.prog 9=true:=by kernel_rfl
@[go_sem] theorem zero9:zeroP Tryz.prog 9=[.str ⟨#[]⟩]:=by kernel_rfl
@[go_sem] theorem zok9:zeroOKP Tryz.prog 9=true:=by kernel_rfl
@[go_sem] theorem elem9:elemOK Tryz.prog 9=true:=by kernel_rfl
@[go_sem] theorem cells22:Program.cellsOf Tryz.prog 22=1:=by kernel_rfl
@[go_sem] theorem info22:infoOK Tryz.prog 22=true:=by kernel_rfl
@[go_sem] theorem zero22:zeroP Tryz.prog 22=[.slice .nil 0 []]:=by kernel_rfl
@[go_sem] theorem zok22:zeroOKP Tryz.prog 22=true:=by kernel_rfl
@[go_sem] theorem cells26:Program.cellsOf Tryz.prog 26=1:=by kernel_rfl
@[go_sem] theorem zero26:zeroP Tryz.prog 26=[.slice .nil 0 []]:=by kernel_rfl
@[go_sem] theorem zok26:zeroOKP Tryz.prog 26=true:=by kernel_rfl
@[go_sem] theorem cells29:Program.cellsOf Tryz.prog 29=1:=by kernel_rfl
@[go_sem] theorem info29:infoOK Tryz.prog 29=true:=by kernel_rfl
@[go_sem] theorem cells30:Program.cellsOf Tryz.prog 30=1:=by kernel_rfl
@[go_sem] theorem info30:infoOK Tryz.prog 30=true:=by kernel_rfl
@[go_sem] theorem cells32:Program.cellsOf Tryz.prog 32=4:=by kernel_rfl
@[go_sem] theorem bytes32:Program.bytesOf Tryz.prog 32=72:=by kernel_rfl
@[go_sem] theorem info32:infoOK Tryz.prog 32=true:=by kernel_rfl
@[go_sem] theorem zero32:zeroP Tryz.prog 32=[.int .i64 0,.str ⟨#[]⟩,.slice .nil 0 [],.slice .nil 0 []]:=by kernel_rfl
@[go_sem] theorem zok32:zeroOKP Tryz.prog 32=true:=by kernel_rfl
@[go_sem] theorem elem32:elemOK Tryz.prog 32=true:=by kernel_rfl
@[go_sem] theorem cells34:Program.cellsOf Tryz.prog 34=7:=by kernel_rfl
@[go_sem] theorem bytes34:Program.bytesOf Tryz.prog 34=112:=by kernel_rfl
@[go_sem] theorem info34:infoOK Tryz.prog 34=true:=by kernel_rfl
@[go_sem] theorem zero34:zeroP Tryz.prog 34=[.str ⟨#[]⟩,.str ⟨#[]⟩,.int .i64 0,.str ⟨#[]⟩,.slice .nil 0 [],.slice .nil 0 [],.bool false]:=by kernel_rfl
@[go_sem] theorem zok34:zeroOKP Tryz.prog 34=true:=by kernel_rfl
@[go_sem] theorem elem34:elemOK Tryz.prog 34=true:=by kernel_rfl
@[go_sem] theorem cells37:Program.cellsOf Tryz.prog 37=2:=by kernel_rfl
@[go_sem] theorem info37:infoOK Tryz.prog 37=true:=by kernel_rfl
@[go_sem] theorem zero37:zeroP Tryz.prog 37=[.slice .nil 0 [],.str ⟨#[]⟩]:=by kernel_rfl
@[go_sem] theorem zok37:zeroOKP Tryz.prog 37=true:=by kernel_rfl
@[go_sem] theorem cells42:Program.cellsOf Tryz.prog 42=4:=by kernel_rfl
@[go_sem] theorem bytes42:Program.bytesOf Tryz.prog 42=56:=by kernel_rfl
@[go_sem] theorem info42:infoOK Tryz.prog 42=true:=by kernel_rfl
@[go_sem] theorem zero42:zeroP Tryz.prog 42=[.int .i64 0,.str ⟨#[]⟩,.str ⟨#[]⟩,.str ⟨#[]⟩]:=by kernel_rfl
@[go_sem] theorem zok42:zeroOKP Tryz.prog 42=true:=by kernel_rfl
@[go_sem] theorem elem42:elemOK Tryz.prog 42=true:=by kernel_rfl
@[go_sem] theorem cells50:Program.cellsOf Tryz.prog 50=2:=by kernel_rfl
@[go_sem] theorem bytes50:Program.bytesOf Tryz.prog 50=16:=by kernel_rfl
@[go_sem] theorem info50:infoOK Tryz.prog 50=true:=by kernel_rfl
@[go_sem] theorem zero50:zeroP Tryz.prog 50=[.int .i64 0,.int .i64 0]:=by kernel_rfl
@[go_sem] theorem zok50:zeroOKP Tryz.prog 50=true:=by kernel_rfl
@[go_sem] theorem elem50:elemOK Tryz.prog 50=true:=by kernel_rfl
@[go_sem] theorem cells58:Program.cellsOf Tryz.prog 58=1:=by kernel_rfl
@[go_sem] theorem info58:infoOK Tryz.prog 58=true:=by kernel_rfl
@[go_sem] theorem zero58:zeroP Tryz.prog 58=[.slice .nil 0 []]:=by kernel_rfl
@[go_sem] theorem zok58:zeroOKP Tryz.prog 58=true:=by kernel_rfl
@[go_sem] theorem cells61:Program.cellsOf Tryz.prog 61=5:=by kernel_rfl
@[go_sem] theorem bytes61:Program.bytesOf Tryz.prog 61=56:=by kernel_rfl
@[go_sem] theorem info61:infoOK Tryz.prog 61=true:=by kernel_rfl
@[go_sem] theorem zero61:zeroP Tryz.prog 61=[.int .i64 0,.str ⟨#[]⟩,.str ⟨#[]⟩,.int .i64 0,.int .i64 0]:=by kernel_rfl
@[go_sem] theorem zok61:zeroOKP Tryz.prog 61=true:=by kernel_rfl
@[go_sem] theorem elem61:elemOK Tryz.prog 61=true:=by kernel_rfl
@[go_sem] theorem cells71:Program.cellsOf Tryz.prog 71=1:=by kernel_rfl
@[go_sem] theorem zero71:zeroP Tryz.prog 71=[.nilp]:=by kernel_rfl
@[go_sem] theorem zok71:zeroOKP Tryz.prog 71=true:=by kernel_rfl
@[go_sem] theorem cells72:Program.cellsOf Tryz.prog 72=1:=by kernel_rfl
@[go_sem] theorem info72:infoOK Tryz.prog 72=true:=by kernel_rfl
@[go_sem] theorem cells73:Program.cellsOf Tryz.prog 73=1:=by kernel_rfl
@[go_sem] theorem info73:infoOK Tryz.prog 73=true:=by kernel_rfl
@[go_sem] theorem cells74:Program.cellsOf Tryz.prog 74=1:=by kernel_rfl
@[go_sem] theorem info74:infoOK Tryz.prog 74=true:=by kernel_rfl
@[go_sem] theorem cells75:Program.cellsOf Tryz.prog 75=1:=by kernel_rfl
@[go_sem] theorem info75:infoOK Tryz.prog 75=true:=by kernel_rfl
@[go_sem] theorem cells76:Program.cellsOf Tryz.prog 76=1:=by kernel_rfl
@[go_sem] theorem info76:infoOK Tryz.prog 76=true:=by kernel_rfl
@[go_sem] theorem cells77:Program.cellsOf Tryz.prog 77=1:=by kernel_rfl
@[go_sem] theorem info77:infoOK Tryz.prog 77=true:=by kernel_rfl
@[go_sem] theorem zero79:zeroP Tryz.prog 79=[.slice .nil 0 [],.slice .nil 0 [],.nilmap,.slice .nil 0 [],.nilmap,.nilmap,.nilmap]:=by kernel_rfl
@[go_sem] theorem zok79:zeroOKP Tryz.prog 79=true:=by kernel_rfl
@[go_sem] theorem cells80:Program.cellsOf Tryz.prog 80=1:=by kernel_rfl
@[go_sem] theorem bytes80:Program.bytesOf Tryz.prog 80=24:=by kernel_rfl
@[go_sem] theorem info80:infoOK Tryz.prog 80=true:=by kernel_rfl
@[go_sem] theorem zero80:zeroP Tryz.prog 80=[.slice .nil 0 []]:=by kernel_rfl
@[go_sem] theorem zok80:zeroOKP Tryz.prog 80=true:=by kernel_rfl
@[go_sem] theorem elem80:elemOK Tryz.prog 80=true:=by kernel_rfl
@[go_sem] theorem cells86:Program.cellsOf Tryz.prog 86=4:=by kernel_rfl
@[go_sem] theorem bytes86:Program.bytesOf Tryz.prog 86=64:=by kernel_rfl
@[go_sem] theorem info86:infoOK Tryz.prog 86=true:=by kernel_rfl
@[go_sem] theorem zero86:zeroP Tryz.prog 86=[.str ⟨#[]⟩,.str ⟨#[]⟩,.str ⟨#[]⟩,.str ⟨#[]⟩]:=by kernel_rfl
@[go_sem] theorem zok86:zeroOKP Tryz.prog 86=true:=by kernel_rfl
@[go_sem] theorem elem86:elemOK Tryz.prog 86=true:=by kernel_rfl
@[go_sem] theorem cells98:Program.cellsOf Tryz.prog 98=1:=by kernel_rfl
@[go_sem] theorem info98:infoOK Tryz.prog 98=true:=by kernel_rfl
@[go_sem] theorem cells100:Program.cellsOf Tryz.prog 100=5:=by kernel_rfl
@[go_sem] theorem bytes100:Program.bytesOf Tryz.prog 100=80:=by kernel_rfl
@[go_sem] theorem info100:infoOK Tryz.prog 100=true:=by kernel_rfl
@[go_sem] theorem zero100:zeroP Tryz.prog 100=[.int .i64 0,.int .i64 0,.str ⟨#[]⟩,.slice .nil 0 [],.slice .nil 0 []]:=by kernel_rfl
@[go_sem] theorem zok100:zeroOKP Tryz.prog 100=true:=by kernel_rfl
@[go_sem] theorem elem100:elemOK Tryz.prog 100=true:=by kernel_rfl
@[go_sem] theorem cells110:Program.cellsOf Tryz.prog 110=3:=by kernel_rfl
@[go_sem] theorem zero110:zeroP Tryz.prog 110=[.str ⟨#[]⟩,.str ⟨#[]⟩,.bool false]:=by kernel_rfl
@[go_sem] theorem zok110:zeroOKP Tryz.prog 110=true:=by kernel_rfl
@[go_sem] theorem cells115:Program.cellsOf Tryz.prog 115=1:=by kernel_rfl
@[go_sem] theorem info115:infoOK Tryz.prog 115=true:=by kernel_rfl
@[go_sem] theorem cells116:Program.cellsOf Tryz.prog 116=1:=by kernel_rfl
@[go_sem] theorem zero116:zeroP Tryz.prog 116=[.slice .nil 0 []]:=by kernel_rfl
@[go_sem] theorem zok116:zeroOKP Tryz.prog 116=true:=by kernel_rfl
@[go_sem] theorem cells119:Program.cellsOf Tryz.prog 119=3:=by kernel_rfl
@[go_sem] theorem bytes119:Program.bytesOf Tryz.prog 119=48:=by kernel_rfl
@[go_sem] theorem info119:infoOK Tryz.prog 119=true:=by kernel_rfl
@[go_sem] theorem zero119:zeroP Tryz.prog 119=[.str ⟨#[]⟩,.str ⟨#[]⟩,.str ⟨#[]⟩]:=by kernel_rfl
@[go_sem] theorem zok119:zeroOKP Tryz.prog 119=true:=by kernel_rfl
@[go_sem] theorem elem119:elemOK Tryz.prog 119=true:=by kernel_rfl
@[go_sem] theorem cells145:Program.cellsOf Tryz.prog 145=1:=by kernel_rfl
@[go_sem] theorem info145:infoOK Tryz.prog 145=true:=by kernel_rfl
@[go_sem] theorem zero147:zeroP Tryz.prog 147=[.slice .nil 0 [],.nilmap,.nilmap,.slice .nil 0 []]:=by kernel_rfl
@[go_sem] theorem zok147:zeroOKP Tryz.prog 147=true:=by kernel_rfl
@[go_sem] theorem cells155:Program.cellsOf Tryz.prog 155=5:=by kernel_rfl
@[go_sem] theorem bytes155:Program.bytesOf Tryz.prog 155=40:=by kernel_rfl
@[go_sem] theorem info155:infoOK Tryz.prog 155=true:=by kernel_rfl
@[go_sem] theorem zero155:zeroP Tryz.prog 155=[.int .i64 0,.int .i64 0,.int .i64 0,.int .i64 0,.bool false]:=by kernel_rfl
@[go_sem] theorem zok155:zeroOKP Tryz.prog 155=true:=by kernel_rfl
@[go_sem] theorem elem155:elemOK Tryz.prog 155=true:=by kernel_rfl
@[go_sem] theorem cells159:Program.cellsOf Tryz.prog 159=1:=by kernel_rfl
@[go_sem] theorem info159:infoOK Tryz.prog 159=true:=by kernel_rfl
@[go_sem] theorem zero161:zeroP Tryz.prog 161=[.slice .nil 0 [],.nilmap,.slice .nil 0 []]:=by kernel_rfl
@[go_sem] theorem zok161:zeroOKP Tryz.prog 161=true:=by kernel_rfl
@[go_sem] theorem cells163:Program.cellsOf Tryz.prog 163=4:=by kernel_rfl
@[go_sem] theorem zero163:zeroP Tryz.prog 163=[.int .i64 0,.int .i64 0,.int .i64 0,.str ⟨#[]⟩]:=by kernel_rfl
@[go_sem] theorem zok163:zeroOKP Tryz.prog 163=true:=by kernel_rfl
@[go_sem] theorem cells194:Program.cellsOf Tryz.prog 194=2:=by kernel_rfl
@[go_sem] theorem zero194:zeroP Tryz.prog 194=[.str ⟨#[]⟩,.str ⟨#[]⟩]:=by kernel_rfl
@[go_sem] theorem zok194:zeroOKP Tryz.prog 194=true:=by kernel_rfl
@[go_sem] theorem cells200:Program.cellsOf Tryz.prog 200=2:=by kernel_rfl
@[go_sem] theorem zero200:zeroP Tryz.prog 200=[.int .i64 0,.str ⟨#[]⟩]:=by kernel_rfl
@[go_sem] theorem zok200:zeroOKP Tryz.prog 200=true:=by kernel_rfl
@[go_sem] theorem cells202:Program.cellsOf Tryz.prog 202=2:=by kernel_rfl
@[go_sem] theorem zero202:zeroP Tryz.prog 202=[.str ⟨#[]⟩,.str ⟨#[]⟩]:=by kernel_rfl
@[go_sem] theorem zok202:zeroOKP Tryz.prog 202=true:=by kernel_rfl
@[go_sem] theorem cells204:Program.cellsOf Tryz.prog 204=3:=by kernel_rfl
@[go_sem] theorem zero204:zeroP Tryz.prog 204=[.slice .nil 0 [],.str ⟨#[]⟩,.bool false]:=by kernel_rfl
@[go_sem] theorem zok204:zeroOKP Tryz.prog 204=true:=by kernel_rfl
@[go_sem] theorem cells207:Program.cellsOf Tryz.prog 207=1:=by kernel_rfl
@[go_sem] theorem info207:infoOK Tryz.prog 207=true:=by kernel_rfl
@[go_sem] theorem cells209:Program.cellsOf Tryz.prog 209=2:=by kernel_rfl
@[go_sem] theorem bytes209:Program.bytesOf Tryz.prog 209=16:=by kernel_rfl
@[go_sem] theorem info209:infoOK Tryz.prog 209=true:=by kernel_rfl
@[go_sem] theorem zero209:zeroP Tryz.prog 209=[.int .i64 0,.int .i64 0]:=by kernel_rfl
@[go_sem] theorem zok209:zeroOKP Tryz.prog 209=true:=by kernel_rfl
@[go_sem] theorem cells211:Program.cellsOf Tryz.prog 211=6:=by kernel_rfl
@[go_sem] theorem info211:infoOK Tryz.prog 211=true:=by kernel_rfl
@[go_sem] theorem zero211:zeroP Tryz.prog 211=[.slice .nil 0 [],.int .i64 0,.int .i64 0,.int .i64 0,.slice .nil 0 [],.int .i64 0]:=by kernel_rfl
@[go_sem] theorem zok211:zeroOKP Tryz.prog 211=true:=by kernel_rfl
@[go_sem] theorem call8:callB Tryz.prog 8=true:=by kernel_rfl
@[go_sem] theorem call9:callB Tryz.prog 9=true:=by kernel_rfl
@[go_sem] theorem call10:callB Tryz.prog 10=true:=by kernel_rfl
@[go_sem] theorem call11:callB Tryz.prog 11=true:=by kernel_rfl
@[go_sem] theorem call13:callB Tryz.prog 13=true:=by kernel_rfl
@[go_sem] theorem call14:callB Tryz.prog 14=true:=by kernel_rfl
@[go_sem] theorem call15:callB Tryz.prog 15=true:=by kernel_rfl
@[go_sem] theorem call19:callB Tryz.prog 19=true:=by kernel_rfl
@[go_sem] theorem call23:callB Tryz.prog 23=true:=by kernel_rfl
@[go_sem] theorem call24:callB Tryz.prog 24=true:=by kernel_rfl
@[go_sem] theorem call25:callB Tryz.prog 25=true:=by kernel_rfl
@[go_sem] theorem call26:callB Tryz.prog 26=true:=by kernel_rfl
@[go_sem] theorem call27:callB Tryz.prog 27=true:=by kernel_rfl
@[go_sem] theorem call28:callB Tryz.prog 28=true:=by kernel_rfl
@[go_sem] theorem call29:callB Tryz.prog 29=true:=by kernel_rfl
@[go_sem] theorem call30:callB Tryz.prog 30=true:=by kernel_rfl
@[go_sem] theorem call31:callB Tryz.prog 31=true:=by kernel_rfl
@[go_sem] theorem call32:callB Tryz.prog 32=true:=by kernel_rfl
@[go_sem] theorem call33:callB Tryz.prog 33=true:=by kernel_rfl
@[go_sem] theorem call34:callB Tryz.prog 34=true:=by kernel_rfl
@[go_sem] theorem call36:callB Tryz.prog 36=true:=by kernel_rfl
@[go_sem] theorem call39:callB Tryz.prog 39=true:=by kernel_rfl
@[go_sem] theorem call40:callB Tryz.prog 40=true:=by kernel_rfl
@[go_sem] theorem call41:callB Tryz.prog 41=true:=by kernel_rfl
@[go_sem] theorem call42:callB Tryz.prog 42=true:=by kernel_rfl
@[go_sem] theorem call43:callB Tryz.prog 43=true:=by kernel_rfl
@[go_sem] theorem call44:callB Tryz.prog 44=true:=by kernel_rfl
@[go_sem] theorem call45:callB Tryz.prog 45=true:=by kernel_rfl
@[go_sem] theorem call50:callB Tryz.prog 50=true:=by kernel_rfl
@[go_sem] theorem call51:callB Tryz.prog 51=true:=by kernel_rfl
@[go_sem] theorem call52:callB Tryz.prog 52=true:=by kernel_rfl
@[go_sem] theorem call53:callB Tryz.prog 53=true:=by kernel_rfl
@[go_sem] theorem call54:callB Tryz.prog 54=true:=by kernel_rfl
@[go_sem] theorem call55:callB Tryz.prog 55=true:=by kernel_rfl
@[go_sem] theorem call56:callB Tryz.prog 56=true:=by kernel_rfl
@[go_sem] theorem call57:callB Tryz.prog 57=true:=by kernel_rfl
@[go_sem] theorem call58:callB Tryz.prog 58=true:=by kernel_rfl
@[go_sem] theorem call59:callB Tryz.prog 59=true:=by kernel_rfl
@[go_sem] theorem call60:callB Tryz.prog 60=true:=by kernel_rfl
@[go_sem] theorem call64:callB Tryz.prog 64=true:=by kernel_rfl
@[go_sem] theorem call65:callB Tryz.prog 65=true:=by kernel_rfl
@[go_sem] theorem call66:callB Tryz.prog 66=true:=by kernel_rfl
@[go_sem] theorem call67:callB Tryz.prog 67=true:=by kernel_rfl
@[go_sem] theorem call68:callB Tryz.prog 68=true:=by kernel_rfl
@[go_sem] theorem call69:callB Tryz.prog 69=true:=by kernel_rfl
@[go_sem] theorem call74:callB Tryz.prog 74=true:=by kernel_rfl
@[go_sem] theorem call75:callB Tryz.prog 75=true:=by kernel_rfl
@[go_sem] theorem call77:callB Tryz.prog 77=true:=by kernel_rfl
@[go_sem] theorem call78:callB Tryz.prog 78=true:=by kernel_rfl
@[go_sem] theorem call81:callB Tryz.prog 81=true:=by kernel_rfl
@[go_sem] theorem call82:callB Tryz.prog 82=true:=by kernel_rfl
@[go_sem] theorem call83:callB Tryz.prog 83=true:=by kernel_rfl
@[go_sem] theorem call84:callB Tryz.prog 84=true:=by kernel_rfl
@[go_sem] theorem call86:callB Tryz.prog 86=true:=by kernel_rfl
@[go_sem] theorem call87:callB Tryz.prog 87=true:=by kernel_rfl
@[go_sem] theorem call88:callB Tryz.prog 88=true:=by kernel_rfl
@[go_sem] theorem call89:callB Tryz.prog 89=true:=by kernel_rfl
@[go_sem] theorem call94:callB Tryz.prog 94=true:=by kernel_rfl
@[go_sem] theorem call95:callB Tryz.prog 95=true:=by kernel_rfl
@[go_sem] theorem call96:callB Tryz.prog 96=true:=by kernel_rfl
@[go_sem] theorem call97:callB Tryz.prog 97=true:=by kernel_rfl
@[go_sem] theorem call98:callB Tryz.prog 98=true:=by kernel_rfl
@[go_sem] theorem call100:callB Tryz.prog 100=true:=by kernel_rfl
@[go_sem] theorem call101:callB Tryz.prog 101=true:=by kernel_rfl
@[go_sem] theorem call102:callB Tryz.prog 102=true:=by kernel_rfl
@[go_sem] theorem call103:callB Tryz.prog 103=true:=by kernel_rfl
@[go_sem] theorem call104:callB Tryz.prog 104=true:=by kernel_rfl
@[go_sem] theorem call105:callB Tryz.prog 105=true:=by kernel_rfl
@[go_sem] theorem call106:callB Tryz.prog 106=true:=by kernel_rfl
@[go_sem] theorem call107:callB Tryz.prog 107=true:=by kernel_rfl
@[go_sem] theorem call108:callB Tryz.prog 108=true:=by kernel_rfl
@[go_sem] theorem call109:callB Tryz.prog 109=true:=by kernel_rfl
@[go_sem] theorem call110:callB Tryz.prog 110=true:=by kernel_rfl
@[go_sem] theorem call111:callB Tryz.prog 111=true:=by kernel_rfl
@[go_sem] theorem call112:callB Tryz.prog 112=true:=by kernel_rfl
@[go_sem] theorem call113:callB Tryz.prog 113=true:=by kernel_rfl
@[go_sem] theorem call114:callB Tryz.prog 114=true:=by kernel_rfl
@[go_sem] theorem call115:callB Tryz.prog 115=true:=by kernel_rfl
@[go_sem] theorem call116:callB Tryz.prog 116=true:=by kernel_rfl
@[go_sem] theorem call117:callB Tryz.prog 117=true:=by kernel_rfl
@[go_sem] theorem call118:callB Tryz.prog 118=true:=by kernel_rfl
@[go_sem] theorem call119:callB Tryz.prog 119=true:=by kernel_rfl
@[go_sem] theorem call120:callB Tryz.prog 120=true:=by kernel_rfl
@[go_sem] theorem call121:callB Tryz.prog 121=true:=by kernel_rfl
@[go_sem] theorem call122:callB Tryz.prog 122=true:=by kernel_rfl
@[go_sem] theorem call123:callB Tryz.prog 123=true:=by kernel_rfl
@[go_sem] theorem call131:callB Tryz.prog 131=true:=by kernel_rfl
@[go_sem] theorem call132:callB Tryz.prog 132=true:=by kernel_rfl
@[go_sem] theorem call133:callB Tryz.prog 133=true:=by kernel_rfl
@[go_sem] theorem call134:callB Tryz.prog 134=true:=by kernel_rfl
@[go_sem] theorem call135:callB Tryz.prog 135=true:=by kernel_rfl
@[go_sem] theorem call136:callB Tryz.prog 136=true:=by kernel_rfl
@[go_sem] theorem call137:callB Tryz.prog 137=true:=by kernel_rfl
@[go_sem] theorem call143:callB Tryz.prog 143=true:=by kernel_rfl
@[go_sem] theorem call144:callB Tryz.prog 144=true:=by kernel_rfl
@[go_sem] theorem call145:callB Tryz.prog 145=true:=by kernel_rfl
@[go_sem] theorem call146:callB Tryz.prog 146=true:=by kernel_rfl
@[go_sem] theorem call147:callB Tryz.prog 147=true:=by kernel_rfl
@[go_sem] theorem call148:callB Tryz.prog 148=true:=by kernel_rfl
@[go_sem] theorem call149:callB Tryz.prog 149=true:=by kernel_rfl
@[go_sem] theorem call150:callB Tryz.prog 150=true:=by kernel_rfl
@[go_sem] theorem call151:callB Tryz.prog 151=true:=by kernel_rfl
@[go_sem] theorem call152:callB Tryz.prog 152=true:=by kernel_rfl
@[go_sem] theorem call153:callB Tryz.prog 153=true:=by kernel_rfl
@[go_sem] theorem call154:callB Tryz.prog 154=true:=by kernel_rfl
@[go_sem] theorem call155:callB Tryz.prog 155=true:=by kernel_rfl
@[go_sem] theorem call156:callB Tryz.prog 156=true:=by kernel_rfl
@[go_sem] theorem call157:callB Tryz.prog 157=true:=by kernel_rfl
@[go_sem] theorem call158:callB Tryz.prog 158=true:=by kernel_rfl
@[go_sem] theorem call159:callB Tryz.prog 159=true:=by kernel_rfl
@[go_sem] theorem call168:callB Tryz.prog 168=true:=by kernel_rfl
@[go_sem] theorem call169:callB Tryz.prog 169=true:=by kernel_rfl
@[go_sem] theorem call170:callB Tryz.prog 170=true:=by kernel_rfl
@[go_sem] theorem call171:callB Tryz.prog 171=true:=by kernel_rfl
@[go_sem] theorem call172:callB Tryz.prog 172=true:=by kernel_rfl
@[go_sem] theorem call173:callB Tryz.prog 173=true:=by kernel_rfl
@[go_sem] theorem call174:callB Tryz.prog 174=true:=by kernel_rfl
@[go_sem] theorem call175:callB Tryz.prog 175=true:=by kernel_rfl
@[go_sem] theorem call198:callB Tryz.prog 198=true:=by kernel_rfl
@[go_sem] theorem call199:callB Tryz.prog 199=true:=by kernel_rfl
@[go_sem] theorem call200:callB Tryz.prog 200=true:=by kernel_rfl
@[go_sem] theorem call201:callB Tryz.prog 201=true:=by kernel_rfl
@[go_sem] theorem call202:callB Tryz.prog 202=true:=by kernel_rfl
@[go_sem] theorem call203:callB Tryz.prog 203=true:=by kernel_rfl
@[go_sem] theorem call204:callB Tryz.prog 204=true:=by kernel_rfl
@[go_sem] theorem call205:callB Tryz.prog 205=true:=by kernel_rfl
@[go_sem] theorem call206:callB Tryz.prog 206=true:=by kernel_rfl
@[go_sem] theorem call207:callB Tryz.prog 207=true:=by kernel_rfl
@[go_sem] theorem call208:callB Tryz.prog 208=true:=by kernel_rfl
@[go_sem] theorem call209:callB Tryz.prog 209=true:=by kernel_rfl
@[go_sem] theorem call218:callB Tryz.prog 218=true:=by kernel_rfl
@[go_sem] theorem call219:callB Tryz.prog 219=true:=by kernel_rfl
@[go_sem] theorem call220:callB Tryz.prog 220=true:=by kernel_rfl
@[go_sem] theorem call228:callB Tryz.prog 228=true:=by kernel_rfl
@[go_sem] theorem call229:callB Tryz.prog 229=true:=by kernel_rfl
@[go_sem] theorem call237:callB Tryz.prog 237=true:=by kernel_rfl
@[go_sem] theorem call238:callB Tryz.prog 238=true:=by kernel_rfl
attribute [go_sem] Tryz.underlying0 Tryz.underlying1 Tryz.underlying2 Tryz.underlying3 Tryz.underlying4 Tryz.underlying5 Tryz.underlying6 Tryz.underlying7 Tryz.underlying8 Tryz.underlying9 Tryz.underlying10 Tryz.underlying11 Tryz.underlying12 Tryz.underlying13 Tryz.underlying14 Tryz.underlying15 Tryz.underlying16 Tryz.underlying17 Tryz.underlying18 Tryz.underlying19 Tryz.underlying20 Tryz.underlying21 Tryz.underlying22 Tryz.underlying23 Tryz.underlying24 Tryz.underlying25 Tryz.underlying26 Tryz.underlying27 Tryz.underlying28 Tryz.underlying29 Tryz.underlying30 Tryz.underlying31 Tryz.underlying32 Tryz.underlying33 Tryz.underlying34 Tryz.underlying35 Tryz.underlying36 Tryz.underlying37 Tryz.underlying38 Tryz.underlying39 Tryz.underlying40 Tryz.underlying41 Tryz.underlying42 Tryz.underlying43 Tryz.underlying44 Tryz.underlying45 Tryz.underlying46 Tryz.underlying47 Tryz.underlying48 Tryz.underlying49 Tryz.underlying50 Tryz.underlying51 Tryz.underlying52 Tryz.underlying53 Tryz.underlying54 Tryz.underlying55 Tryz.underlying56 Tryz.underlying57 Tryz.underlying58 Tryz.underlying59 Tryz.underlying60 Tryz.underlying61 Tryz.underlying62 Tryz.underlying63 Tryz.underlying64 Tryz.underlying65 Tryz.underlying66 Tryz.underlying67 Tryz.underlying68 Tryz.underlying69 Tryz.underlying70 Tryz.underlying71 Tryz.underlying72 Tryz.underlying73 Tryz.underlying74 Tryz.underlying75 Tryz.underlying76 Tryz.underlying77 Tryz.underlying78 Tryz.underlying79 Tryz.underlying80 Tryz.underlying81 Tryz.underlying82 Tryz.underlying83 Tryz.underlying84 Tryz.underlying85 Tryz.underlying86 Tryz.underlying87 Tryz.underlying88 Tryz.underlying89 Tryz.underlying90 Tryz.underlying91 Tryz.underlying92 Tryz.underlying93 Tryz.underlying94 Tryz.underlying95 Tryz.underlying96 Tryz.underlying97 Tryz.underlying98 Tryz.underlying99 Tryz.underlying100 Tryz.underlying101 Tryz.underlying102 Tryz.underlying103 Tryz.underlying104 Tryz.underlying105 Tryz.underlying106 Tryz.underlying107 Tryz.underlying108 Tryz.underlying109 Tryz.underlying110 Tryz.underlying111 Tryz.underlying112 Tryz.underlying113 Tryz.underlying114 Tryz.underlying115 Tryz.underlying116 Tryz.underlying117 Tryz.underlying118 Tryz.underlying119 Tryz.underlying120 Tryz.underlying121 Tryz.underlying122 Tryz.underlying123 Tryz.underlying124 Tryz.underlying125 Tryz.underlying126 Tryz.underlying127 Tryz.underlying128 Tryz.underlying129 Tryz.underlying130 Tryz.underlying131 Tryz.underlying132 Tryz.underlying133 Tryz.underlying134 Tryz.underlying135 Tryz.underlying136 Tryz.underlying137 Tryz.underlying138 Tryz.underlying139 Tryz.underlying140 Tryz.underlying141 Tryz.underlying142 Tryz.underlying143 Tryz.underlying144 Tryz.underlying145 Tryz.underlying146 Tryz.underlying147 Tryz.underlying148 Tryz.underlying149 Tryz.underlying150 Tryz.underlying151 Tryz.underlying152 Tryz.underlying153 Tryz.underlying154 Tryz.underlying155 Tryz.underlying156 Tryz.underlying157 Tryz.underlying158 Tryz.underlying159 Tryz.underlying160 Tryz.underlying161 Tryz.underlying162 Tryz.underlying163 Tryz.underlying164 Tryz.underlying165 Tryz.underlying166 Tryz.underlying167 Tryz.underlying168 Tryz.underlying169 Tryz.underlying170 Tryz.underlying171 Tryz.underlying172 Tryz.underlying173 Tryz.underlying174 Tryz.underlying175 Tryz.underlying176 Tryz.underlying177 Tryz.underlying178 Tryz.underlying179 Tryz.underlying180 Tryz.underlying181 Tryz.underlying182 Tryz.underlying183 Tryz.underlying184 Tryz.underlying185 Tryz.underlying186 Tryz.underlying187 Tryz.underlying188 Tryz.underlying189 Tryz.underlying190 Tryz.underlying191 Tryz.underlying192 Tryz.underlying193 Tryz.underlying194 Tryz.underlying195 Tryz.underlying196 Tryz.underlying197 Tryz.underlying198 Tryz.underlying199 Tryz.underlying200 Tryz.underlying201 Tryz.underlying202 Tryz.underlying203 Tryz.underlying204 Tryz.underlying205 Tryz.underlying206 Tryz.underlying207 Tryz.underlying208 Tryz.underlying209 Tryz.underlying210 Tryz.underlying211 Tryz.underlying212 Tryz.underlying213 Tryz.underlying214 Tryz.underlying215 Tryz.underlying216 Tryz.underlying217 Tryz.underlying218 Tryz.underlying219 Tryz.underlying220 Tryz.underlying221 Tryz.underlying222 Tryz.underlying223 Tryz.underlying224 Tryz.underlying225 Tryz.underlying226 Tryz.underlying227 Tryz.underlying228 Tryz.underlying229 Tryz.underlying230 Tryz.underlying231 Tryz.underlying232 Tryz.underlying233 Tryz.underlying234 Tryz.underlying235 Tryz.underlying236 Tryz.underlying237 Tryz.underlying238 Tryz.underlying239 Tryz.underlying240 Tryz.underlying241 Tryz.underlying242 Tryz.underlying243 Tryz.underlying244 Tryz.underlying245 Tryz.underlying246 Tryz.underlying247 Tryz.underlying248 Tryz.underlying249 Tryz.underlying250 Tryz.underlying251 Tryz.underlying252 Tryz.underlying253 Tryz.underlying254 Tryz.underlying255 Tryz.underlying256 Tryz.underlying257 Tryz.underlying258 Tryz.underlying259 Tryz.underlying260 Tryz.underlying261 Tryz.underlying262 Tryz.underlying263 Tryz.underlying264 Tryz.underlying265 Tryz.underlying266 Tryz.underlying267 Tryz.underlying268 Tryz.underlying269 Tryz.underlying270 Tryz.underlying271 Tryz.underlying272 Tryz.underlying273 Tryz.underlying274 Tryz.underlying275 Tryz.underlying276 Tryz.underlying277 Tryz.underlying278 Tryz.underlying279 Tryz.underlying280 Tryz.underlying281 Tryz.underlying282 Tryz.underlying283 Tryz.underlying284 Tryz.underlying285 Tryz.underlying286 Tryz.underlying287
end Go.Proofs.YtamednbojpnalaaGreatDoor
