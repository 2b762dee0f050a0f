/- The facts on types and functions, by program (gentab.py). -/
import Derived.Test.YtighfcpaplmaiaaGreatDoorVgG
import Derived.Test.YtighfcpaplmaiaaGreatDoorProg
import Derived.KernelRfl
set_option linter.unusedVariables false
set_option linter.unusedSimpArgs false
namespace Go.Proofs.YtighfcpaplmaiaaGreatDoor
open Go.Vg Go.Proofs
@[go_sem] theorem bytes0:Program.bytesOf Tryz.prog 0=0:=by kernel_rfl
@[go_sem] theorem cells3:Program.cellsOf Tryz.prog 3=1:=by kernel_rfl
@[go_sem] theorem bytes3:Program.bytesOf Tryz.prog 3=8:=by kernel_rfl
@[go_sem] theorem info3:infoOK Tryz.prog 3=true:=by kernel_rfl
@[go_sem] theorem zero3:zeroP Tryz.prog 3=[.int .i64 0]:=by kernel_rfl
@[go_sem] theorem zok3:zeroOKP Tryz.prog 3=true:=by kernel_rfl
@[go_sem] theorem elem3:elemOK Tryz.prog 3=true:=by kernel_rfl
@[go_sem] theorem cells4:Program.cellsOf Tryz.prog 4=1:=by kernel_rfl
@[go_sem] theorem info4:infoOK Tryz.prog 4=true:=by kernel_rfl
@[go_sem] theorem zok4:zeroOKP Tryz.prog 4=true:=by kernel_rfl
@[go_sem] theorem cells5:Program.cellsOf Tryz.prog 5=1:=by kernel_rfl
@[go_sem] theorem bytes5:Program.bytesOf Tryz.prog 5=1:=by kernel_rfl
@[go_sem] theorem info5:infoOK Tryz.prog 5=true:=by kernel_rfl
@[go_sem] theorem cells9:Program.cellsOf Tryz.prog 9=1:=by kernel_rfl
@[go_sem] theorem bytes9:Program.bytesOf Tryz.prog 9=16:=by kernel_rfl
@[go_sem] theorem info9:infoOK Tryz.prog 9=true:=by kernel_rfl
@[go_sem] theorem zero9:zeroP Tryz.prog 9=[.str ⟨#[]⟩]:=by kernel_rfl
@[go_sem] theorem zok9:zeroOKP Tryz.prog 9=true:=by kernel_rfl
@[go_sem] theorem elem9:elemOK Tryz.prog 9=true:=by kernel_rfl
@[go_sem] theorem cells22:Program.cellsOf Tryz.prog 22=1:=by kernel_rfl
@[go_sem] theorem info22:infoOK Tryz.prog 22=true:=by kernel_rfl
@[go_sem] theorem cells24:Program.cellsOf Tryz.prog 24=2:=by kernel_rfl
@[go_sem] theorem bytes24:Program.bytesOf Tryz.prog 24=16:=by kernel_rfl
@[go_sem] theorem info24:infoOK Tryz.prog 24=true:=by kernel_rfl
@[go_sem] theorem zero24:zeroP Tryz.prog 24=[.int .i64 0,.int .i64 0]:=by kernel_rfl
@[go_sem] theorem zok24:zeroOKP Tryz.prog 24=true:=by kernel_rfl
@[go_sem] theorem elem24:elemOK Tryz.prog 24=true:=by kernel_rfl
@[go_sem] theorem cells28:Program.cellsOf Tryz.prog 28=1:=by kernel_rfl
@[go_sem] theorem info28:infoOK Tryz.prog 28=true:=by kernel_rfl
@[go_sem] theorem zero28:zeroP Tryz.prog 28=[.slice .nil 0 []]:=by kernel_rfl
@[go_sem] theorem zok28:zeroOKP Tryz.prog 28=true:=by kernel_rfl
@[go_sem] theorem cells32:Program.cellsOf Tryz.prog 32=1:=by kernel_rfl
@[go_sem] theorem zero32:zeroP Tryz.prog 32=[.slice .nil 0 []]:=by kernel_rfl
@[go_sem] theorem zok32:zeroOKP Tryz.prog 32=true:=by kernel_rfl
@[go_sem] theorem cells38:Program.cellsOf Tryz.prog 38=2:=by kernel_rfl
@[go_sem] theorem bytes38:Program.bytesOf Tryz.prog 38=32:=by kernel_rfl
@[go_sem] theorem info38:infoOK Tryz.prog 38=true:=by kernel_rfl
@[go_sem] theorem zero38:zeroP Tryz.prog 38=[.str ⟨#[]⟩,.str ⟨#[]⟩]:=by kernel_rfl
@[go_sem] theorem zok38:zeroOKP Tryz.prog 38=true:=by kernel_rfl
@[go_sem] theorem elem38:elemOK Tryz.prog 38=true:=by kernel_rfl
@[go_sem] theorem cells43:Program.cellsOf Tryz.prog 43=1:=by kernel_rfl
@[go_sem] theorem info43:infoOK Tryz.prog 43=true:=by kernel_rfl
@[go_sem] theorem cells45:Program.cellsOf Tryz.prog 45=1:=by kernel_rfl
@[go_sem] theorem bytes45:Program.bytesOf Tryz.prog 45=24:=by kernel_rfl
@[go_sem] theorem info45:infoOK Tryz.prog 45=true:=by kernel_rfl
@[go_sem] theorem zero45:zeroP Tryz.prog 45=[.slice .nil 0 []]:=by kernel_rfl
@[go_sem] theorem zok45:zeroOKP Tryz.prog 45=true:=by kernel_rfl
@[go_sem] theorem elem45:elemOK Tryz.prog 45=true:=by kernel_rfl
@[go_sem] theorem cells46:Program.cellsOf Tryz.prog 46=1:=by kernel_rfl
@[go_sem] theorem info46:infoOK Tryz.prog 46=true:=by kernel_rfl
@[go_sem] theorem cells48:Program.cellsOf Tryz.prog 48=5:=by kernel_rfl
@[go_sem] theorem bytes48:Program.bytesOf Tryz.prog 48=80:=by kernel_rfl
@[go_sem] theorem info48:infoOK Tryz.prog 48=true:=by kernel_rfl
@[go_sem] theorem zero48:zeroP Tryz.prog 48=[.int .i64 0,.int .i64 0,.str ⟨#[]⟩,.slice .nil 0 [],.slice .nil 0 []]:=by kernel_rfl
@[go_sem] theorem zok48:zeroOKP Tryz.prog 48=true:=by kernel_rfl
@[go_sem] theorem elem48:elemOK Tryz.prog 48=true:=by kernel_rfl
@[go_sem] theorem cells51:Program.cellsOf Tryz.prog 51=1:=by kernel_rfl
@[go_sem] theorem info51:infoOK Tryz.prog 51=true:=by kernel_rfl
@[go_sem] theorem cells54:Program.cellsOf Tryz.prog 54=5:=by kernel_rfl
@[go_sem] theorem bytes54:Program.bytesOf Tryz.prog 54=56:=by kernel_rfl
@[go_sem] theorem info54:infoOK Tryz.prog 54=true:=by kernel_rfl
@[go_sem] theorem zero54:zeroP Tryz.prog 54=[.int .i64 0,.str ⟨#[]⟩,.str ⟨#[]⟩,.int .i64 0,.int .i64 0]:=by kernel_rfl
@[go_sem] theorem zok54:zeroOKP Tryz.prog 54=true:=by kernel_rfl
@[go_sem] theorem elem54:elemOK Tryz.prog 54=true:=by kernel_rfl
@[go_sem] theorem cells64:Program.cellsOf Tryz.prog 64=1:=by kernel_rfl
@[go_sem] theorem info64:infoOK Tryz.prog 64=true:=by kernel_rfl
@[go_sem] theorem cells66:Program.cellsOf Tryz.prog 66=4:=by kernel_rfl
@[go_sem] theorem bytes66:Program.bytesOf Tryz.prog 66=72:=by kernel_rfl
@[go_sem] theorem info66:infoOK Tryz.prog 66=true:=by kernel_rfl
@[go_sem] theorem zero66:zeroP Tryz.prog 66=[.int .i64 0,.str ⟨#[]⟩,.slice .nil 0 [],.slice .nil 0 []]:=by kernel_rfl
@[go_sem] theorem zok66:zeroOKP Tryz.prog 66=true:=by kernel_rfl
@[go_sem] theorem elem66:elemOK Tryz.prog 66=true:=by kernel_rfl
@[go_sem] theorem cells70:Program.cellsOf Tryz.prog 70=7:=by kernel_rfl
@[go_sem] theorem bytes70:Program.bytesOf Tryz.prog 70=112:=by kernel_rfl
@[go_sem] theorem info70:infoOK Tryz.prog 70=true:=by kernel_rfl
@[go_sem] theorem zero70:zeroP Tryz.prog 70=[.str ⟨#[]⟩,.str ⟨#[]⟩,.int .i64 0,.str ⟨#[]⟩,.slice .nil 0 [],.slice .nil 0 [],.bool false]:=by kernel_rfl
@[go_sem] theorem zok70:zeroOKP Tryz.prog 70=true:=by kernel_rfl
@[go_sem] theorem elem70:elemOK Tryz.prog 70=true:=by kernel_rfl
@[go_sem] theorem cells84:Program.cellsOf Tryz.prog 84=1:=by kernel_rfl
@[go_sem] theorem info84:infoOK Tryz.prog 84=true:=by kernel_rfl
@[go_sem] theorem cells91:Program.cellsOf Tryz.prog 91=1:=by kernel_rfl
@[go_sem] theorem zero91:zeroP Tryz.prog 91=[.nilp]:=by kernel_rfl
@[go_sem] theorem zok91:zeroOKP Tryz.prog 91=true:=by kernel_rfl
@[go_sem] theorem cells107:Program.cellsOf Tryz.prog 107=1:=by kernel_rfl
@[go_sem] theorem zero107:zeroP Tryz.prog 107=[.nilmap]:=by kernel_rfl
@[go_sem] theorem zok107:zeroOKP Tryz.prog 107=true:=by kernel_rfl
@[go_sem] theorem cells136:Program.cellsOf Tryz.prog 136=3:=by kernel_rfl
@[go_sem] theorem zero136:zeroP Tryz.prog 136=[.str ⟨#[]⟩,.str ⟨#[]⟩,.bool false]:=by kernel_rfl
@[go_sem] theorem zok136:zeroOKP Tryz.prog 136=true:=by kernel_rfl
@[go_sem] theorem cells143:Program.cellsOf Tryz.prog 143=1:=by kernel_rfl
@[go_sem] theorem info143:infoOK Tryz.prog 143=true:=by kernel_rfl
@[go_sem] theorem cells145:Program.cellsOf Tryz.prog 145=1:=by kernel_rfl
@[go_sem] theorem info145:infoOK Tryz.prog 145=true:=by kernel_rfl
@[go_sem] theorem cells146:Program.cellsOf Tryz.prog 146=1:=by kernel_rfl
@[go_sem] theorem info146:infoOK Tryz.prog 146=true:=by kernel_rfl
@[go_sem] theorem cells147:Program.cellsOf Tryz.prog 147=1:=by kernel_rfl
@[go_sem] theorem info147:infoOK Tryz.prog 147=true:=by kernel_rfl
@[go_sem] theorem zero149:zeroP Tryz.prog 149=[.slice .nil 0 [],.slice .nil 0 [],.nilmap,.slice .nil 0 [],.nilmap,.nilmap,.nilmap]:=by kernel_rfl
@[go_sem] theorem zok149:zeroOKP Tryz.prog 149=true:=by kernel_rfl
@[go_sem] theorem cells150:Program.cellsOf Tryz.prog 150=1:=by kernel_rfl
@[go_sem] theorem info150:infoOK Tryz.prog 150=true:=by kernel_rfl
@[go_sem] theorem cells151:Program.cellsOf Tryz.prog 151=1:=by kernel_rfl
@[go_sem] theorem info151:infoOK Tryz.prog 151=true:=by kernel_rfl
@[go_sem] theorem zero153:zeroP Tryz.prog 153=[.slice .nil 0 [],.nilmap,.nilmap,.slice .nil 0 []]:=by kernel_rfl
@[go_sem] theorem zok153:zeroOKP Tryz.prog 153=true:=by kernel_rfl
@[go_sem] theorem cells157:Program.cellsOf Tryz.prog 157=2:=by kernel_rfl
@[go_sem] theorem zero157:zeroP Tryz.prog 157=[.str ⟨#[]⟩,.str ⟨#[]⟩]:=by kernel_rfl
@[go_sem] theorem zok157:zeroOKP Tryz.prog 157=true:=by kernel_rfl
@[go_sem] theorem cells163:Program.cellsOf Tryz.prog 163=5:=by kernel_rfl
@[go_sem] theorem bytes163:Program.bytesOf Tryz.prog 163=40:=by kernel_rfl
@[go_sem] theorem info163:infoOK Tryz.prog 163=true:=by kernel_rfl
@[go_sem] theorem zero163:zeroP Tryz.prog 163=[.int .i64 0,.int .i64 0,.int .i64 0,.int .i64 0,.bool false]:=by kernel_rfl
@[go_sem] theorem zok163:zeroOKP Tryz.prog 163=true:=by kernel_rfl
@[go_sem] theorem elem163:elemOK Tryz.prog 163=true:=by kernel_rfl
@[go_sem] theorem cells166:Program.cellsOf Tryz.prog 166=2:=by kernel_rfl
@[go_sem] theorem info166:infoOK Tryz.prog 166=true:=by kernel_rfl
@[go_sem] theorem zero166:zeroP Tryz.prog 166=[.slice .nil 0 [],.str ⟨#[]⟩]:=by kernel_rfl
@[go_sem] theorem zok166:zeroOKP Tryz.prog 166=true:=by kernel_rfl
@[go_sem] theorem cells195:Program.cellsOf Tryz.prog 195=1:=by kernel_rfl
@[go_sem] theorem info195:infoOK Tryz.prog 195=true:=by kernel_rfl
@[go_sem] theorem zero197:zeroP Tryz.prog 197=[.slice .nil 0 [],.nilmap,.slice .nil 0 []]:=by kernel_rfl
@[go_sem] theorem zok197:zeroOKP Tryz.prog 197=true:=by kernel_rfl
@[go_sem] theorem cells199:Program.cellsOf Tryz.prog 199=4:=by kernel_rfl
@[go_sem] theorem zero199:zeroP Tryz.prog 199=[.int .i64 0,.int .i64 0,.int .i64 0,.str ⟨#[]⟩]:=by kernel_rfl
@[go_sem] theorem zok199:zeroOKP Tryz.prog 199=true:=by kernel_rfl
@[go_sem] theorem cells228:Program.cellsOf Tryz.prog 228=2:=by kernel_rfl
@[go_sem] theorem zero228:zeroP Tryz.prog 228=[.int .i64 0,.str ⟨#[]⟩]:=by kernel_rfl
@[go_sem] theorem zok228:zeroOKP Tryz.prog 228=true:=by kernel_rfl
@[go_sem] theorem cells230:Program.cellsOf Tryz.prog 230=2:=by kernel_rfl
@[go_sem] theorem zero230:zeroP Tryz.prog 230=[.str ⟨#[]⟩,.str ⟨#[]⟩]:=by kernel_rfl
@[go_sem] theorem zok230:zeroOKP Tryz.prog 230=true:=by kernel_rfl
@[go_sem] theorem cells232:Program.cellsOf Tryz.prog 232=3:=by kernel_rfl
@[go_sem] theorem zero232:zeroP Tryz.prog 232=[.slice .nil 0 [],.str ⟨#[]⟩,.bool false]:=by kernel_rfl
@[go_sem] theorem zok232:zeroOKP Tryz.prog 232=true:=by kernel_rfl
@[go_sem] theorem cells254:Program.cellsOf Tryz.prog 254=1:=by kernel_rfl
@[go_sem] theorem info254:infoOK Tryz.prog 254=true:=by kernel_rfl
@[go_sem] theorem cells256:Program.cellsOf Tryz.prog 256=2:=by kernel_rfl
@[go_sem] theorem bytes256:Program.bytesOf Tryz.prog 256=16:=by kernel_rfl
@[go_sem] theorem info256:infoOK Tryz.prog 256=true:=by kernel_rfl
@[go_sem] theorem zero256:zeroP Tryz.prog 256=[.int .i64 0,.int .i64 0]:=by kernel_rfl
@[go_sem] theorem zok256:zeroOKP Tryz.prog 256=true:=by kernel_rfl
@[go_sem] theorem cells258:Program.cellsOf Tryz.prog 258=6:=by kernel_rfl
@[go_sem] theorem info258:infoOK Tryz.prog 258=true:=by kernel_rfl
@[go_sem] theorem zero258:zeroP Tryz.prog 258=[.slice .nil 0 [],.int .i64 0,.int .i64 0,.int .i64 0,.slice .nil 0 [],.int .i64 0]:=by kernel_rfl
@[go_sem] theorem zok258:zeroOKP Tryz.prog 258=true:=by kernel_rfl
@[go_sem] theorem call9:callB Tryz.prog 9=true:=by kernel_rfl
@[go_sem] theorem call10:callB Tryz.prog 10=true:=by kernel_rfl
@[go_sem] theorem call11:callB Tryz.prog 11=true:=by kernel_rfl
@[go_sem] theorem call12:callB Tryz.prog 12=true:=by kernel_rfl
@[go_sem] theorem call14:callB Tryz.prog 14=true:=by kernel_rfl
@[go_sem] theorem call15:callB Tryz.prog 15=true:=by kernel_rfl
@[go_sem] theorem call17:callB Tryz.prog 17=true:=by kernel_rfl
@[go_sem] theorem call19:callB Tryz.prog 19=true:=by kernel_rfl
@[go_sem] theorem call22:callB Tryz.prog 22=true:=by kernel_rfl
@[go_sem] theorem call23:callB Tryz.prog 23=true:=by kernel_rfl
@[go_sem] theorem call24:callB Tryz.prog 24=true:=by kernel_rfl
@[go_sem] theorem call25:callB Tryz.prog 25=true:=by kernel_rfl
@[go_sem] theorem call26:callB Tryz.prog 26=true:=by kernel_rfl
@[go_sem] theorem call27:callB Tryz.prog 27=true:=by kernel_rfl
@[go_sem] theorem call28:callB Tryz.prog 28=true:=by kernel_rfl
@[go_sem] theorem call29:callB Tryz.prog 29=true:=by kernel_rfl
@[go_sem] theorem call30:callB Tryz.prog 30=true:=by kernel_rfl
@[go_sem] theorem call31:callB Tryz.prog 31=true:=by kernel_rfl
@[go_sem] theorem call32:callB Tryz.prog 32=true:=by kernel_rfl
@[go_sem] theorem call33:callB Tryz.prog 33=true:=by kernel_rfl
@[go_sem] theorem call34:callB Tryz.prog 34=true:=by kernel_rfl
@[go_sem] theorem call35:callB Tryz.prog 35=true:=by kernel_rfl
@[go_sem] theorem call36:callB Tryz.prog 36=true:=by kernel_rfl
@[go_sem] theorem call37:callB Tryz.prog 37=true:=by kernel_rfl
@[go_sem] theorem call41:callB Tryz.prog 41=true:=by kernel_rfl
@[go_sem] theorem call42:callB Tryz.prog 42=true:=by kernel_rfl
@[go_sem] theorem call43:callB Tryz.prog 43=true:=by kernel_rfl
@[go_sem] theorem call46:callB Tryz.prog 46=true:=by kernel_rfl
@[go_sem] theorem call47:callB Tryz.prog 47=true:=by kernel_rfl
@[go_sem] theorem call49:callB Tryz.prog 49=true:=by kernel_rfl
@[go_sem] theorem call51:callB Tryz.prog 51=true:=by kernel_rfl
@[go_sem] theorem call52:callB Tryz.prog 52=true:=by kernel_rfl
@[go_sem] theorem call53:callB Tryz.prog 53=true:=by kernel_rfl
@[go_sem] theorem call54:callB Tryz.prog 54=true:=by kernel_rfl
@[go_sem] theorem call55:callB Tryz.prog 55=true:=by kernel_rfl
@[go_sem] theorem call56:callB Tryz.prog 56=true:=by kernel_rfl
@[go_sem] theorem call57:callB Tryz.prog 57=true:=by kernel_rfl
@[go_sem] theorem call58:callB Tryz.prog 58=true:=by kernel_rfl
@[go_sem] theorem call59:callB Tryz.prog 59=true:=by kernel_rfl
@[go_sem] theorem call60:callB Tryz.prog 60=true:=by kernel_rfl
@[go_sem] theorem call61:callB Tryz.prog 61=true:=by kernel_rfl
@[go_sem] theorem call62:callB Tryz.prog 62=true:=by kernel_rfl
@[go_sem] theorem call63:callB Tryz.prog 63=true:=by kernel_rfl
@[go_sem] theorem call64:callB Tryz.prog 64=true:=by kernel_rfl
@[go_sem] theorem call65:callB Tryz.prog 65=true:=by kernel_rfl
@[go_sem] theorem call66:callB Tryz.prog 66=true:=by kernel_rfl
@[go_sem] theorem call67:callB Tryz.prog 67=true:=by kernel_rfl
@[go_sem] theorem call68:callB Tryz.prog 68=true:=by kernel_rfl
@[go_sem] theorem call69:callB Tryz.prog 69=true:=by kernel_rfl
@[go_sem] theorem call70:callB Tryz.prog 70=true:=by kernel_rfl
@[go_sem] theorem call77:callB Tryz.prog 77=true:=by kernel_rfl
@[go_sem] theorem call83:callB Tryz.prog 83=true:=by kernel_rfl
@[go_sem] theorem call84:callB Tryz.prog 84=true:=by kernel_rfl
@[go_sem] theorem call85:callB Tryz.prog 85=true:=by kernel_rfl
@[go_sem] theorem call86:callB Tryz.prog 86=true:=by kernel_rfl
@[go_sem] theorem call87:callB Tryz.prog 87=true:=by kernel_rfl
@[go_sem] theorem call88:callB Tryz.prog 88=true:=by kernel_rfl
@[go_sem] theorem call89:callB Tryz.prog 89=true:=by kernel_rfl
@[go_sem] theorem call91:callB Tryz.prog 91=true:=by kernel_rfl
@[go_sem] theorem call92:callB Tryz.prog 92=true:=by kernel_rfl
@[go_sem] theorem call93:callB Tryz.prog 93=true:=by kernel_rfl
@[go_sem] theorem call96:callB Tryz.prog 96=true:=by kernel_rfl
@[go_sem] theorem call97:callB Tryz.prog 97=true:=by kernel_rfl
@[go_sem] theorem call98:callB Tryz.prog 98=true:=by kernel_rfl
@[go_sem] theorem call137:callB Tryz.prog 137=true:=by kernel_rfl
@[go_sem] theorem call138:callB Tryz.prog 138=true:=by kernel_rfl
@[go_sem] theorem call139:callB Tryz.prog 139=true:=by kernel_rfl
@[go_sem] theorem call140:callB Tryz.prog 140=true:=by kernel_rfl
@[go_sem] theorem call141:callB Tryz.prog 141=true:=by kernel_rfl
@[go_sem] theorem call142:callB Tryz.prog 142=true:=by kernel_rfl
@[go_sem] theorem call143:callB Tryz.prog 143=true:=by kernel_rfl
@[go_sem] theorem call144:callB Tryz.prog 144=true:=by kernel_rfl
@[go_sem] theorem call145:callB Tryz.prog 145=true:=by kernel_rfl
@[go_sem] theorem call146:callB Tryz.prog 146=true:=by kernel_rfl
@[go_sem] theorem call147:callB Tryz.prog 147=true:=by kernel_rfl
@[go_sem] theorem call148:callB Tryz.prog 148=true:=by kernel_rfl
@[go_sem] theorem call149:callB Tryz.prog 149=true:=by kernel_rfl
@[go_sem] theorem call150:callB Tryz.prog 150=true:=by kernel_rfl
@[go_sem] theorem call151:callB Tryz.prog 151=true:=by kernel_rfl
@[go_sem] theorem call152:callB Tryz.prog 152=true:=by kernel_rfl
@[go_sem] theorem call153:callB Tryz.prog 153=true:=by kernel_rfl
@[go_sem] theorem call154:callB Tryz.prog 154=true:=by kernel_rfl
@[go_sem] theorem call155:callB Tryz.prog 155=true:=by kernel_rfl
@[go_sem] theorem call156:callB Tryz.prog 156=true:=by kernel_rfl
@[go_sem] theorem call180:callB Tryz.prog 180=true:=by kernel_rfl
@[go_sem] theorem call181:callB Tryz.prog 181=true:=by kernel_rfl
@[go_sem] theorem call182:callB Tryz.prog 182=true:=by kernel_rfl
@[go_sem] theorem call183:callB Tryz.prog 183=true:=by kernel_rfl
@[go_sem] theorem call184:callB Tryz.prog 184=true:=by kernel_rfl
@[go_sem] theorem call185:callB Tryz.prog 185=true:=by kernel_rfl
@[go_sem] theorem call186:callB Tryz.prog 186=true:=by kernel_rfl
@[go_sem] theorem call187:callB Tryz.prog 187=true:=by kernel_rfl
@[go_sem] theorem call188:callB Tryz.prog 188=true:=by kernel_rfl
@[go_sem] theorem call203:callB Tryz.prog 203=true:=by kernel_rfl
@[go_sem] theorem call204:callB Tryz.prog 204=true:=by kernel_rfl
@[go_sem] theorem call205:callB Tryz.prog 205=true:=by kernel_rfl
@[go_sem] theorem call206:callB Tryz.prog 206=true:=by kernel_rfl
@[go_sem] theorem call207:callB Tryz.prog 207=true:=by kernel_rfl
@[go_sem] theorem call208:callB Tryz.prog 208=true:=by kernel_rfl
@[go_sem] theorem call209:callB Tryz.prog 209=true:=by kernel_rfl
@[go_sem] theorem call210:callB Tryz.prog 210=true:=by kernel_rfl
@[go_sem] theorem call211:callB Tryz.prog 211=true:=by kernel_rfl
@[go_sem] theorem call212:callB Tryz.prog 212=true:=by kernel_rfl
@[go_sem] theorem call221:callB Tryz.prog 221=true:=by kernel_rfl
@[go_sem] theorem call222:callB Tryz.prog 222=true:=by kernel_rfl
@[go_sem] theorem call223:callB Tryz.prog 223=true:=by kernel_rfl
@[go_sem] theorem call224:callB Tryz.prog 224=true:=by kernel_rfl
@[go_sem] theorem call225:callB Tryz.prog 225=true:=by kernel_rfl
@[go_sem] theorem call226:callB Tryz.prog 226=true:=by kernel_rfl
@[go_sem] theorem call234:callB Tryz.prog 234=true:=by kernel_rfl
@[go_sem] theorem call235:callB Tryz.prog 235=true:=by kernel_rfl
@[go_sem] theorem call236:callB Tryz.prog 236=true:=by kernel_rfl
@[go_sem] theorem call237:callB Tryz.prog 237=true:=by kernel_rfl
@[go_sem] theorem call246:callB Tryz.prog 246=true:=by kernel_rfl
@[go_sem] theorem call247:callB Tryz.prog 247=true:=by kernel_rfl
@[go_sem] theorem call251:callB Tryz.prog 251=true:=by kernel_rfl
@[go_sem] theorem call252:callB Tryz.prog 252=true:=by kernel_rfl
attribute [go_sem] Tryz.underlying0 Tryz.underlying1 Tryz.underlying2 Tryz.underlying3 Tryz.underlying4 Tryz.underlying5 Tryz.underlying6 Tryz.underlying7 Tryz.underlying8 Tryz.underlying9 Tryz.underlying10 Tryz.underlying11 Tryz.underlying12 Tryz.underlying13 Tryz.underlying14 Tryz.underlying15 Tryz.underlying16 Tryz.underlying17 Tryz.underlying18 Tryz.underlying19 Tryz.underlying20 Tryz.underlying21 Tryz.underlying22 Tryz.underlying23 Tryz.underlying24 Tryz.underlying25 Tryz.underlying26 Tryz.underlying27 Tryz.underlying28 Tryz.underlying29 Tryz.underlying30 Tryz.underlying31 Tryz.underlying32 Tryz.underlying33 Tryz.underlying34 Tryz.underlying35 Tryz.underlying36 Tryz.underlying37 Tryz.underlying38 Tryz.underlying39 Tryz.underlying40 Tryz.underlying41 Tryz.underlying42 Tryz.underlying43 Tryz.underlying44 Tryz.underlying45 Tryz.underlying46 Tryz.underlying47 Tryz.underlying48 Tryz.underlying49 Tryz.underlying50 Tryz.underlying51 Tryz.underlying52 Tryz.underlying53 Tryz.underlying54 Tryz.underlying55 Tryz.underlying56 Tryz.underlying57 Tryz.underlying58 Tryz.underlying59 Tryz.underlying60 Tryz.underlying61 Tryz.underlying62 Tryz.underlying63 Tryz.underlying64 Tryz.underlying65 Tryz.underlying66 Tryz.underlying67 Tryz.underlying68 Tryz.underlying69 Tryz.underlying70 Tryz.underlying71 Tryz.underlying72 Tryz.underlying73 Tryz.underlying74 Tryz.underlying75 Tryz.underlying76 Tryz.underlying77 Tryz.underlying78 Tryz.underlying79 Tryz.underlying80 Tryz.underlying81 Tryz.underlying82 Tryz.underlying83 Tryz.underlying84 Tryz.underlying85 Tryz.underlying86 Tryz.underlying87 Tryz.underlying88 Tryz.underlying89 Tryz.underlying90 Tryz.underlying91 Tryz.underlying92 Tryz.underlying93 Tryz.underlying94 Tryz.underlying95 Tryz.underlying96 Tryz.underlying97 Tryz.underlying98 Tryz.underlying99 Tryz.underlying100 Tryz.underlying101 Tryz.underlying102 Tryz.underlying103 Tryz.underlying104 Tryz.underlying105 Tryz.underlying106 Tryz.underlying107 Tryz.underlying108 Tryz.underlying109 Tryz.underlying110 Tryz.underlying111 Tryz.underlying112 Tryz.underlying113 Tryz.underlying114 Tryz.underlying115 Tryz.underlying116 Tryz.underlying117 Tryz.underlying118 Tryz.underlying119 Tryz.underlying120 Tryz.underlying121 Tryz.underlying122 Tryz.underlying123 Tryz.underlying124 Tryz.underlying125 Tryz.underlying126 Tryz.underlying127 Tryz.underlying128 Tryz.underlying129 Tryz.underlying130 Tryz.underlying131 Tryz.underlying132 Tryz.underlying133 Tryz.underlying134 Tryz.underlying135 Tryz.underlying136 Tryz.underlying137 Tryz.underlying138 Tryz.underlying139 Tryz.underlying140 Tryz.underlying141 Tryz.underlying142 Tryz.underlying143 Tryz.underlying144 Tryz.underlying145 Tryz.underlying146 Tryz.underlying147 Tryz.underlying148 Tryz.underlying149 Tryz.underlying150 Tryz.underlying151 Tryz.underlying152 Tryz.underlying153 Tryz.underlying154 Tryz.underlying155 Tryz.underlying156 Tryz.underlying157 Tryz.underlying158 Tryz.underlying159 Tryz.underlying160 Tryz.underlying161 Tryz.underlying162 Tryz.underlying163 Tryz.underlying164 Tryz.underlying165 Tryz.underlying166 Tryz.underlying167 Tryz.underlying168 Tryz.underlying169 Tryz.underlying170 Tryz.underlying171 Tryz.underlying172 Tryz.underlying173 Tryz.underlying174 Tryz.underlying175 Tryz.underlying176 Tryz.underlying177 Tryz.underlying178 Tryz.underlying179 Tryz.underlying180 Tryz.underlying181 Tryz.underlying182 Tryz.underlying183 Tryz.underlying184 Tryz.underlying185 Tryz.underlying186 Tryz.underlying187 Tryz.underlying188 Tryz.underlying189 Tryz.underlying190 Tryz.underlying191 Tryz.underlying192 Tryz.underlying193 Tryz.underlying194 Tryz.underlying195 Tryz.underlying196 Tryz.underlying197 Tryz.underlying198 Tryz.underlying199 Tryz.underlying200 Tryz.underlying201 Tryz.underlying202 Tryz.underlying203 Tryz.underlying204 Tryz.underlying205 Tryz.underlying206 Tryz.underlying207 Tryz.underlying208 Tryz.underlying209 Tryz.underlying210 Tryz.underlying211 Tryz.underlying212 Tryz.underlying213 Tryz.underlying214 Tryz.underlying215 Tryz.underlying216 Tryz.underlying217 Tryz.underlying218 Tryz.underlying219 Tryz.underlying220 Tryz.underlying221 Tryz.underlying222 Tryz.underlying223 Tryz.underlying224 Tryz.underlying225 Tryz.underlying226 Tryz.underlying227 Tryz.underlying228 Tryz.underlying229 Tryz.underlying230 Tryz.underlying231 Tryz.underlying232 Tryz.underlying233 Tryz.underlying234 Tryz.underlying235 Tryz.underlying236 Tryz.underlying237 Tryz.underlying238 Tryz.underlying239 Tryz.underlying240 Tryz.underlying241 Tryz.underlying242 Tryz.underlying243 Tryz.underlying244 Tryz.underlying245 Tryz.underlying246 Tryz.underlying247 Tryz.underlying248 Tryz.underlying249 Tryz.underlying250 Tryz.underlying251 Tryz.underlying252 Tryz.underlying253 Tryz.underlying254 Tryz.underlying255 Tryz.underlying256 Tryz.underlying257 Tryz.underlying258 Tryz.underlying259 Tryz.underlying260 Tryz.underlying261 Tryz.underlying262 Tryz.underlying263 Tryz.underlying264 Tryz.underlying265 Tryz.underlying266 Tryz.underlying267 Tryz.underlying268 Tryz.underlying269 Tryz.underlying270 Tryz.underlying271 Tryz.underlying272 Tryz.underlying273 Tryz.underlying274 Tryz.underlying275 Tryz.underlying276 Tryz.underlying277 Tryz.underlying278 Tryz.underlying279 Tryz.underlying280 Tryz.underlying281 Tryz.underlying282 Tryz.underlying283 Tryz.underlying284
end Go.Proofs.YtighfcpaplmaiaaGreatDoor
