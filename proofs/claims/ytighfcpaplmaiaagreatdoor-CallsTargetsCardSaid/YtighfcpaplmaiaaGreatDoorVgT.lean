import Derived.Test.YtighfcpaplmaiaaGreatDoorVgG
import Derived.Test.YtighfcpaplmaiaaGreatDoorProg
import Derived.KernelRfl
set_option linter.unusedVariables false
set_option linter.unusedSimpArgs false
namespace Go.Proofs.YtighfcpaplmaiaaGreatDoor
open Go.Vg Go.Proofs
@[go_sem] theorem g5z:Program.bytesOf Tryz.prog 0=0:=by kernel_rfl
@[go_sem] theorem g4C:Program.cellsOf Tryz.prog 3=1:=by kernel_rfl
@[go_sem] theorem g7o:Program.bytesOf Tryz.prog 3=8:=by kernel_rfl
@[go_sem] theorem g7L:b0C Tryz.prog 3=true:=by kernel_rfl
@[go_sem] theorem g7Y:b2G Tryz.prog 3=[.int .i64 0]:=by kernel_rfl
@[go_sem] theorem g8O:b0S Tryz.prog 3=true:=by kernel_rfl
@[go_sem] theorem g8E:b0W Tryz.prog 3=true:=by kernel_rfl
@[go_sem] theorem g4l:Program.cellsOf Tryz.prog 4=1:=by kernel_rfl
@[go_sem] theorem g7W:b0C Tryz.prog 4=true:=by kernel_rfl
@[go_sem] theorem g8S:b0S Tryz.prog 4=true:=by kernel_rfl
@[go_sem] theorem g6z:Program.cellsOf Tryz.prog 5=1:=by kernel_rfl
@[go_sem] theorem g5l:Program.bytesOf Tryz.prog 5=1:=by kernel_rfl
@[go_sem] theorem g7X:b0C Tryz.prog 5=true:=by kernel_rfl
@[go_sem] theorem g7y:Program.cellsOf Tryz.prog 9=1:=by kernel_rfl
@[go_sem] theorem g6e:Program.bytesOf Tryz.prog 9=16:=by kernel_rfl
@[go_sem] theorem g7P:b0C Tryz.prog 9=true:=by kernel_rfl
@[go_sem] theorem g7U:b2G Tryz.prog 9=[.str ⟨#[]⟩]:=by kernel_rfl
@[go_sem] theorem g8N:b0S Tryz.prog 9=true:=by kernel_rfl
@[go_sem] theorem g8G:b0W Tryz.prog 9=true:=by kernel_rfl
@[go_sem] theorem g0U:Program.cellsOf Tryz.prog 22=1:=by kernel_rfl
@[go_sem] theorem g6N:b0C Tryz.prog 22=true:=by kernel_rfl
@[go_sem] theorem g2I:Program.cellsOf Tryz.prog 24=2:=by kernel_rfl
@[go_sem] theorem g2E:Program.bytesOf Tryz.prog 24=16:=by kernel_rfl
@[go_sem] theorem g4J:b0C Tryz.prog 24=true:=by kernel_rfl
@[go_sem] theorem g4F:b2G Tryz.prog 24=[.int .i64 0,.int .i64 0]:=by kernel_rfl
@[go_sem] theorem g8F:b0S Tryz.prog 24=true:=by kernel_rfl
@[go_sem] theorem g5Y:b0W Tryz.prog 24=true:=by kernel_rfl
@[go_sem] theorem g2e:Program.cellsOf Tryz.prog 28=1:=by kernel_rfl
@[go_sem] theorem g4X:b0C Tryz.prog 28=true:=by kernel_rfl
@[go_sem] theorem g4u:b2G Tryz.prog 28=[.slice .nil 0 []]:=by kernel_rfl
@[go_sem] theorem g8o:b0S Tryz.prog 28=true:=by kernel_rfl
@[go_sem] theorem f8X:Program.cellsOf Tryz.prog 32=1:=by kernel_rfl
@[go_sem] theorem g6u:b2G Tryz.prog 32=[.slice .nil 0 []]:=by kernel_rfl
@[go_sem] theorem g8t:b0S Tryz.prog 32=true:=by kernel_rfl
@[go_sem] theorem g3o:Program.cellsOf Tryz.prog 38=2:=by kernel_rfl
@[go_sem] theorem g3h:Program.bytesOf Tryz.prog 38=32:=by kernel_rfl
@[go_sem] theorem g4V:b0C Tryz.prog 38=true:=by kernel_rfl
@[go_sem] theorem g5v:b2G Tryz.prog 38=[.str ⟨#[]⟩,.str ⟨#[]⟩]:=by kernel_rfl
@[go_sem] theorem g7O:b0S Tryz.prog 38=true:=by kernel_rfl
@[go_sem] theorem g5k:b0W Tryz.prog 38=true:=by kernel_rfl
@[go_sem] theorem f9t:Program.cellsOf Tryz.prog 43=1:=by kernel_rfl
@[go_sem] theorem g7c:b0C Tryz.prog 43=true:=by kernel_rfl
@[go_sem] theorem f9O:Program.cellsOf Tryz.prog 45=1:=by kernel_rfl
@[go_sem] theorem f9z:Program.bytesOf Tryz.prog 45=24:=by kernel_rfl
@[go_sem] theorem g6Y:b0C Tryz.prog 45=true:=by kernel_rfl
@[go_sem] theorem g4A:b2G Tryz.prog 45=[.slice .nil 0 []]:=by kernel_rfl
@[go_sem] theorem g8y:b0S Tryz.prog 45=true:=by kernel_rfl
@[go_sem] theorem g6g:b0W Tryz.prog 45=true:=by kernel_rfl
@[go_sem] theorem g1L:Program.cellsOf Tryz.prog 46=1:=by kernel_rfl
@[go_sem] theorem g7d:b0C Tryz.prog 46=true:=by kernel_rfl
@[go_sem] theorem g1O:Program.cellsOf Tryz.prog 48=5:=by kernel_rfl
@[go_sem] theorem g3m:Program.bytesOf Tryz.prog 48=80:=by kernel_rfl
@[go_sem] theorem g5K:b0C Tryz.prog 48=true:=by kernel_rfl
@[go_sem] theorem g5d:b2G Tryz.prog 48=[.int .i64 0,.int .i64 0,.str ⟨#[]⟩,.slice .nil 0 [],.slice .nil 0 []]:=by kernel_rfl
@[go_sem] theorem g8w:b0S Tryz.prog 48=true:=by kernel_rfl
@[go_sem] theorem g4j:b0W Tryz.prog 48=true:=by kernel_rfl
@[go_sem] theorem g0j:Program.cellsOf Tryz.prog 51=1:=by kernel_rfl
@[go_sem] theorem g6h:b0C Tryz.prog 51=true:=by kernel_rfl
@[go_sem] theorem g3k:Program.cellsOf Tryz.prog 54=5:=by kernel_rfl
@[go_sem] theorem g1d:Program.bytesOf Tryz.prog 54=56:=by kernel_rfl
@[go_sem] theorem g6D:b0C Tryz.prog 54=true:=by kernel_rfl
@[go_sem] theorem g5E:b2G Tryz.prog 54=[.int .i64 0,.str ⟨#[]⟩,.str ⟨#[]⟩,.int .i64 0,.int .i64 0]:=by kernel_rfl
@[go_sem] theorem g8M:b0S Tryz.prog 54=true:=by kernel_rfl
@[go_sem] theorem g4K:b0W Tryz.prog 54=true:=by kernel_rfl
@[go_sem] theorem g0q:Program.cellsOf Tryz.prog 64=1:=by kernel_rfl
@[go_sem] theorem g5I:b0C Tryz.prog 64=true:=by kernel_rfl
@[go_sem] theorem g0K:Program.cellsOf Tryz.prog 66=4:=by kernel_rfl
@[go_sem] theorem f9Q:Program.bytesOf Tryz.prog 66=72:=by kernel_rfl
@[go_sem] theorem g4z:b0C Tryz.prog 66=true:=by kernel_rfl
@[go_sem] theorem g4M:b2G Tryz.prog 66=[.int .i64 0,.str ⟨#[]⟩,.slice .nil 0 [],.slice .nil 0 []]:=by kernel_rfl
@[go_sem] theorem g8f:b0S Tryz.prog 66=true:=by kernel_rfl
@[go_sem] theorem g6T:b0W Tryz.prog 66=true:=by kernel_rfl
@[go_sem] theorem g1t:Program.cellsOf Tryz.prog 70=7:=by kernel_rfl
@[go_sem] theorem f9P:Program.bytesOf Tryz.prog 70=112:=by kernel_rfl
@[go_sem] theorem g4H:b0C Tryz.prog 70=true:=by kernel_rfl
@[go_sem] theorem g6v:b2G Tryz.prog 70=[.str ⟨#[]⟩,.str ⟨#[]⟩,.int .i64 0,.str ⟨#[]⟩,.slice .nil 0 [],.slice .nil 0 [],.bool false]:=by kernel_rfl
@[go_sem] theorem g7R:b0S Tryz.prog 70=true:=by kernel_rfl
@[go_sem] theorem g4B:b0W Tryz.prog 70=true:=by kernel_rfl
@[go_sem] theorem g0y:Program.cellsOf Tryz.prog 72=1:=by kernel_rfl
@[go_sem] theorem g6X:b0C Tryz.prog 72=true:=by kernel_rfl
@[go_sem] theorem g3d:Program.cellsOf Tryz.prog 74=4:=by kernel_rfl
@[go_sem] theorem g5A:b2G Tryz.prog 74=[.slice .nil 0 [],.slice .nil 0 [],.slice .nil 0 [],.slice .nil 0 []]:=by kernel_rfl
@[go_sem] theorem g8e:b0S Tryz.prog 74=true:=by kernel_rfl
@[go_sem] theorem g2K:Program.cellsOf Tryz.prog 84=1:=by kernel_rfl
@[go_sem] theorem g7s:b0C Tryz.prog 84=true:=by kernel_rfl
@[go_sem] theorem f9p:Program.cellsOf Tryz.prog 91=1:=by kernel_rfl
@[go_sem] theorem g6i:b2G Tryz.prog 91=[.nilp]:=by kernel_rfl
@[go_sem] theorem g8d:b0S Tryz.prog 91=true:=by kernel_rfl
@[go_sem] theorem f7L:Program.cellsOf Tryz.prog 107=1:=by kernel_rfl
@[go_sem] theorem g0R:b2G Tryz.prog 107=[.nilmap]:=by kernel_rfl
@[go_sem] theorem g6O:b0S Tryz.prog 107=true:=by kernel_rfl
@[go_sem] theorem f8c:Program.cellsOf Tryz.prog 113=4:=by kernel_rfl
@[go_sem] theorem g2n:b2G Tryz.prog 113=[.slice .nil 0 [],.slice .nil 0 [],.slice .nil 0 [],.slice .nil 0 []]:=by kernel_rfl
@[go_sem] theorem g7i:b0S Tryz.prog 113=true:=by kernel_rfl
@[go_sem] theorem f8f:Program.cellsOf Tryz.prog 136=3:=by kernel_rfl
@[go_sem] theorem g1u:b2G Tryz.prog 136=[.str ⟨#[]⟩,.str ⟨#[]⟩,.bool false]:=by kernel_rfl
@[go_sem] theorem g4R:b0S Tryz.prog 136=true:=by kernel_rfl
@[go_sem] theorem f8F:Program.cellsOf Tryz.prog 143=1:=by kernel_rfl
@[go_sem] theorem g1F:b0C Tryz.prog 143=true:=by kernel_rfl
@[go_sem] theorem f6M:Program.cellsOf Tryz.prog 145=1:=by kernel_rfl
@[go_sem] theorem g2q:b0C Tryz.prog 145=true:=by kernel_rfl
@[go_sem] theorem f8C:Program.cellsOf Tryz.prog 146=1:=by kernel_rfl
@[go_sem] theorem g1p:b0C Tryz.prog 146=true:=by kernel_rfl
@[go_sem] theorem f7Q:Program.cellsOf Tryz.prog 147=1:=by kernel_rfl
@[go_sem] theorem g2Y:b0C Tryz.prog 147=true:=by kernel_rfl
@[go_sem] theorem g4b:b2G Tryz.prog 149=[.slice .nil 0 [],.slice .nil 0 [],.nilmap,.slice .nil 0 [],.nilmap,.nilmap,.nilmap]:=by kernel_rfl
@[go_sem] theorem g6M:b0S Tryz.prog 149=true:=by kernel_rfl
@[go_sem] theorem f6B:Program.cellsOf Tryz.prog 150=1:=by kernel_rfl
@[go_sem] theorem g3J:b0C Tryz.prog 150=true:=by kernel_rfl
@[go_sem] theorem f6u:Program.cellsOf Tryz.prog 151=1:=by kernel_rfl
@[go_sem] theorem f9R:b0C Tryz.prog 151=true:=by kernel_rfl
@[go_sem] theorem g2A:b2G Tryz.prog 153=[.slice .nil 0 [],.nilmap,.nilmap,.slice .nil 0 []]:=by kernel_rfl
@[go_sem] theorem g7p:b0S Tryz.prog 153=true:=by kernel_rfl
@[go_sem] theorem f7Z:Program.cellsOf Tryz.prog 157=2:=by kernel_rfl
@[go_sem] theorem f9B:b2G Tryz.prog 157=[.str ⟨#[]⟩,.str ⟨#[]⟩]:=by kernel_rfl
@[go_sem] theorem g5N:b0S Tryz.prog 157=true:=by kernel_rfl
@[go_sem] theorem f7K:Program.cellsOf Tryz.prog 163=5:=by kernel_rfl
@[go_sem] theorem f8o:Program.bytesOf Tryz.prog 163=40:=by kernel_rfl
@[go_sem] theorem g0g:b0C Tryz.prog 163=true:=by kernel_rfl
@[go_sem] theorem g1C:b2G Tryz.prog 163=[.int .i64 0,.int .i64 0,.int .i64 0,.int .i64 0,.bool false]:=by kernel_rfl
@[go_sem] theorem g7a:b0S Tryz.prog 163=true:=by kernel_rfl
@[go_sem] theorem g1s:b0W Tryz.prog 163=true:=by kernel_rfl
@[go_sem] theorem f6V:Program.cellsOf Tryz.prog 166=2:=by kernel_rfl
@[go_sem] theorem g0O:b0C Tryz.prog 166=true:=by kernel_rfl
@[go_sem] theorem g0H:b2G Tryz.prog 166=[.slice .nil 0 [],.str ⟨#[]⟩]:=by kernel_rfl
@[go_sem] theorem g5T:b0S Tryz.prog 166=true:=by kernel_rfl
@[go_sem] theorem f8H:Program.cellsOf Tryz.prog 195=1:=by kernel_rfl
@[go_sem] theorem g3W:b0C Tryz.prog 195=true:=by kernel_rfl
@[go_sem] theorem g3I:b2G Tryz.prog 197=[.slice .nil 0 [],.nilmap,.slice .nil 0 []]:=by kernel_rfl
@[go_sem] theorem g5e:b0S Tryz.prog 197=true:=by kernel_rfl
@[go_sem] theorem f7I:Program.cellsOf Tryz.prog 199=4:=by kernel_rfl
@[go_sem] theorem g2a:b2G Tryz.prog 199=[.int .i64 0,.int .i64 0,.int .i64 0,.str ⟨#[]⟩]:=by kernel_rfl
@[go_sem] theorem g6r:b0S Tryz.prog 199=true:=by kernel_rfl
@[go_sem] theorem f7w:Program.cellsOf Tryz.prog 228=2:=by kernel_rfl
@[go_sem] theorem g0i:b2G Tryz.prog 228=[.int .i64 0,.str ⟨#[]⟩]:=by kernel_rfl
@[go_sem] theorem g6l:b0S Tryz.prog 228=true:=by kernel_rfl
@[go_sem] theorem f7U:Program.cellsOf Tryz.prog 230=2:=by kernel_rfl
@[go_sem] theorem g1v:b2G Tryz.prog 230=[.str ⟨#[]⟩,.str ⟨#[]⟩]:=by kernel_rfl
@[go_sem] theorem g7x:b0S Tryz.prog 230=true:=by kernel_rfl
@[go_sem] theorem f7n:Program.cellsOf Tryz.prog 232=3:=by kernel_rfl
@[go_sem] theorem g0d:b2G Tryz.prog 232=[.slice .nil 0 [],.str ⟨#[]⟩,.bool false]:=by kernel_rfl
@[go_sem] theorem g7r:b0S Tryz.prog 232=true:=by kernel_rfl
@[go_sem] theorem f6v:Program.cellsOf Tryz.prog 254=1:=by kernel_rfl
@[go_sem] theorem f9K:b0C Tryz.prog 254=true:=by kernel_rfl
@[go_sem] theorem f7b:Program.cellsOf Tryz.prog 256=2:=by kernel_rfl
@[go_sem] theorem f6S:Program.bytesOf Tryz.prog 256=16:=by kernel_rfl
@[go_sem] theorem g1z:b0C Tryz.prog 256=true:=by kernel_rfl
@[go_sem] theorem f9b:b2G Tryz.prog 256=[.int .i64 0,.int .i64 0]:=by kernel_rfl
@[go_sem] theorem g6P:b0S Tryz.prog 256=true:=by kernel_rfl
@[go_sem] theorem f8v:Program.cellsOf Tryz.prog 258=6:=by kernel_rfl
@[go_sem] theorem g2b:b0C Tryz.prog 258=true:=by kernel_rfl
@[go_sem] theorem g1m:b2G Tryz.prog 258=[.slice .nil 0 [],.int .i64 0,.int .i64 0,.int .i64 0,.slice .nil 0 [],.int .i64 0]:=by kernel_rfl
@[go_sem] theorem g5s:b0S Tryz.prog 258=true:=by kernel_rfl
@[go_sem] theorem g8v:b0t Tryz.prog 9=true:=by kernel_rfl
@[go_sem] theorem g7t:b0t Tryz.prog 10=true:=by kernel_rfl
@[go_sem] theorem g6j:b0t Tryz.prog 11=true:=by kernel_rfl
@[go_sem] theorem g6m:b0t Tryz.prog 12=true:=by kernel_rfl
@[go_sem] theorem g5M:b0t Tryz.prog 13=true:=by kernel_rfl
@[go_sem] theorem g5f:b0t Tryz.prog 14=true:=by kernel_rfl
@[go_sem] theorem g6x:b0t Tryz.prog 15=true:=by kernel_rfl
@[go_sem] theorem g6V:b0t Tryz.prog 17=true:=by kernel_rfl
@[go_sem] theorem g6L:b0t Tryz.prog 19=true:=by kernel_rfl
@[go_sem] theorem g7z:b0t Tryz.prog 21=true:=by kernel_rfl
@[go_sem] theorem g7C:b0t Tryz.prog 22=true:=by kernel_rfl
@[go_sem] theorem g6G:b0t Tryz.prog 23=true:=by kernel_rfl
@[go_sem] theorem g4h:b0t Tryz.prog 24=true:=by kernel_rfl
@[go_sem] theorem g6F:b0t Tryz.prog 25=true:=by kernel_rfl
@[go_sem] theorem g5Z:b0t Tryz.prog 28=true:=by kernel_rfl
@[go_sem] theorem g7n:b0t Tryz.prog 29=true:=by kernel_rfl
@[go_sem] theorem g7G:b0t Tryz.prog 30=true:=by kernel_rfl
@[go_sem] theorem g5o:b0t Tryz.prog 31=true:=by kernel_rfl
@[go_sem] theorem g4i:b0t Tryz.prog 32=true:=by kernel_rfl
@[go_sem] theorem g7D:b0t Tryz.prog 33=true:=by kernel_rfl
@[go_sem] theorem g5b:b0t Tryz.prog 34=true:=by kernel_rfl
@[go_sem] theorem g5h:b0t Tryz.prog 35=true:=by kernel_rfl
@[go_sem] theorem g4Z:b0t Tryz.prog 36=true:=by kernel_rfl
@[go_sem] theorem g6J:b0t Tryz.prog 37=true:=by kernel_rfl
@[go_sem] theorem g5B:b0t Tryz.prog 38=true:=by kernel_rfl
@[go_sem] theorem g6f:b0t Tryz.prog 39=true:=by kernel_rfl
@[go_sem] theorem g4U:b0t Tryz.prog 40=true:=by kernel_rfl
@[go_sem] theorem g4T:b0t Tryz.prog 41=true:=by kernel_rfl
@[go_sem] theorem g5L:b0t Tryz.prog 42=true:=by kernel_rfl
@[go_sem] theorem g5n:b0t Tryz.prog 43=true:=by kernel_rfl
@[go_sem] theorem g6q:b0t Tryz.prog 46=true:=by kernel_rfl
@[go_sem] theorem g4O:b0t Tryz.prog 47=true:=by kernel_rfl
@[go_sem] theorem g4g:b0t Tryz.prog 49=true:=by kernel_rfl
@[go_sem] theorem g5q:b0t Tryz.prog 50=true:=by kernel_rfl
@[go_sem] theorem g6d:b0t Tryz.prog 51=true:=by kernel_rfl
@[go_sem] theorem g5X:b0t Tryz.prog 52=true:=by kernel_rfl
@[go_sem] theorem g7h:b0t Tryz.prog 53=true:=by kernel_rfl
@[go_sem] theorem g5t:b0t Tryz.prog 55=true:=by kernel_rfl
@[go_sem] theorem g4S:b0t Tryz.prog 56=true:=by kernel_rfl
@[go_sem] theorem g4r:b0t Tryz.prog 57=true:=by kernel_rfl
@[go_sem] theorem g7j:b0t Tryz.prog 58=true:=by kernel_rfl
@[go_sem] theorem g6y:b0t Tryz.prog 59=true:=by kernel_rfl
@[go_sem] theorem g6C:b0t Tryz.prog 60=true:=by kernel_rfl
@[go_sem] theorem g6p:b0t Tryz.prog 61=true:=by kernel_rfl
@[go_sem] theorem g4Y:b0t Tryz.prog 62=true:=by kernel_rfl
@[go_sem] theorem g5F:b0t Tryz.prog 63=true:=by kernel_rfl
@[go_sem] theorem g4E:b0t Tryz.prog 64=true:=by kernel_rfl
@[go_sem] theorem g4k:b0t Tryz.prog 65=true:=by kernel_rfl
@[go_sem] theorem g6Q:b0t Tryz.prog 66=true:=by kernel_rfl
@[go_sem] theorem g6t:b0t Tryz.prog 67=true:=by kernel_rfl
@[go_sem] theorem g5i:b0t Tryz.prog 68=true:=by kernel_rfl
@[go_sem] theorem g5G:b0t Tryz.prog 69=true:=by kernel_rfl
@[go_sem] theorem g5V:b0t Tryz.prog 70=true:=by kernel_rfl
@[go_sem] theorem g5O:b0t Tryz.prog 71=true:=by kernel_rfl
@[go_sem] theorem g5S:b0t Tryz.prog 72=true:=by kernel_rfl
@[go_sem] theorem g6W:b0t Tryz.prog 73=true:=by kernel_rfl
@[go_sem] theorem g4o:b0t Tryz.prog 74=true:=by kernel_rfl
@[go_sem] theorem g4N:b0t Tryz.prog 75=true:=by kernel_rfl
@[go_sem] theorem g4W:b0t Tryz.prog 76=true:=by kernel_rfl
@[go_sem] theorem g6o:b0t Tryz.prog 77=true:=by kernel_rfl
@[go_sem] theorem g6I:b0t Tryz.prog 83=true:=by kernel_rfl
@[go_sem] theorem g6A:b0t Tryz.prog 84=true:=by kernel_rfl
@[go_sem] theorem g7v:b0t Tryz.prog 85=true:=by kernel_rfl
@[go_sem] theorem g5r:b0t Tryz.prog 86=true:=by kernel_rfl
@[go_sem] theorem g5p:b0t Tryz.prog 87=true:=by kernel_rfl
@[go_sem] theorem g7F:b0t Tryz.prog 88=true:=by kernel_rfl
@[go_sem] theorem g6w:b0t Tryz.prog 89=true:=by kernel_rfl
@[go_sem] theorem g5a:b0t Tryz.prog 91=true:=by kernel_rfl
@[go_sem] theorem g6R:b0t Tryz.prog 92=true:=by kernel_rfl
@[go_sem] theorem g7B:b0t Tryz.prog 93=true:=by kernel_rfl
@[go_sem] theorem g5Q:b0t Tryz.prog 96=true:=by kernel_rfl
@[go_sem] theorem g5u:b0t Tryz.prog 97=true:=by kernel_rfl
@[go_sem] theorem g7k:b0t Tryz.prog 98=true:=by kernel_rfl
@[go_sem] theorem g2W:b0t Tryz.prog 100=true:=by kernel_rfl
@[go_sem] theorem g2y:b0t Tryz.prog 101=true:=by kernel_rfl
@[go_sem] theorem g4c:b0t Tryz.prog 102=true:=by kernel_rfl
@[go_sem] theorem g3c:b0t Tryz.prog 103=true:=by kernel_rfl
@[go_sem] theorem f8S:b0t Tryz.prog 104=true:=by kernel_rfl
@[go_sem] theorem g0D:b0t Tryz.prog 105=true:=by kernel_rfl
@[go_sem] theorem g1n:b0t Tryz.prog 106=true:=by kernel_rfl
@[go_sem] theorem g3Y:b0t Tryz.prog 107=true:=by kernel_rfl
@[go_sem] theorem g0r:b0t Tryz.prog 108=true:=by kernel_rfl
@[go_sem] theorem g3s:b0t Tryz.prog 109=true:=by kernel_rfl
@[go_sem] theorem f8P:b0t Tryz.prog 110=true:=by kernel_rfl
@[go_sem] theorem g1h:b0t Tryz.prog 111=true:=by kernel_rfl
@[go_sem] theorem g3Z:b0t Tryz.prog 112=true:=by kernel_rfl
@[go_sem] theorem g3e:b0t Tryz.prog 113=true:=by kernel_rfl
@[go_sem] theorem g2X:b0t Tryz.prog 114=true:=by kernel_rfl
@[go_sem] theorem f9i:b0t Tryz.prog 115=true:=by kernel_rfl
@[go_sem] theorem f9M:b0t Tryz.prog 116=true:=by kernel_rfl
@[go_sem] theorem g2f:b0t Tryz.prog 117=true:=by kernel_rfl
@[go_sem] theorem g2p:b0t Tryz.prog 137=true:=by kernel_rfl
@[go_sem] theorem g2C:b0t Tryz.prog 138=true:=by kernel_rfl
@[go_sem] theorem g1g:b0t Tryz.prog 139=true:=by kernel_rfl
@[go_sem] theorem g4d:b0t Tryz.prog 140=true:=by kernel_rfl
@[go_sem] theorem g3X:b0t Tryz.prog 141=true:=by kernel_rfl
@[go_sem] theorem g0x:b0t Tryz.prog 142=true:=by kernel_rfl
@[go_sem] theorem g3i:b0t Tryz.prog 143=true:=by kernel_rfl
@[go_sem] theorem g3n:b0t Tryz.prog 144=true:=by kernel_rfl
@[go_sem] theorem g0p:b0t Tryz.prog 145=true:=by kernel_rfl
@[go_sem] theorem g3E:b0t Tryz.prog 146=true:=by kernel_rfl
@[go_sem] theorem g0n:b0t Tryz.prog 147=true:=by kernel_rfl
@[go_sem] theorem g4e:b0t Tryz.prog 148=true:=by kernel_rfl
@[go_sem] theorem f9k:b0t Tryz.prog 149=true:=by kernel_rfl
@[go_sem] theorem f9q:b0t Tryz.prog 150=true:=by kernel_rfl
@[go_sem] theorem g2t:b0t Tryz.prog 151=true:=by kernel_rfl
@[go_sem] theorem g3r:b0t Tryz.prog 152=true:=by kernel_rfl
@[go_sem] theorem g0k:b0t Tryz.prog 153=true:=by kernel_rfl
@[go_sem] theorem g1a:b0t Tryz.prog 154=true:=by kernel_rfl
@[go_sem] theorem g3V:b0t Tryz.prog 155=true:=by kernel_rfl
@[go_sem] theorem g2Q:b0t Tryz.prog 156=true:=by kernel_rfl
@[go_sem] theorem g0s:b0t Tryz.prog 158=true:=by kernel_rfl
@[go_sem] theorem g2P:b0t Tryz.prog 159=true:=by kernel_rfl
@[go_sem] theorem f9l:b0t Tryz.prog 160=true:=by kernel_rfl
@[go_sem] theorem g0X:b0t Tryz.prog 161=true:=by kernel_rfl
@[go_sem] theorem g3M:b0t Tryz.prog 162=true:=by kernel_rfl
@[go_sem] theorem f9f:b0t Tryz.prog 163=true:=by kernel_rfl
@[go_sem] theorem g0E:b0t Tryz.prog 164=true:=by kernel_rfl
@[go_sem] theorem g1K:b0t Tryz.prog 165=true:=by kernel_rfl
@[go_sem] theorem g2g:b0t Tryz.prog 166=true:=by kernel_rfl
@[go_sem] theorem f8Y:b0t Tryz.prog 167=true:=by kernel_rfl
@[go_sem] theorem g3Q:b0t Tryz.prog 168=true:=by kernel_rfl
@[go_sem] theorem g3l:b0t Tryz.prog 169=true:=by kernel_rfl
@[go_sem] theorem g3b:b0t Tryz.prog 170=true:=by kernel_rfl
@[go_sem] theorem g0Q:b0t Tryz.prog 171=true:=by kernel_rfl
@[go_sem] theorem g2T:b0t Tryz.prog 172=true:=by kernel_rfl
@[go_sem] theorem g3G:b0t Tryz.prog 173=true:=by kernel_rfl
@[go_sem] theorem g2v:b0t Tryz.prog 174=true:=by kernel_rfl
@[go_sem] theorem g3D:b0t Tryz.prog 180=true:=by kernel_rfl
@[go_sem] theorem g2B:b0t Tryz.prog 181=true:=by kernel_rfl
@[go_sem] theorem g0f:b0t Tryz.prog 182=true:=by kernel_rfl
@[go_sem] theorem g0Y:b0t Tryz.prog 183=true:=by kernel_rfl
@[go_sem] theorem g1S:b0t Tryz.prog 184=true:=by kernel_rfl
@[go_sem] theorem g1V:b0t Tryz.prog 185=true:=by kernel_rfl
@[go_sem] theorem g1j:b0t Tryz.prog 186=true:=by kernel_rfl
@[go_sem] theorem g1D:b0t Tryz.prog 187=true:=by kernel_rfl
@[go_sem] theorem g3K:b0t Tryz.prog 188=true:=by kernel_rfl
@[go_sem] theorem g0z:b0t Tryz.prog 198=true:=by kernel_rfl
@[go_sem] theorem g2m:b0t Tryz.prog 199=true:=by kernel_rfl
@[go_sem] theorem g1W:b0t Tryz.prog 200=true:=by kernel_rfl
@[go_sem] theorem g0M:b0t Tryz.prog 201=true:=by kernel_rfl
@[go_sem] theorem g3v:b0t Tryz.prog 203=true:=by kernel_rfl
@[go_sem] theorem f9r:b0t Tryz.prog 204=true:=by kernel_rfl
@[go_sem] theorem g0t:b0t Tryz.prog 205=true:=by kernel_rfl
@[go_sem] theorem g1o:b0t Tryz.prog 206=true:=by kernel_rfl
@[go_sem] theorem g0C:b0t Tryz.prog 207=true:=by kernel_rfl
@[go_sem] theorem f9V:b0t Tryz.prog 208=true:=by kernel_rfl
@[go_sem] theorem g0G:b0t Tryz.prog 209=true:=by kernel_rfl
@[go_sem] theorem f9o:b0t Tryz.prog 210=true:=by kernel_rfl
@[go_sem] theorem g3q:b0t Tryz.prog 211=true:=by kernel_rfl
@[go_sem] theorem g2H:b0t Tryz.prog 212=true:=by kernel_rfl
@[go_sem] theorem g1w:b0t Tryz.prog 219=true:=by kernel_rfl
@[go_sem] theorem g3L:b0t Tryz.prog 220=true:=by kernel_rfl
@[go_sem] theorem g0Z:b0t Tryz.prog 221=true:=by kernel_rfl
@[go_sem] theorem g3S:b0t Tryz.prog 222=true:=by kernel_rfl
@[go_sem] theorem f8Z:b0t Tryz.prog 223=true:=by kernel_rfl
@[go_sem] theorem f9J:b0t Tryz.prog 224=true:=by kernel_rfl
@[go_sem] theorem f9E:b0t Tryz.prog 225=true:=by kernel_rfl
@[go_sem] theorem f9s:b0t Tryz.prog 226=true:=by kernel_rfl
@[go_sem] theorem f9N:b0t Tryz.prog 228=true:=by kernel_rfl
@[go_sem] theorem g3P:b0t Tryz.prog 229=true:=by kernel_rfl
@[go_sem] theorem g0S:b0t Tryz.prog 230=true:=by kernel_rfl
@[go_sem] theorem f8K:b0t Tryz.prog 231=true:=by kernel_rfl
@[go_sem] theorem g1T:b0t Tryz.prog 232=true:=by kernel_rfl
@[go_sem] theorem g1l:b0t Tryz.prog 233=true:=by kernel_rfl
@[go_sem] theorem g1c:b0t Tryz.prog 234=true:=by kernel_rfl
@[go_sem] theorem f8W:b0t Tryz.prog 235=true:=by kernel_rfl
@[go_sem] theorem f8I:b0t Tryz.prog 236=true:=by kernel_rfl
@[go_sem] theorem f9U:b0t Tryz.prog 237=true:=by kernel_rfl
@[go_sem] theorem f9c:b0t Tryz.prog 238=true:=by kernel_rfl
@[go_sem] theorem g2s:b0t Tryz.prog 239=true:=by kernel_rfl
@[go_sem] theorem f8R:b0t Tryz.prog 240=true:=by kernel_rfl
@[go_sem] theorem g3t:b0t Tryz.prog 241=true:=by kernel_rfl
@[go_sem] theorem g1P:b0t Tryz.prog 242=true:=by kernel_rfl
@[go_sem] theorem g3u:b0t Tryz.prog 243=true:=by kernel_rfl
@[go_sem] theorem g1E:b0t Tryz.prog 244=true:=by kernel_rfl
@[go_sem] theorem g2F:b0t Tryz.prog 245=true:=by kernel_rfl
@[go_sem] theorem f9u:b0t Tryz.prog 246=true:=by kernel_rfl
@[go_sem] theorem g1M:b0t Tryz.prog 247=true:=by kernel_rfl
@[go_sem] theorem g0V:b0t Tryz.prog 248=true:=by kernel_rfl
@[go_sem] theorem g0N:b0t Tryz.prog 249=true:=by kernel_rfl
@[go_sem] theorem g1i:b0t Tryz.prog 250=true:=by kernel_rfl
@[go_sem] theorem g1b:b0t Tryz.prog 251=true:=by kernel_rfl
@[go_sem] theorem g0m:b0t Tryz.prog 252=true:=by kernel_rfl
attribute [go_sem] Tryz.underlying0 Tryz.underlying1 Tryz.underlying2 Tryz.underlying3 Tryz.underlying4 Tryz.underlying5 Tryz.underlying6 Tryz.underlying7 Tryz.underlying8 Tryz.underlying9 Tryz.underlying10 Tryz.underlying11 Tryz.underlying12 Tryz.underlying13 Tryz.underlying14 Tryz.underlying15 Tryz.underlying16 Tryz.underlying17 Tryz.underlying18 Tryz.underlying19 Tryz.underlying20 Tryz.underlying21 Tryz.underlying22 Tryz.underlying23 Tryz.underlying24 Tryz.underlying25 Tryz.underlying26 Tryz.underlying27 Tryz.underlying28 Tryz.underlying29 Tryz.underlying30 Tryz.underlying31 Tryz.underlying32 Tryz.underlying33 Tryz.underlying34 Tryz.underlying35 Tryz.underlying36 Tryz.underlying37 Tryz.underlying38 Tryz.underlying39 Tryz.underlying40 Tryz.underlying41 Tryz.underlying42 Tryz.underlying43 Tryz.underlying44 Tryz.underlying45 Tryz.underlying46 Tryz.underlying47 Tryz.underlying48 Tryz.underlying49 Tryz.underlying50 Tryz.underlying51 Tryz.underlying52 Tryz.underlying53 Tryz.underlying54 Tryz.underlying55 Tryz.underlying56 Tryz.underlying57 Tryz.underlying58 Tryz.underlying59 Tryz.underlying60 Tryz.underlying61 Tryz.underlying62 Tryz.underlying63 Tryz.underlying64 Tryz.underlying65 Tryz.underlying66 Tryz.underlying67 Tryz.underlying68 Tryz.underlying69 Tryz.underlying70 Tryz.underlying71 Tryz.underlying72 Tryz.underlying73 Tryz.underlying74 Tryz.underlying75 Tryz.underlying76 Tryz.underlying77 Tryz.underlying78 Tryz.underlying79 Tryz.underlying80 Tryz.underlying81 Tryz.underlying82 Tryz.underlying83 Tryz.underlying84 Tryz.underlying85 Tryz.underlying86 Tryz.underlying87 Tryz.underlying88 Tryz.underlying89 Tryz.underlying90 Tryz.underlying91 Tryz.underlying92 Tryz.underlying93 Tryz.underlying94 Tryz.underlying95 Tryz.underlying96 Tryz.underlying97 Tryz.underlying98 Tryz.underlying99 Tryz.underlying100 Tryz.underlying101 Tryz.underlying102 Tryz.underlying103 Tryz.underlying104 Tryz.underlying105 Tryz.underlying106 Tryz.underlying107 Tryz.underlying108 Tryz.underlying109 Tryz.underlying110 Tryz.underlying111 Tryz.underlying112 Tryz.underlying113 Tryz.underlying114 Tryz.underlying115 Tryz.underlying116 Tryz.underlying117 Tryz.underlying118 Tryz.underlying119 Tryz.underlying120 Tryz.underlying121 Tryz.underlying122 Tryz.underlying123 Tryz.underlying124 Tryz.underlying125 Tryz.underlying126 Tryz.underlying127 Tryz.underlying128 Tryz.underlying129 Tryz.underlying130 Tryz.underlying131 Tryz.underlying132 Tryz.underlying133 Tryz.underlying134 Tryz.underlying135 Tryz.underlying136 Tryz.underlying137 Tryz.underlying138 Tryz.underlying139 Tryz.underlying140 Tryz.underlying141 Tryz.underlying142 Tryz.underlying143 Tryz.underlying144 Tryz.underlying145 Tryz.underlying146 Tryz.underlying147 Tryz.underlying148 Tryz.underlying149 Tryz.underlying150 Tryz.underlying151 Tryz.underlying152 Tryz.underlying153 Tryz.underlying154 Tryz.underlying155 Tryz.underlying156 Tryz.underlying157 Tryz.underlying158 Tryz.underlying159 Tryz.underlying160 Tryz.underlying161 Tryz.underlying162 Tryz.underlying163 Tryz.underlying164 Tryz.underlying165 Tryz.underlying166 Tryz.underlying167 Tryz.underlying168 Tryz.underlying169 Tryz.underlying170 Tryz.underlying171 Tryz.underlying172 Tryz.underlying173 Tryz.underlying174 Tryz.underlying175 Tryz.underlying176 Tryz.underlying177 Tryz.underlying178 Tryz.underlying179 Tryz.underlying180 Tryz.underlying181 Tryz.underlying182 Tryz.underlying183 Tryz.underlying184 Tryz.underlying185 Tryz.underlying186 Tryz.underlying187 Tryz.underlying188 Tryz.underlying189 Tryz.underlying190 Tryz.underlying191 Tryz.underlying192 Tryz.underlying193 Tryz.underlying194 Tryz.underlying195 Tryz.underlying196 Tryz.underlying197 Tryz.underlying198 Tryz.underlying199 Tryz.underlying200 Tryz.underlying201 Tryz.underlying202 Tryz.underlying203 Tryz.underlying204 Tryz.underlying205 Tryz.underlying206 Tryz.underlying207 Tryz.underlying208 Tryz.underlying209 Tryz.underlying210 Tryz.underlying211 Tryz.underlying212 Tryz.underlying213 Tryz.underlying214 Tryz.underlying215 Tryz.underlying216 Tryz.underlying217 Tryz.underlying218 Tryz.underlying219 Tryz.underlying220 Tryz.underlying221 Tryz.underlying222 Tryz.underlying223 Tryz.underlying224 Tryz.underlying225 Tryz.underlying226 Tryz.underlying227 Tryz.underlying228 Tryz.underlying229 Tryz.underlying230 Tryz.underlying231 Tryz.underlying232 Tryz.underlying233 Tryz.underlying234 Tryz.underlying235 Tryz.underlying236 Tryz.underlying237 Tryz.underlying238 Tryz.underlying239 Tryz.underlying240 Tryz.underlying241 Tryz.underlying242 Tryz.underlying243 Tryz.underlying244 Tryz.underlying245 Tryz.underlying246 Tryz.underlying247 Tryz.underlying248 Tryz.underlying249 Tryz.underlying250 Tryz.underlying251 Tryz.underlying252 Tryz.underlying253 Tryz.underlying254 Tryz.underlying255 Tryz.underlying256 Tryz.underlying257 Tryz.underlying258 Tryz.underlying259 Tryz.underlying260 Tryz.underlying261 Tryz.underlying262 Tryz.underlying263 Tryz.underlying264 Tryz.underlying265 Tryz.underlying266 Tryz.underlying267 Tryz.underlying268 Tryz.underlying269 Tryz.underlying270 Tryz.underlying271 Tryz.underlying272 Tryz.underlying273 Tryz.underlying274 Tryz.underlying275 Tryz.underlying276 Tryz.underlying277 Tryz.underlying278 Tryz.underlying279 Tryz.underlying280 Tryz.underlying281 Tryz.underlying282 Tryz.underlying283 Tryz.underlying284
end Go.Proofs.YtighfcpaplmaiaaGreatDoor
