/- Contracts of the functions that the laws reach, and plain laws of what they compute (text G5); no condition. -/
import Derived.Test.YtppdngemnbflmaaGreatDoorG3
import Derived.Test.YtppdngemnbflmaaGreatDoorProg
set_option maxRecDepth 100000
namespace Go.Ab
open Go.Proofs
noncomputable abbrev PP:Program:=Tryz.prog
def tyT:List (TypeId×Ty):=[
 (3,⟨1,8,[.int .i64 0],.int .i64⟩),
 (26,⟨8,72,[.int .i64 0,.int .i64 0,.nils,.lit false,.int .u8 0,.int .i64 0,.int .i64 0,.int .i64 0],.struct [(0,23),(2,24),(3,4),(4,5),(5,3),(6,3),(7,3)]⟩),
 (23,⟨2,16,[.int .i64 0,.int .i64 0],.struct [(0,3),(1,3)]⟩),
 (46,⟨1,1,[.int .i8 0],.int .i8⟩),
 (24,⟨1,24,[.nils],.slice 46⟩),
 (30,⟨3,40,[.int .i64 0,.int .i64 0,.nils],.struct [(0,23),(2,24)]⟩),
 (48,⟨3,24,[.int .i64 0,.int .i64 0,.int .i8 0],.struct [(0,3),(1,3),(2,46)]⟩),
 (39,⟨1,8,[.int .u64 0],.int .u64⟩),
 (9,⟨1,16,[.str []],.str⟩),
 (60,⟨2,16,[.int .i64 0,.int .i64 0],.struct [(0,3),(1,3)]⟩),
 (50,⟨1,24,[.nils],.slice 3⟩),
 (4,⟨1,1,[.lit false],.bool⟩),
 (5,⟨1,1,[.int .u8 0],.int .u8⟩),
 (32,⟨1,24,[.nils],.slice 48⟩),
 (103,⟨10,88,[.int .i64 0,.int .i64 0,.nils,.lit false,.int .u8 0,.int .i64 0,.int .i64 0,.int .i64 0,.int .u64 0,.int .u64 0],.struct [(0,26),(8,39),(9,39)]⟩),
 (33,⟨1,8,[.int .i64 0],.int .i64⟩),
 (135,⟨1,24,[.nils],.slice 9⟩),
 (122,⟨6,40,[.int .u8 0,.lit false,.int .i64 0,.int .i64 0,.int .i64 0,.int .i64 0],.struct [(0,5),(1,4),(2,3),(3,3),(4,3),(5,3)]⟩),
 (159,⟨2,16,[.int .i64 0,.int .i64 0],.struct [(0,3),(1,3)]⟩),
 (77,⟨9,72,[.int .i64 0,.int .i64 0,.int .i8 0,.int .i8 0,.int .i64 0,.int .u8 0,.int .i64 0,.int .i64 0,.int .i64 0],.struct [(0,48),(3,46),(4,3),(5,5),(6,3),(7,3),(8,3)]⟩),
 (185,⟨5,32,[.int .u8 0,.lit false,.int .i64 0,.int .i64 0,.int .i64 0],.struct [(0,5),(1,4),(2,3),(3,3),(4,3)]⟩),
 (174,⟨5,48,[.int .u8 0,.str [],.lit false,.int .i64 0,.int .i64 0],.struct [(0,5),(1,9),(2,4),(3,3),(4,3)]⟩),
 (162,⟨8,64,[.int .i64 0,.int .i64 0,.int .i64 0,.int .i64 0,.int .i64 0,.int .i64 0,.int .i64 0,.int .i64 0],.array 4 159⟩),
 (157,⟨1,24,[.nils],.slice 159⟩),
 (164,⟨24,160,[.int .u8 0,.lit false,.int .i64 0,.int .i64 0,.int .i64 0,.int .i64 0,.int .u8 0,.lit false,.int .i64 0,.int .i64 0,.int .i64 0,.int .i64 0,.int .u8 0,.lit false,.int .i64 0,.int .i64 0,.int .i64 0,.int .i64 0,.int .u8 0,.lit false,.int .i64 0,.int .i64 0,.int .i64 0,.int .i64 0],.array 4 122⟩),
 (175,⟨20,192,[.int .u8 0,.str [],.lit false,.int .i64 0,.int .i64 0,.int .u8 0,.str [],.lit false,.int .i64 0,.int .i64 0,.int .u8 0,.str [],.lit false,.int .i64 0,.int .i64 0,.int .u8 0,.str [],.lit false,.int .i64 0,.int .i64 0],.array 4 174⟩),
 (38,⟨1,8,[.int .u64 0],.int .u64⟩),
 (100,⟨8,72,[.int .i64 0,.int .i64 0,.nils,.lit false,.int .u8 0,.int .i64 0,.int .i64 0,.int .i64 0],.struct [(0,26)]⟩),
 (89,⟨1,24,[.nils],.slice 5⟩),
 (143,⟨1,24,[.nils],.slice 28⟩),
 (160,⟨16,128,[.int .i64 0,.int .i64 0,.int .i64 0,.int .i64 0,.int .i64 0,.int .i64 0,.int .i64 0,.int .i64 0,.int .i64 0,.int .i64 0,.int .i64 0,.int .i64 0,.int .i64 0,.int .i64 0,.int .i64 0,.int .i64 0],.array 8 159⟩),
 (178,⟨64,64,[.int .u8 0,.int .u8 0,.int .u8 0,.int .u8 0,.int .u8 0,.int .u8 0,.int .u8 0,.int .u8 0,.int .u8 0,.int .u8 0,.int .u8 0,.int .u8 0,.int .u8 0,.int .u8 0,.int .u8 0,.int .u8 0,.int .u8 0,.int .u8 0,.int .u8 0,.int .u8 0,.int .u8 0,.int .u8 0,.int .u8 0,.int .u8 0,.int .u8 0,.int .u8 0,.int .u8 0,.int .u8 0,.int .u8 0,.int .u8 0,.int .u8 0,.int .u8 0,.int .u8 0,.int .u8 0,.int .u8 0,.int .u8 0,.int .u8 0,.int .u8 0,.int .u8 0,.int .u8 0,.int .u8 0,.int .u8 0,.int .u8 0,.int .u8 0,.int .u8 0,.int .u8 0,.int .u8 0,.int .u8 0,.int .u8 0,.int .u8 0,.int .u8 0,.int .u8 0,.int .u8 0,.int .u8 0,.int .u8 0,.int .u8 0,.int .u8 0,.int .u8 0,.int .u8 0,.int .u8 0,.int .u8 0,.int .u8 0,.int .u8 0,.int .u8 0],.array 64 5⟩),
 (186,⟨1,24,[.nils],.slice 185⟩),
 (28,⟨1,8,[.nilf],.func⟩),
 (43,⟨1,8,[.nilf],.func⟩)]
theorem tyOk:tyT.all (fun p=>tyB PP p.1 p.2)=true:=by kernel_rfl
theorem Di:PP.follows .mixedOrders=true:=by kernel_rfl
def iz:List (List Int):=[[1,2],[2,1],[2,-1],[1,-2],[-1,-2],[-2,-1],[-2,1],[-1,2]]
def fS:List (List Int):=[[1,1],[-1,1],[-1,-1],[1,-1]]
def fO:List (List Int):=[[1,0],[0,1],[-1,0],[0,-1]]
def JG:List V:=[.int .u8 1,.lit false,.int .i64 4,.int .i64 6,.int .i64 7,.int .i64 5,.int .u8 2,.lit false,.int .i64 4,.int .i64 2,.int .i64 0,.int .i64 3,
 .int .u8 4,.lit true,.int .i64 60,.int .i64 62,.int .i64 63,.int .i64 61,.int .u8 8,.lit true,.int .i64 60,.int .i64 58,.int .i64 56,.int .i64 59]
def zV:List Int:=[0,1,56,2,57,49,28,3,61,58,42,50,38,29,17,4,62,47,59,36,45,43,51,22,53,39,33,30,24,18,12,5,63,55,48,27,60,41,37,16,46,35,44,21,52,32,23,11,54,26,40,15,34,20,31,10,25,14,19,9,13,8,7,6]
def GGx(kCa kDb:Bool):List O:=.rows false [.i64,.i64] iz::.rows false [.i64,.i64] fS::.rows false [.i64,.i64] fO::(match kCa with|true=>.vals false 24 [JG]|false=>.lock false 24 1)::.rows false [.i64,.i64] [[8,8]]::(match kDb with|true=>.ints false .u8 zV|false=>.lock false 1 64)::[]
abbrev EE(kCa kDb:Bool)(cts:List (FuncId×CF))(inl:List (FuncId×Func)):Env:=mkE tyT (GGx kCa kDb) cts inl
theorem aC{kCa kDb:Bool}{cts:List (FuncId×CF)}{inl:List (FuncId×Func)}(hc:AL (GGx kCa kDb) PP cts)(hi:rY PP inl):(EE kCa kDb cts inl).Fn PP:=Hq Di tyOk hc hi
end Go.Ab
