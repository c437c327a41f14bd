/- Contracts of the functions that the laws reach, and plain laws of what they compute (text G5); no condition. -/
import Derived.Test.YtlannahgjgpfcaaGreatDoorG3
import Derived.Test.YtlannahgjgpfcaaGreatDoorProg
set_option maxRecDepth 100000
namespace Go.Ab
open Go.Proofs
noncomputable abbrev PP:Program:=Tryz.prog
def tyT:List (TypeId×Ty):=[
 (3,⟨1,8,[.int .i64 0],.int .i64⟩),
 (35,⟨8,72,[.int .i64 0,.int .i64 0,.nils,.lit false,.int .u8 0,.int .i64 0,.int .i64 0,.int .i64 0],.struct [(0,32),(2,33),(3,4),(4,5),(5,3),(6,3),(7,3)]⟩),
 (32,⟨2,16,[.int .i64 0,.int .i64 0],.struct [(0,3),(1,3)]⟩),
 (33,⟨1,24,[.nils],.slice 53⟩),
 (53,⟨1,1,[.int .i8 0],.int .i8⟩),
 (107,⟨3,40,[.int .i64 0,.int .i64 0,.nils],.struct [(0,32),(2,33)]⟩),
 (55,⟨3,24,[.int .i64 0,.int .i64 0,.int .i8 0],.struct [(0,3),(1,3),(2,53)]⟩),
 (9,⟨1,16,[.str []],.str⟩),
 (5,⟨1,1,[.int .u8 0],.int .u8⟩),
 (65,⟨1,8,[.int .u64 0],.int .u64⟩),
 (150,⟨1,24,[.nils],.slice 5⟩),
 (114,⟨2,16,[.int .i64 0,.int .i64 0],.struct [(0,3),(1,3)]⟩),
 (23,⟨1,8,[.int .i64 0],.int .i64⟩),
 (133,⟨1,24,[.nils],.slice 9⟩),
 (22,⟨1,1,[.int .u8 0],.int .u8⟩),
 (163,⟨10,88,[.int .i64 0,.int .i64 0,.nils,.lit false,.int .u8 0,.int .i64 0,.int .i64 0,.int .i64 0,.int .u64 0,.int .u64 0],.struct [(0,35),(8,65),(9,65)]⟩),
 (79,⟨1,24,[.nils],.slice 55⟩),
 (4,⟨1,1,[.lit false],.bool⟩),
 (146,⟨1,24,[.nils],.slice 3⟩),
 (278,⟨1,4,[.int .u32 0],.int .u32⟩),
 (42,⟨1,24,[.nils],.slice 22⟩),
 (223,⟨6,40,[.int .u8 0,.lit false,.int .i64 0,.int .i64 0,.int .i64 0,.int .i64 0],.struct [(0,5),(1,4),(2,3),(3,3),(4,3),(5,3)]⟩),
 (254,⟨2,16,[.int .i64 0,.int .i64 0],.struct [(0,3),(1,3)]⟩),
 (64,⟨1,8,[.int .u64 0],.int .u64⟩),
 (97,⟨10,96,[.str [],.int .i64 0,.int .i64 0,.nils,.lit false,.int .u8 0,.int .i64 0,.int .i64 0,.int .i64 0,.int .u8 0],.struct [(0,9),(1,35),(9,22)]⟩),
 (197,⟨9,72,[.int .i64 0,.int .i64 0,.int .i8 0,.int .i8 0,.int .i64 0,.int .u8 0,.int .i64 0,.int .i64 0,.int .i64 0],.struct [(0,55),(3,53),(4,3),(5,5),(6,3),(7,3),(8,3)]⟩),
 (269,⟨3,32,[.int .u8 0,.int .i64 0,.str []],.struct [(0,5),(1,3),(2,9)]⟩),
 (178,⟨5,48,[.int .u8 0,.str [],.lit false,.int .i64 0,.int .i64 0],.struct [(0,5),(1,9),(2,4),(3,3),(4,3)]⟩),
 (86,⟨1,1,[.int .u8 0],.int .u8⟩),
 (237,⟨2,32,[.nilp,.nils],.struct [(0,235),(1,150)]⟩),
 (258,⟨5,32,[.int .u8 0,.lit false,.int .i64 0,.int .i64 0,.int .i64 0],.struct [(0,5),(1,4),(2,3),(3,3),(4,3)]⟩),
 (99,⟨1,24,[.nils],.slice 97⟩),
 (257,⟨8,64,[.int .i64 0,.int .i64 0,.int .i64 0,.int .i64 0,.int .i64 0,.int .i64 0,.int .i64 0,.int .i64 0],.array 4 254⟩),
 (279,⟨65,65,[.int .u8 0,.int .u8 0,.int .u8 0,.int .u8 0,.int .u8 0,.int .u8 0,.int .u8 0,.int .u8 0,.int .u8 0,.int .u8 0,.int .u8 0,.int .u8 0,.int .u8 0,.int .u8 0,.int .u8 0,.int .u8 0,.int .u8 0,.int .u8 0,.int .u8 0,.int .u8 0,.int .u8 0,.int .u8 0,.int .u8 0,.int .u8 0,.int .u8 0,.int .u8 0,.int .u8 0,.int .u8 0,.int .u8 0,.int .u8 0,.int .u8 0,.int .u8 0,.int .u8 0,.int .u8 0,.int .u8 0,.int .u8 0,.int .u8 0,.int .u8 0,.int .u8 0,.int .u8 0,.int .u8 0,.int .u8 0,.int .u8 0,.int .u8 0,.int .u8 0,.int .u8 0,.int .u8 0,.int .u8 0,.int .u8 0,.int .u8 0,.int .u8 0,.int .u8 0,.int .u8 0,.int .u8 0,.int .u8 0,.int .u8 0,.int .u8 0,.int .u8 0,.int .u8 0,.int .u8 0,.int .u8 0,.int .u8 0,.int .u8 0,.int .u8 0,.int .u8 0],.array 65 5⟩),
 (252,⟨1,24,[.nils],.slice 254⟩),
 (88,⟨8,8,[.int .u8 0,.int .u8 0,.int .u8 0,.int .u8 0,.int .u8 0,.int .u8 0,.int .u8 0,.int .u8 0],.array 8 86⟩),
 (122,⟨1,8,[.int .u64 0],.int .u64⟩),
 (179,⟨20,192,[.int .u8 0,.str [],.lit false,.int .i64 0,.int .i64 0,.int .u8 0,.str [],.lit false,.int .i64 0,.int .i64 0,.int .u8 0,.str [],.lit false,.int .i64 0,.int .i64 0,.int .u8 0,.str [],.lit false,.int .i64 0,.int .i64 0],.array 4 178⟩),
 (262,⟨24,160,[.int .u8 0,.lit false,.int .i64 0,.int .i64 0,.int .i64 0,.int .i64 0,.int .u8 0,.lit false,.int .i64 0,.int .i64 0,.int .i64 0,.int .i64 0,.int .u8 0,.lit false,.int .i64 0,.int .i64 0,.int .i64 0,.int .i64 0,.int .u8 0,.lit false,.int .i64 0,.int .i64 0,.int .i64 0,.int .i64 0],.array 4 223⟩),
 (264,⟨24,24,[.int .u8 0,.int .u8 0,.int .u8 0,.int .u8 0,.int .u8 0,.int .u8 0,.int .u8 0,.int .u8 0,.int .u8 0,.int .u8 0,.int .u8 0,.int .u8 0,.int .u8 0,.int .u8 0,.int .u8 0,.int .u8 0,.int .u8 0,.int .u8 0,.int .u8 0,.int .u8 0,.int .u8 0,.int .u8 0,.int .u8 0,.int .u8 0],.array 24 5⟩),
 (270,⟨45,480,[.int .u8 0,.int .i64 0,.str [],.int .u8 0,.int .i64 0,.str [],.int .u8 0,.int .i64 0,.str [],.int .u8 0,.int .i64 0,.str [],.int .u8 0,.int .i64 0,.str [],.int .u8 0,.int .i64 0,.str [],.int .u8 0,.int .i64 0,.str [],.int .u8 0,.int .i64 0,.str [],.int .u8 0,.int .i64 0,.str [],.int .u8 0,.int .i64 0,.str [],.int .u8 0,.int .i64 0,.str [],.int .u8 0,.int .i64 0,.str [],.int .u8 0,.int .i64 0,.str [],.int .u8 0,.int .i64 0,.str [],.int .u8 0,.int .i64 0,.str []],.array 15 269⟩),
 (129,⟨1,24,[.nils],.slice 27⟩),
 (132,⟨2,2,[.int .u8 0,.int .u8 0],.array 2 86⟩),
 (172,⟨8,72,[.int .i64 0,.int .i64 0,.nils,.lit false,.int .u8 0,.int .i64 0,.int .i64 0,.int .i64 0],.struct [(0,35)]⟩),
 (216,⟨64,64,[.int .u8 0,.int .u8 0,.int .u8 0,.int .u8 0,.int .u8 0,.int .u8 0,.int .u8 0,.int .u8 0,.int .u8 0,.int .u8 0,.int .u8 0,.int .u8 0,.int .u8 0,.int .u8 0,.int .u8 0,.int .u8 0,.int .u8 0,.int .u8 0,.int .u8 0,.int .u8 0,.int .u8 0,.int .u8 0,.int .u8 0,.int .u8 0,.int .u8 0,.int .u8 0,.int .u8 0,.int .u8 0,.int .u8 0,.int .u8 0,.int .u8 0,.int .u8 0,.int .u8 0,.int .u8 0,.int .u8 0,.int .u8 0,.int .u8 0,.int .u8 0,.int .u8 0,.int .u8 0,.int .u8 0,.int .u8 0,.int .u8 0,.int .u8 0,.int .u8 0,.int .u8 0,.int .u8 0,.int .u8 0,.int .u8 0,.int .u8 0,.int .u8 0,.int .u8 0,.int .u8 0,.int .u8 0,.int .u8 0,.int .u8 0,.int .u8 0,.int .u8 0,.int .u8 0,.int .u8 0,.int .u8 0,.int .u8 0,.int .u8 0,.int .u8 0],.array 64 5⟩),
 (255,⟨16,128,[.int .i64 0,.int .i64 0,.int .i64 0,.int .i64 0,.int .i64 0,.int .i64 0,.int .i64 0,.int .i64 0,.int .i64 0,.int .i64 0,.int .i64 0,.int .i64 0,.int .i64 0,.int .i64 0,.int .i64 0,.int .i64 0],.array 8 254⟩),
 (259,⟨1,24,[.nils],.slice 258⟩),
 (277,⟨20,160,[.int .u64 0,.int .u64 0,.int .u64 0,.int .u64 0,.int .u64 0,.int .u64 0,.int .u64 0,.int .u64 0,.int .u64 0,.int .u64 0,.int .u64 0,.int .u64 0,.int .u64 0,.int .u64 0,.int .u64 0,.int .u64 0,.int .u64 0,.int .u64 0,.int .u64 0,.int .u64 0],.array 20 64⟩),
 (286,⟨32,32,[.int .u8 0,.int .u8 0,.int .u8 0,.int .u8 0,.int .u8 0,.int .u8 0,.int .u8 0,.int .u8 0,.int .u8 0,.int .u8 0,.int .u8 0,.int .u8 0,.int .u8 0,.int .u8 0,.int .u8 0,.int .u8 0,.int .u8 0,.int .u8 0,.int .u8 0,.int .u8 0,.int .u8 0,.int .u8 0,.int .u8 0,.int .u8 0,.int .u8 0,.int .u8 0,.int .u8 0,.int .u8 0,.int .u8 0,.int .u8 0,.int .u8 0,.int .u8 0],.array 32 5⟩),
 (27,⟨1,8,[.nilf],.func⟩)]
theorem tyOk:tyT.all (fun p=>tyB PP p.1 p.2)=true:=by kernel_rfl
theorem Kt:PP.follows .mixedOrders=true:=by kernel_rfl
def iy:List (List Int):=[[1,2],[2,1],[2,-1],[1,-2],[-1,-2],[-2,-1],[-2,1],[-1,2]]
def fI:List (List Int):=[[1,1],[-1,1],[-1,-1],[1,-1]]
def fD:List (List Int):=[[1,0],[0,1],[-1,0],[0,-1]]
def Ou:List V:=[.int .u8 1,.lit false,.int .i64 4,.int .i64 6,.int .i64 7,.int .i64 5,.int .u8 2,.lit false,.int .i64 4,.int .i64 2,.int .i64 0,.int .i64 3,
 .int .u8 4,.lit true,.int .i64 60,.int .i64 62,.int .i64 63,.int .i64 61,.int .u8 8,.lit true,.int .i64 60,.int .i64 58,.int .i64 56,.int .i64 59]
def MP:List Int:=[0,1,56,2,57,49,28,3,61,58,42,50,38,29,17,4,62,47,59,36,45,43,51,22,53,39,33,30,24,18,12,5,63,55,48,27,60,41,37,16,46,35,44,21,52,32,23,11,54,26,40,15,34,20,31,10,25,14,19,9,13,8,7,6]
def IL:List (List V):=[
 [.int .u8 80,.int .i64 1,.str [112,97,119,110]],
 [.int .u8 78,.int .i64 3,.str [107,110,105,103,104,116]],
 [.int .u8 66,.int .i64 3,.str [98,105,115,104,111,112]],
 [.int .u8 82,.int .i64 5,.str [114,111,111,107]],
 [.int .u8 81,.int .i64 9,.str [113,117,101,101,110]],
 [.int .u8 75,.int .i64 0,.str [107,105,110,103]],
 [.int .u8 65,.int .i64 0,.str [102,97,105,114,121,45,97]],
 [.int .u8 67,.int .i64 0,.str [102,97,105,114,121,45,99]],
 [.int .u8 68,.int .i64 0,.str [102,97,105,114,121,45,100]],
 [.int .u8 69,.int .i64 0,.str [102,97,105,114,121,45,101]],
 [.int .u8 70,.int .i64 0,.str [102,97,105,114,121,45,102]],
 [.int .u8 71,.int .i64 0,.str [102,97,105,114,121,45,103]],
 [.int .u8 72,.int .i64 0,.str [102,97,105,114,121,45,104]],
 [.int .u8 73,.int .i64 0,.str [102,97,105,114,121,45,105]],
 [.int .u8 74,.int .i64 0,.str [102,97,105,114,121,45,106]]]
def powT:List Int:=[1,10,100,1000,10000,100000,1000000,10000000,100000000,1000000000,10000000000,100000000000,1000000000000,10000000000000,100000000000000,1000000000000000,10000000000000000,100000000000000000,1000000000000000000,10000000000000000000]
def GGx(kCa kDb:Bool):List O:=.rows false [.i64,.i64] [[8,8]]::.lock false 1 1::(match kDb with|true=>.ints false .u8 MP|false=>.lock false 1 64)::.rows false [.i64,.i64] iy::.rows false [.i64,.i64] fI::.rows false [.i64,.i64] fD::(match kCa with|true=>.vals false 24 [Ou]|false=>.lock false 24 1)::.vals false 3 IL::.ints false .u64 powT::.lock false 1 32::[]
abbrev EE(kCa kDb:Bool)(cts:List (FuncId×CF))(inl:List (FuncId×Func)):Env:=mkE tyT (GGx kCa kDb) cts inl
theorem aD{kCa kDb:Bool}{cts:List (FuncId×CF)}{inl:List (FuncId×Func)}(hc:Ii (GGx kCa kDb) PP cts)(hi:qV PP inl):(EE kCa kDb cts inl).Fn PP:=MI Kt tyOk hc hi
end Go.Ab
