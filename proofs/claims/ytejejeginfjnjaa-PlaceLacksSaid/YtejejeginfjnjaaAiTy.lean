/- The types of the translation, as far as walks want them: a table, and that it is right. -/
import Derived.Test.YtejejeginfjnjaaProg
import Derived.Test.YtejejeginfjnjaaAiI
import Derived.KernelRfl
namespace Go.Proofs.Ytejejeginfjnjaa
open Go Go.AI

def ty1 : TY := ⟨TypeDesc.func #[] #[] false, 1, 8, [.d .nilfn]⟩
def ty2 : TY := ⟨TypeDesc.int .i64, 1, 8, [.d (.int .i64 0)]⟩
def ty3 : TY := ⟨TypeDesc.int .i64, 1, 8, [.d (.int .i64 0)]⟩
def ty4 : TY := ⟨TypeDesc.bool, 1, 1, [.d (.bool false)]⟩
def ty5 : TY := ⟨TypeDesc.int .u8, 1, 1, [.d (.int .u8 0)]⟩
def ty6 : TY := ⟨TypeDesc.int .u8, 1, 1, [.d (.int .u8 0)]⟩
def ty7 : TY := ⟨TypeDesc.struct #[⟨ "x", 2, 0, false, "", "runtime", 0⟩, ⟨ "y", 3, 1, false, "", "runtime", 8⟩, ⟨ "signed", 4, 2, false, "", "runtime", 16⟩, ⟨ "code", 6, 3, false, "", "runtime", 17⟩], 4, 24, [.d (.int .i64 0), .d (.int .i64 0), .d (.bool false), .d (.int .u8 0)]⟩
def ty8 : TY := ⟨TypeDesc.struct #[⟨ "x", 2, 0, false, "", "runtime", 0⟩, ⟨ "y", 3, 1, false, "", "runtime", 8⟩, ⟨ "signed", 4, 2, false, "", "runtime", 16⟩, ⟨ "code", 6, 3, false, "", "runtime", 17⟩], 4, 24, [.d (.int .i64 0), .d (.int .i64 0), .d (.bool false), .d (.int .u8 0)]⟩
def ty9 : TY := ⟨TypeDesc.string, 1, 16, [.d (.str [])]⟩
def ty10 : TY := ⟨TypeDesc.string, 1, 16, [.d (.str [])]⟩
def ty11 : TY := ⟨TypeDesc.string, 1, 16, [.d (.str [])]⟩
def ty12 : TY := ⟨TypeDesc.int .u64, 1, 8, [.d (.int .u64 0)]⟩
def ty13 : TY := ⟨TypeDesc.struct #[⟨ "msg", 9, 0, false, "", "runtime", 0⟩, ⟨ "addr", 12, 1, false, "", "runtime", 16⟩], 2, 24, [.d (.str []), .d (.int .u64 0)]⟩
def ty14 : TY := ⟨TypeDesc.struct #[⟨ "msg", 9, 0, false, "", "runtime", 0⟩, ⟨ "addr", 12, 1, false, "", "runtime", 16⟩], 2, 24, [.d (.str []), .d (.int .u64 0)]⟩
def ty15 : TY := ⟨TypeDesc.pointer 109, 1, 8, [.d .nilp]⟩
def ty16 : TY := ⟨TypeDesc.pointer 112, 1, 8, [.d .nilp]⟩
def ty17 : TY := ⟨TypeDesc.pointer 121, 1, 8, [.d .nilp]⟩
def ty18 : TY := ⟨TypeDesc.struct #[⟨ "typ", 17, 0, false, "", "internal/runtime/maps", 0⟩], 1, 8, [.d .nilp]⟩
def ty19 : TY := ⟨TypeDesc.struct #[⟨ "typ", 17, 0, false, "", "internal/runtime/maps", 0⟩], 1, 8, [.d .nilp]⟩
def ty21 : TY := ⟨TypeDesc.int .i32, 1, 4, [.d (.int .i32 0)]⟩
def ty22 : TY := ⟨TypeDesc.func #[] #[4] false, 1, 8, [.d .nilfn]⟩
def ty23 : TY := ⟨TypeDesc.func #[24, 24] #[4] false, 1, 8, [.d .nilfn]⟩
def ty24 : TY := ⟨TypeDesc.slice 3, 1, 24, [.nils]⟩
def ty25 : TY := ⟨TypeDesc.func #[9, 3] #[24] false, 1, 8, [.d .nilfn]⟩
def ty26 : TY := ⟨TypeDesc.func #[9, 3, 3] #[4] false, 1, 8, [.d .nilfn]⟩
def ty27 : TY := ⟨TypeDesc.func #[9, 3, 3] #[24] false, 1, 8, [.d .nilfn]⟩
def ty28 : TY := ⟨TypeDesc.slice 9, 1, 24, [.nils]⟩
def ty29 : TY := ⟨TypeDesc.func #[28] #[28] false, 1, 8, [.d .nilfn]⟩
def ty30 : TY := ⟨TypeDesc.func #[28, 28] #[4] false, 1, 8, [.d .nilfn]⟩
def ty31 : TY := ⟨TypeDesc.func #[3, 3, 28, 28] #[28] false, 1, 8, [.d .nilfn]⟩
def ty32 : TY := ⟨TypeDesc.func #[3, 3, 28, 28] #[4] false, 1, 8, [.d .nilfn]⟩
def ty33 : TY := ⟨TypeDesc.func #[24] #[24] false, 1, 8, [.d .nilfn]⟩
def ty34 : TY := ⟨TypeDesc.func #[24] #[] false, 1, 8, [.d .nilfn]⟩
def ty35 : TY := ⟨TypeDesc.func #[9, 3] #[4] false, 1, 8, [.d .nilfn]⟩
def ty36 : TY := ⟨TypeDesc.slice 39, 1, 24, [.nils]⟩
def ty37 : TY := ⟨TypeDesc.func #[9, 3] #[9] false, 1, 8, [.d .nilfn]⟩
def ty38 : TY := ⟨TypeDesc.struct #[⟨ "node", 3, 0, false, "", "bailey/place", 0⟩, ⟨ "rank", 9, 1, false, "", "bailey/place", 8⟩], 2, 24, [.d (.int .i64 0), .d (.str [])]⟩
def ty39 : TY := ⟨TypeDesc.struct #[⟨ "node", 3, 0, false, "", "bailey/place", 0⟩, ⟨ "rank", 9, 1, false, "", "bailey/place", 8⟩], 2, 24, [.d (.int .i64 0), .d (.str [])]⟩
def ty40 : TY := ⟨TypeDesc.func #[36, 41] #[] false, 1, 8, [.d .nilfn]⟩
def ty41 : TY := ⟨TypeDesc.func #[39, 39] #[3] false, 1, 8, [.d .nilfn]⟩
def ty42 : TY := ⟨TypeDesc.func #[24, 3] #[4] false, 1, 8, [.d .nilfn]⟩
def ty43 : TY := ⟨TypeDesc.func #[3] #[4] false, 1, 8, [.d .nilfn]⟩
def ty44 : TY := ⟨TypeDesc.func #[24, 43] #[24] false, 1, 8, [.d .nilfn]⟩
def ty45 : TY := ⟨TypeDesc.map 9 4, 1, 8, [.d .nilmap]⟩
def ty46 : TY := ⟨TypeDesc.func #[28, 9] #[4] false, 1, 8, [.d .nilfn]⟩
def ty47 : TY := ⟨TypeDesc.func #[24, 3, 3, 3] #[] false, 1, 8, [.d .nilfn]⟩
def ty48 : TY := ⟨TypeDesc.func #[49] #[3] false, 1, 8, [.d .nilfn]⟩
def ty49 : TY := ⟨TypeDesc.int .u64, 1, 8, [.d (.int .u64 0)]⟩
def ty50 : TY := ⟨TypeDesc.pointer 77, 1, 8, [.d .nilp]⟩
def ty51 : TY := ⟨TypeDesc.func #[] #[50] false, 1, 8, [.d .nilfn]⟩
def ty52 : TY := ⟨TypeDesc.func #[53] #[] false, 1, 8, [.d .nilfn]⟩
def ty53 : TY := ⟨TypeDesc.slice 5, 1, 24, [.nils]⟩
def ty54 : TY := ⟨TypeDesc.func #[] #[9] false, 1, 8, [.d .nilfn]⟩
def ty55 : TY := ⟨TypeDesc.func #[36, 3, 3, 3, 41] #[] false, 1, 8, [.d .nilfn]⟩
def ty56 : TY := ⟨TypeDesc.func #[9, 9] #[3] false, 1, 8, [.d .nilfn]⟩
def ty57 : TY := ⟨TypeDesc.func #[53] #[9] false, 1, 8, [.d .nilfn]⟩
def ty58 : TY := ⟨TypeDesc.func #[24, 3] #[3] false, 1, 8, [.d .nilfn]⟩
def ty59 : TY := ⟨TypeDesc.func #[24, 43] #[3] false, 1, 8, [.d .nilfn]⟩
def ty60 : TY := ⟨TypeDesc.func #[24, 3, 3] #[] false, 1, 8, [.d .nilfn]⟩
def ty61 : TY := ⟨TypeDesc.int .i64, 1, 8, [.d (.int .i64 0)]⟩
def ty63 : TY := ⟨TypeDesc.func #[24, 3, 3] #[3, 61] false, 1, 8, [.d .nilfn]⟩
def ty64 : TY := ⟨TypeDesc.func #[24, 3, 3] #[4] false, 1, 8, [.d .nilfn]⟩
def ty65 : TY := ⟨TypeDesc.func #[3, 3] #[4] false, 1, 8, [.d .nilfn]⟩
def ty66 : TY := ⟨TypeDesc.func #[24, 3, 3, 3] #[3] false, 1, 8, [.d .nilfn]⟩
def ty68 : TY := ⟨TypeDesc.func #[24, 3, 3, 3] #[3, 4] false, 1, 8, [.d .nilfn]⟩
def ty69 : TY := ⟨TypeDesc.func #[70] #[3] false, 1, 8, [.d .nilfn]⟩
def ty70 : TY := ⟨TypeDesc.int .u32, 1, 4, [.d (.int .u32 0)]⟩
def ty71 : TY := ⟨TypeDesc.func #[72] #[3] false, 1, 8, [.d .nilfn]⟩
def ty72 : TY := ⟨TypeDesc.int .u64, 1, 8, [.d (.int .u64 0)]⟩
def ty73 : TY := ⟨TypeDesc.array 8 70, 8, 32, [.d (.int .u32 0), .d (.int .u32 0), .d (.int .u32 0), .d (.int .u32 0), .d (.int .u32 0), .d (.int .u32 0), .d (.int .u32 0), .d (.int .u32 0)]⟩
def ty74 : TY := ⟨TypeDesc.func #[] #[73] false, 1, 8, [.d .nilfn]⟩
def ty75 : TY := ⟨TypeDesc.array 64 5, 64, 64, [.d (.int .u8 0), .d (.int .u8 0), .d (.int .u8 0), .d (.int .u8 0), .d (.int .u8 0), .d (.int .u8 0), .d (.int .u8 0), .d (.int .u8 0), .d (.int .u8 0), .d (.int .u8 0), .d (.int .u8 0), .d (.int .u8 0), .d (.int .u8 0), .d (.int .u8 0), .d (.int .u8 0), .d (.int .u8 0), .d (.int .u8 0), .d (.int .u8 0), .d (.int .u8 0), .d (.int .u8 0), .d (.int .u8 0), .d (.int .u8 0), .d (.int .u8 0), .d (.int .u8 0), .d (.int .u8 0), .d (.int .u8 0), .d (.int .u8 0), .d (.int .u8 0), .d (.int .u8 0), .d (.int .u8 0), .d (.int .u8 0), .d (.int .u8 0), .d (.int .u8 0), .d (.int .u8 0), .d (.int .u8 0), .d (.int .u8 0), .d (.int .u8 0), .d (.int .u8 0), .d (.int .u8 0), .d (.int .u8 0), .d (.int .u8 0), .d (.int .u8 0), .d (.int .u8 0), .d (.int .u8 0), .d (.int .u8 0), .d (.int .u8 0), .d (.int .u8 0), .d (.int .u8 0), .d (.int .u8 0), .d (.int .u8 0), .d (.int .u8 0), .d (.int .u8 0), .d (.int .u8 0), .d (.int .u8 0), .d (.int .u8 0), .d (.int .u8 0), .d (.int .u8 0), .d (.int .u8 0), .d (.int .u8 0), .d (.int .u8 0), .d (.int .u8 0), .d (.int .u8 0), .d (.int .u8 0), .d (.int .u8 0)]⟩
def ty76 : TY := ⟨TypeDesc.struct #[⟨ "h", 73, 0, false, "", "bailey/sha", 0⟩, ⟨ "part", 75, 8, false, "", "bailey/sha", 32⟩, ⟨ "n", 3, 72, false, "", "bailey/sha", 96⟩, ⟨ "made", 4, 73, false, "", "bailey/sha", 104⟩], 74, 112, [.d (.int .u32 0), .d (.int .u32 0), .d (.int .u32 0), .d (.int .u32 0), .d (.int .u32 0), .d (.int .u32 0), .d (.int .u32 0), .d (.int .u32 0), .d (.int .u8 0), .d (.int .u8 0), .d (.int .u8 0), .d (.int .u8 0), .d (.int .u8 0), .d (.int .u8 0), .d (.int .u8 0), .d (.int .u8 0), .d (.int .u8 0), .d (.int .u8 0), .d (.int .u8 0), .d (.int .u8 0), .d (.int .u8 0), .d (.int .u8 0), .d (.int .u8 0), .d (.int .u8 0), .d (.int .u8 0), .d (.int .u8 0), .d (.int .u8 0), .d (.int .u8 0), .d (.int .u8 0), .d (.int .u8 0), .d (.int .u8 0), .d (.int .u8 0), .d (.int .u8 0), .d (.int .u8 0), .d (.int .u8 0), .d (.int .u8 0), .d (.int .u8 0), .d (.int .u8 0), .d (.int .u8 0), .d (.int .u8 0), .d (.int .u8 0), .d (.int .u8 0), .d (.int .u8 0), .d (.int .u8 0), .d (.int .u8 0), .d (.int .u8 0), .d (.int .u8 0), .d (.int .u8 0), .d (.int .u8 0), .d (.int .u8 0), .d (.int .u8 0), .d (.int .u8 0), .d (.int .u8 0), .d (.int .u8 0), .d (.int .u8 0), .d (.int .u8 0), .d (.int .u8 0), .d (.int .u8 0), .d (.int .u8 0), .d (.int .u8 0), .d (.int .u8 0), .d (.int .u8 0), .d (.int .u8 0), .d (.int .u8 0), .d (.int .u8 0), .d (.int .u8 0), .d (.int .u8 0), .d (.int .u8 0), .d (.int .u8 0), .d (.int .u8 0), .d (.int .u8 0), .d (.int .u8 0), .d (.int .i64 0), .d (.bool false)]⟩
def ty77 : TY := ⟨TypeDesc.struct #[⟨ "h", 73, 0, false, "", "bailey/sha", 0⟩, ⟨ "part", 75, 8, false, "", "bailey/sha", 32⟩, ⟨ "n", 3, 72, false, "", "bailey/sha", 96⟩, ⟨ "made", 4, 73, false, "", "bailey/sha", 104⟩], 74, 112, [.d (.int .u32 0), .d (.int .u32 0), .d (.int .u32 0), .d (.int .u32 0), .d (.int .u32 0), .d (.int .u32 0), .d (.int .u32 0), .d (.int .u32 0), .d (.int .u8 0), .d (.int .u8 0), .d (.int .u8 0), .d (.int .u8 0), .d (.int .u8 0), .d (.int .u8 0), .d (.int .u8 0), .d (.int .u8 0), .d (.int .u8 0), .d (.int .u8 0), .d (.int .u8 0), .d (.int .u8 0), .d (.int .u8 0), .d (.int .u8 0), .d (.int .u8 0), .d (.int .u8 0), .d (.int .u8 0), .d (.int .u8 0), .d (.int .u8 0), .d (.int .u8 0), .d (.int .u8 0), .d (.int .u8 0), .d (.int .u8 0), .d (.int .u8 0), .d (.int .u8 0), .d (.int .u8 0), .d (.int .u8 0), .d (.int .u8 0), .d (.int .u8 0), .d (.int .u8 0), .d (.int .u8 0), .d (.int .u8 0), .d (.int .u8 0), .d (.int .u8 0), .d (.int .u8 0), .d (.int .u8 0), .d (.int .u8 0), .d (.int .u8 0), .d (.int .u8 0), .d (.int .u8 0), .d (.int .u8 0), .d (.int .u8 0), .d (.int .u8 0), .d (.int .u8 0), .d (.int .u8 0), .d (.int .u8 0), .d (.int .u8 0), .d (.int .u8 0), .d (.int .u8 0), .d (.int .u8 0), .d (.int .u8 0), .d (.int .u8 0), .d (.int .u8 0), .d (.int .u8 0), .d (.int .u8 0), .d (.int .u8 0), .d (.int .u8 0), .d (.int .u8 0), .d (.int .u8 0), .d (.int .u8 0), .d (.int .u8 0), .d (.int .u8 0), .d (.int .u8 0), .d (.int .u8 0), .d (.int .i64 0), .d (.bool false)]⟩
def ty78 : TY := ⟨TypeDesc.func #[73, 75] #[73] false, 1, 8, [.d .nilfn]⟩
def ty79 : TY := ⟨TypeDesc.func #[3] #[53] false, 1, 8, [.d .nilfn]⟩
def ty80 : TY := ⟨TypeDesc.func #[73] #[9] false, 1, 8, [.d .nilfn]⟩
def ty81 : TY := ⟨TypeDesc.func #[36, 3, 3, 41] #[] false, 1, 8, [.d .nilfn]⟩
def ty82 : TY := ⟨TypeDesc.func #[36, 3, 3, 41] #[3, 61] false, 1, 8, [.d .nilfn]⟩
def ty83 : TY := ⟨TypeDesc.func #[36, 3, 3, 41] #[4] false, 1, 8, [.d .nilfn]⟩
def ty84 : TY := ⟨TypeDesc.func #[36, 3, 3, 3, 41] #[3] false, 1, 8, [.d .nilfn]⟩
def ty85 : TY := ⟨TypeDesc.func #[36, 3, 3, 3, 41] #[3, 4] false, 1, 8, [.d .nilfn]⟩
def ty86 : TY := ⟨TypeDesc.int .u64, 1, 8, [.d (.int .u64 0)]⟩
def ty87 : TY := ⟨TypeDesc.func #[3] #[49] false, 1, 8, [.d .nilfn]⟩
def ty88 : TY := ⟨TypeDesc.func #[] #[72] false, 1, 8, [.d .nilfn]⟩
def ty89 : TY := ⟨TypeDesc.func #[24, 3, 90] #[3] false, 1, 8, [.d .nilfn]⟩
def ty90 : TY := ⟨TypeDesc.pointer 3, 1, 8, [.d .nilp]⟩
def ty91 : TY := ⟨TypeDesc.func #[24, 3, 3, 3, 90] #[3] false, 1, 8, [.d .nilfn]⟩
def ty92 : TY := ⟨TypeDesc.array 64 70, 64, 256, [.d (.int .u32 0), .d (.int .u32 0), .d (.int .u32 0), .d (.int .u32 0), .d (.int .u32 0), .d (.int .u32 0), .d (.int .u32 0), .d (.int .u32 0), .d (.int .u32 0), .d (.int .u32 0), .d (.int .u32 0), .d (.int .u32 0), .d (.int .u32 0), .d (.int .u32 0), .d (.int .u32 0), .d (.int .u32 0), .d (.int .u32 0), .d (.int .u32 0), .d (.int .u32 0), .d (.int .u32 0), .d (.int .u32 0), .d (.int .u32 0), .d (.int .u32 0), .d (.int .u32 0), .d (.int .u32 0), .d (.int .u32 0), .d (.int .u32 0), .d (.int .u32 0), .d (.int .u32 0), .d (.int .u32 0), .d (.int .u32 0), .d (.int .u32 0), .d (.int .u32 0), .d (.int .u32 0), .d (.int .u32 0), .d (.int .u32 0), .d (.int .u32 0), .d (.int .u32 0), .d (.int .u32 0), .d (.int .u32 0), .d (.int .u32 0), .d (.int .u32 0), .d (.int .u32 0), .d (.int .u32 0), .d (.int .u32 0), .d (.int .u32 0), .d (.int .u32 0), .d (.int .u32 0), .d (.int .u32 0), .d (.int .u32 0), .d (.int .u32 0), .d (.int .u32 0), .d (.int .u32 0), .d (.int .u32 0), .d (.int .u32 0), .d (.int .u32 0), .d (.int .u32 0), .d (.int .u32 0), .d (.int .u32 0), .d (.int .u32 0), .d (.int .u32 0), .d (.int .u32 0), .d (.int .u32 0), .d (.int .u32 0)]⟩
def ty93 : TY := ⟨TypeDesc.func #[94] #[92] false, 1, 8, [.d .nilfn]⟩
def ty94 : TY := ⟨TypeDesc.pointer 75, 1, 8, [.d .nilp]⟩
def ty95 : TY := ⟨TypeDesc.func #[] #[92] false, 1, 8, [.d .nilfn]⟩
def ty96 : TY := ⟨TypeDesc.func #[70] #[70] false, 1, 8, [.d .nilfn]⟩
def ty97 : TY := ⟨TypeDesc.func #[70, 70, 70] #[70] false, 1, 8, [.d .nilfn]⟩
def ty98 : TY := ⟨TypeDesc.slice 70, 1, 24, [.nils]⟩
def ty99 : TY := ⟨TypeDesc.array 32 5, 32, 32, [.d (.int .u8 0), .d (.int .u8 0), .d (.int .u8 0), .d (.int .u8 0), .d (.int .u8 0), .d (.int .u8 0), .d (.int .u8 0), .d (.int .u8 0), .d (.int .u8 0), .d (.int .u8 0), .d (.int .u8 0), .d (.int .u8 0), .d (.int .u8 0), .d (.int .u8 0), .d (.int .u8 0), .d (.int .u8 0), .d (.int .u8 0), .d (.int .u8 0), .d (.int .u8 0), .d (.int .u8 0), .d (.int .u8 0), .d (.int .u8 0), .d (.int .u8 0), .d (.int .u8 0), .d (.int .u8 0), .d (.int .u8 0), .d (.int .u8 0), .d (.int .u8 0), .d (.int .u8 0), .d (.int .u8 0), .d (.int .u8 0), .d (.int .u8 0)]⟩
def ty100 : TY := ⟨TypeDesc.func #[36, 3, 90, 41] #[3] false, 1, 8, [.d .nilfn]⟩
def ty101 : TY := ⟨TypeDesc.func #[36, 3, 3, 3, 90, 41] #[3] false, 1, 8, [.d .nilfn]⟩
def ty102 : TY := ⟨TypeDesc.func #[75] #[92] false, 1, 8, [.d .nilfn]⟩
def ty103 : TY := ⟨TypeDesc.func #[70, 3] #[70] false, 1, 8, [.d .nilfn]⟩
def ty104 : TY := ⟨TypeDesc.pointer 86, 1, 8, [.d .nilp]⟩
def ty106 : TY := ⟨TypeDesc.func #[24, 3, 3, 90] #[3, 3] false, 1, 8, [.d .nilfn]⟩
def ty107 : TY := ⟨TypeDesc.func #[36, 3, 3, 90, 41] #[3, 3] false, 1, 8, [.d .nilfn]⟩
def ty108 : TY := ⟨TypeDesc.struct #[⟨ "_interface", 17, 0, false, "", "runtime", 0⟩, ⟨ "concrete", 17, 1, false, "", "runtime", 8⟩, ⟨ "asserted", 17, 2, false, "", "runtime", 16⟩, ⟨ "missingMethod", 9, 3, false, "", "runtime", 24⟩], 4, 40, [.d .nilp, .d .nilp, .d .nilp, .d (.str [])]⟩
def ty109 : TY := ⟨TypeDesc.struct #[⟨ "_interface", 17, 0, false, "", "runtime", 0⟩, ⟨ "concrete", 17, 1, false, "", "runtime", 8⟩, ⟨ "asserted", 17, 2, false, "", "runtime", 16⟩, ⟨ "missingMethod", 9, 3, false, "", "runtime", 24⟩], 4, 40, [.d .nilp, .d .nilp, .d .nilp, .d (.str [])]⟩
def ty110 : TY := ⟨TypeDesc.array 0 16, 0, 0, []⟩
def ty111 : TY := ⟨TypeDesc.struct #[⟨ "_", 110, 0, false, "", "runtime", 0⟩], 0, 0, []⟩
def ty112 : TY := ⟨TypeDesc.struct #[⟨ "_", 110, 0, false, "", "runtime", 0⟩], 0, 0, []⟩
def ty113 : TY := ⟨TypeDesc.func #[] #[3] false, 1, 8, [.d .nilfn]⟩
def ty114 : TY := ⟨TypeDesc.int .u8, 1, 1, [.d (.int .u8 0)]⟩
def ty115 : TY := ⟨TypeDesc.int .u8, 1, 1, [.d (.int .u8 0)]⟩
def ty116 : TY := ⟨TypeDesc.func #[122, 122] #[4] false, 1, 8, [.d .nilfn]⟩
def ty117 : TY := ⟨TypeDesc.pointer 5, 1, 8, [.d .nilp]⟩
def ty118 : TY := ⟨TypeDesc.int .i32, 1, 4, [.d (.int .i32 0)]⟩
def ty119 : TY := ⟨TypeDesc.int .i32, 1, 4, [.d (.int .i32 0)]⟩
def ty120 : TY := ⟨TypeDesc.struct #[⟨ "Size_", 12, 0, false, "", "", 0⟩, ⟨ "PtrBytes", 12, 1, false, "", "", 8⟩, ⟨ "Hash", 70, 2, false, "", "", 16⟩, ⟨ "TFlag", 114, 3, false, "", "", 20⟩, ⟨ "Align_", 5, 4, false, "", "", 21⟩, ⟨ "FieldAlign_", 5, 5, false, "", "", 22⟩, ⟨ "Kind_", 115, 6, false, "", "", 23⟩, ⟨ "Equal", 116, 7, false, "", "", 24⟩, ⟨ "GCData", 117, 8, false, "", "", 32⟩, ⟨ "Str", 118, 9, false, "", "", 40⟩, ⟨ "PtrToThis", 119, 10, false, "", "", 44⟩], 11, 48, [.d (.int .u64 0), .d (.int .u64 0), .d (.int .u32 0), .d (.int .u8 0), .d (.int .u8 0), .d (.int .u8 0), .d (.int .u8 0), .d .nilfn, .d .nilp, .d (.int .i32 0), .d (.int .i32 0)]⟩
def ty121 : TY := ⟨TypeDesc.struct #[⟨ "Size_", 12, 0, false, "", "", 0⟩, ⟨ "PtrBytes", 12, 1, false, "", "", 8⟩, ⟨ "Hash", 70, 2, false, "", "", 16⟩, ⟨ "TFlag", 114, 3, false, "", "", 20⟩, ⟨ "Align_", 5, 4, false, "", "", 21⟩, ⟨ "FieldAlign_", 5, 5, false, "", "", 22⟩, ⟨ "Kind_", 115, 6, false, "", "", 23⟩, ⟨ "Equal", 116, 7, false, "", "", 24⟩, ⟨ "GCData", 117, 8, false, "", "", 32⟩, ⟨ "Str", 118, 9, false, "", "", 40⟩, ⟨ "PtrToThis", 119, 10, false, "", "", 44⟩], 11, 48, [.d (.int .u64 0), .d (.int .u64 0), .d (.int .u32 0), .d (.int .u8 0), .d (.int .u8 0), .d (.int .u8 0), .d (.int .u8 0), .d .nilfn, .d .nilp, .d (.int .i32 0), .d (.int .i32 0)]⟩

def T : Nat → Option TY
  | 1 => some ty1
  | 2 => some ty2
  | 3 => some ty3
  | 4 => some ty4
  | 5 => some ty5
  | 6 => some ty6
  | 7 => some ty7
  | 8 => some ty8
  | 9 => some ty9
  | 10 => some ty10
  | 11 => some ty11
  | 12 => some ty12
  | 13 => some ty13
  | 14 => some ty14
  | 15 => some ty15
  | 16 => some ty16
  | 17 => some ty17
  | 18 => some ty18
  | 19 => some ty19
  | 21 => some ty21
  | 22 => some ty22
  | 23 => some ty23
  | 24 => some ty24
  | 25 => some ty25
  | 26 => some ty26
  | 27 => some ty27
  | 28 => some ty28
  | 29 => some ty29
  | 30 => some ty30
  | 31 => some ty31
  | 32 => some ty32
  | 33 => some ty33
  | 34 => some ty34
  | 35 => some ty35
  | 36 => some ty36
  | 37 => some ty37
  | 38 => some ty38
  | 39 => some ty39
  | 40 => some ty40
  | 41 => some ty41
  | 42 => some ty42
  | 43 => some ty43
  | 44 => some ty44
  | 45 => some ty45
  | 46 => some ty46
  | 47 => some ty47
  | 48 => some ty48
  | 49 => some ty49
  | 50 => some ty50
  | 51 => some ty51
  | 52 => some ty52
  | 53 => some ty53
  | 54 => some ty54
  | 55 => some ty55
  | 56 => some ty56
  | 57 => some ty57
  | 58 => some ty58
  | 59 => some ty59
  | 60 => some ty60
  | 61 => some ty61
  | 63 => some ty63
  | 64 => some ty64
  | 65 => some ty65
  | 66 => some ty66
  | 68 => some ty68
  | 69 => some ty69
  | 70 => some ty70
  | 71 => some ty71
  | 72 => some ty72
  | 73 => some ty73
  | 74 => some ty74
  | 75 => some ty75
  | 76 => some ty76
  | 77 => some ty77
  | 78 => some ty78
  | 79 => some ty79
  | 80 => some ty80
  | 81 => some ty81
  | 82 => some ty82
  | 83 => some ty83
  | 84 => some ty84
  | 85 => some ty85
  | 86 => some ty86
  | 87 => some ty87
  | 88 => some ty88
  | 89 => some ty89
  | 90 => some ty90
  | 91 => some ty91
  | 92 => some ty92
  | 93 => some ty93
  | 94 => some ty94
  | 95 => some ty95
  | 96 => some ty96
  | 97 => some ty97
  | 98 => some ty98
  | 99 => some ty99
  | 100 => some ty100
  | 101 => some ty101
  | 102 => some ty102
  | 103 => some ty103
  | 104 => some ty104
  | 106 => some ty106
  | 107 => some ty107
  | 108 => some ty108
  | 109 => some ty109
  | 110 => some ty110
  | 111 => some ty111
  | 112 => some ty112
  | 113 => some ty113
  | 114 => some ty114
  | 115 => some ty115
  | 116 => some ty116
  | 117 => some ty117
  | 118 => some ty118
  | 119 => some ty119
  | 120 => some ty120
  | 121 => some ty121
  | _ => none

theorem tyOk {t : Nat} {y : TY} (h1 : Try.prog.underlying t = some y.desc) (h2 : (Try.prog.info? t).bind (fun i => i.zero.map fun z => (i.size, i.bytes, z.cells.toList.map ofVal, aggV z)) = some (y.size, y.bytes, y.zero, aggD y.desc)) (h3 : y.zero.length = y.size) :
    Try.prog.underlying t = some y.desc ∧ ∃ i, Try.prog.info? t = some i ∧ i.size = y.size ∧ i.bytes = y.bytes ∧ ∃ z, i.zero = some z ∧ zeroOk y.zero z ∧ y.zero.length = y.size ∧ aggV z = aggD y.desc := by
  refine ⟨h1, ?_⟩
  cases hi : Try.prog.info? t with
  | none => rw [hi] at h2; cases h2
  | some i =>
    rw [hi] at h2
    simp only [Option.bind_some] at h2
    cases hz : i.zero with
    | none => rw [hz] at h2; cases h2
    | some z =>
      rw [hz] at h2
      simp only [Option.map_some, Option.some.injEq, Prod.mk.injEq] at h2
      exact ⟨i, rfl, h2.1, h2.2.1, z, hz, zeroOk_of h2.2.2.1, h3, h2.2.2.2⟩

theorem T_ok : TOk Try.prog T := by
  intro t y h
  unfold T at h
  split at h
  · cases h; exact tyOk (t := 1) (y := ty1) (by kernel_rfl) (by kernel_rfl) rfl
  · cases h; exact tyOk (t := 2) (y := ty2) (by kernel_rfl) (by kernel_rfl) rfl
  · cases h; exact tyOk (t := 3) (y := ty3) (by kernel_rfl) (by kernel_rfl) rfl
  · cases h; exact tyOk (t := 4) (y := ty4) (by kernel_rfl) (by kernel_rfl) rfl
  · cases h; exact tyOk (t := 5) (y := ty5) (by kernel_rfl) (by kernel_rfl) rfl
  · cases h; exact tyOk (t := 6) (y := ty6) (by kernel_rfl) (by kernel_rfl) rfl
  · cases h; exact tyOk (t := 7) (y := ty7) (by kernel_rfl) (by kernel_rfl) rfl
  · cases h; exact tyOk (t := 8) (y := ty8) (by kernel_rfl) (by kernel_rfl) rfl
  · cases h; exact tyOk (t := 9) (y := ty9) (by kernel_rfl) (by kernel_rfl) rfl
  · cases h; exact tyOk (t := 10) (y := ty10) (by kernel_rfl) (by kernel_rfl) rfl
  · cases h; exact tyOk (t := 11) (y := ty11) (by kernel_rfl) (by kernel_rfl) rfl
  · cases h; exact tyOk (t := 12) (y := ty12) (by kernel_rfl) (by kernel_rfl) rfl
  · cases h; exact tyOk (t := 13) (y := ty13) (by kernel_rfl) (by kernel_rfl) rfl
  · cases h; exact tyOk (t := 14) (y := ty14) (by kernel_rfl) (by kernel_rfl) rfl
  · cases h; exact tyOk (t := 15) (y := ty15) (by kernel_rfl) (by kernel_rfl) rfl
  · cases h; exact tyOk (t := 16) (y := ty16) (by kernel_rfl) (by kernel_rfl) rfl
  · cases h; exact tyOk (t := 17) (y := ty17) (by kernel_rfl) (by kernel_rfl) rfl
  · cases h; exact tyOk (t := 18) (y := ty18) (by kernel_rfl) (by kernel_rfl) rfl
  · cases h; exact tyOk (t := 19) (y := ty19) (by kernel_rfl) (by kernel_rfl) rfl
  · cases h; exact tyOk (t := 21) (y := ty21) (by kernel_rfl) (by kernel_rfl) rfl
  · cases h; exact tyOk (t := 22) (y := ty22) (by kernel_rfl) (by kernel_rfl) rfl
  · cases h; exact tyOk (t := 23) (y := ty23) (by kernel_rfl) (by kernel_rfl) rfl
  · cases h; exact tyOk (t := 24) (y := ty24) (by kernel_rfl) (by kernel_rfl) rfl
  · cases h; exact tyOk (t := 25) (y := ty25) (by kernel_rfl) (by kernel_rfl) rfl
  · cases h; exact tyOk (t := 26) (y := ty26) (by kernel_rfl) (by kernel_rfl) rfl
  · cases h; exact tyOk (t := 27) (y := ty27) (by kernel_rfl) (by kernel_rfl) rfl
  · cases h; exact tyOk (t := 28) (y := ty28) (by kernel_rfl) (by kernel_rfl) rfl
  · cases h; exact tyOk (t := 29) (y := ty29) (by kernel_rfl) (by kernel_rfl) rfl
  · cases h; exact tyOk (t := 30) (y := ty30) (by kernel_rfl) (by kernel_rfl) rfl
  · cases h; exact tyOk (t := 31) (y := ty31) (by kernel_rfl) (by kernel_rfl) rfl
  · cases h; exact tyOk (t := 32) (y := ty32) (by kernel_rfl) (by kernel_rfl) rfl
  · cases h; exact tyOk (t := 33) (y := ty33) (by kernel_rfl) (by kernel_rfl) rfl
  · cases h; exact tyOk (t := 34) (y := ty34) (by kernel_rfl) (by kernel_rfl) rfl
  · cases h; exact tyOk (t := 35) (y := ty35) (by kernel_rfl) (by kernel_rfl) rfl
  · cases h; exact tyOk (t := 36) (y := ty36) (by kernel_rfl) (by kernel_rfl) rfl
  · cases h; exact tyOk (t := 37) (y := ty37) (by kernel_rfl) (by kernel_rfl) rfl
  · cases h; exact tyOk (t := 38) (y := ty38) (by kernel_rfl) (by kernel_rfl) rfl
  · cases h; exact tyOk (t := 39) (y := ty39) (by kernel_rfl) (by kernel_rfl) rfl
  · cases h; exact tyOk (t := 40) (y := ty40) (by kernel_rfl) (by kernel_rfl) rfl
  · cases h; exact tyOk (t := 41) (y := ty41) (by kernel_rfl) (by kernel_rfl) rfl
  · cases h; exact tyOk (t := 42) (y := ty42) (by kernel_rfl) (by kernel_rfl) rfl
  · cases h; exact tyOk (t := 43) (y := ty43) (by kernel_rfl) (by kernel_rfl) rfl
  · cases h; exact tyOk (t := 44) (y := ty44) (by kernel_rfl) (by kernel_rfl) rfl
  · cases h; exact tyOk (t := 45) (y := ty45) (by kernel_rfl) (by kernel_rfl) rfl
  · cases h; exact tyOk (t := 46) (y := ty46) (by kernel_rfl) (by kernel_rfl) rfl
  · cases h; exact tyOk (t := 47) (y := ty47) (by kernel_rfl) (by kernel_rfl) rfl
  · cases h; exact tyOk (t := 48) (y := ty48) (by kernel_rfl) (by kernel_rfl) rfl
  · cases h; exact tyOk (t := 49) (y := ty49) (by kernel_rfl) (by kernel_rfl) rfl
  · cases h; exact tyOk (t := 50) (y := ty50) (by kernel_rfl) (by kernel_rfl) rfl
  · cases h; exact tyOk (t := 51) (y := ty51) (by kernel_rfl) (by kernel_rfl) rfl
  · cases h; exact tyOk (t := 52) (y := ty52) (by kernel_rfl) (by kernel_rfl) rfl
  · cases h; exact tyOk (t := 53) (y := ty53) (by kernel_rfl) (by kernel_rfl) rfl
  · cases h; exact tyOk (t := 54) (y := ty54) (by kernel_rfl) (by kernel_rfl) rfl
  · cases h; exact tyOk (t := 55) (y := ty55) (by kernel_rfl) (by kernel_rfl) rfl
  · cases h; exact tyOk (t := 56) (y := ty56) (by kernel_rfl) (by kernel_rfl) rfl
  · cases h; exact tyOk (t := 57) (y := ty57) (by kernel_rfl) (by kernel_rfl) rfl
  · cases h; exact tyOk (t := 58) (y := ty58) (by kernel_rfl) (by kernel_rfl) rfl
  · cases h; exact tyOk (t := 59) (y := ty59) (by kernel_rfl) (by kernel_rfl) rfl
  · cases h; exact tyOk (t := 60) (y := ty60) (by kernel_rfl) (by kernel_rfl) rfl
  · cases h; exact tyOk (t := 61) (y := ty61) (by kernel_rfl) (by kernel_rfl) rfl
  · cases h; exact tyOk (t := 63) (y := ty63) (by kernel_rfl) (by kernel_rfl) rfl
  · cases h; exact tyOk (t := 64) (y := ty64) (by kernel_rfl) (by kernel_rfl) rfl
  · cases h; exact tyOk (t := 65) (y := ty65) (by kernel_rfl) (by kernel_rfl) rfl
  · cases h; exact tyOk (t := 66) (y := ty66) (by kernel_rfl) (by kernel_rfl) rfl
  · cases h; exact tyOk (t := 68) (y := ty68) (by kernel_rfl) (by kernel_rfl) rfl
  · cases h; exact tyOk (t := 69) (y := ty69) (by kernel_rfl) (by kernel_rfl) rfl
  · cases h; exact tyOk (t := 70) (y := ty70) (by kernel_rfl) (by kernel_rfl) rfl
  · cases h; exact tyOk (t := 71) (y := ty71) (by kernel_rfl) (by kernel_rfl) rfl
  · cases h; exact tyOk (t := 72) (y := ty72) (by kernel_rfl) (by kernel_rfl) rfl
  · cases h; exact tyOk (t := 73) (y := ty73) (by kernel_rfl) (by kernel_rfl) rfl
  · cases h; exact tyOk (t := 74) (y := ty74) (by kernel_rfl) (by kernel_rfl) rfl
  · cases h; exact tyOk (t := 75) (y := ty75) (by kernel_rfl) (by kernel_rfl) rfl
  · cases h; exact tyOk (t := 76) (y := ty76) (by kernel_rfl) (by kernel_rfl) rfl
  · cases h; exact tyOk (t := 77) (y := ty77) (by kernel_rfl) (by kernel_rfl) rfl
  · cases h; exact tyOk (t := 78) (y := ty78) (by kernel_rfl) (by kernel_rfl) rfl
  · cases h; exact tyOk (t := 79) (y := ty79) (by kernel_rfl) (by kernel_rfl) rfl
  · cases h; exact tyOk (t := 80) (y := ty80) (by kernel_rfl) (by kernel_rfl) rfl
  · cases h; exact tyOk (t := 81) (y := ty81) (by kernel_rfl) (by kernel_rfl) rfl
  · cases h; exact tyOk (t := 82) (y := ty82) (by kernel_rfl) (by kernel_rfl) rfl
  · cases h; exact tyOk (t := 83) (y := ty83) (by kernel_rfl) (by kernel_rfl) rfl
  · cases h; exact tyOk (t := 84) (y := ty84) (by kernel_rfl) (by kernel_rfl) rfl
  · cases h; exact tyOk (t := 85) (y := ty85) (by kernel_rfl) (by kernel_rfl) rfl
  · cases h; exact tyOk (t := 86) (y := ty86) (by kernel_rfl) (by kernel_rfl) rfl
  · cases h; exact tyOk (t := 87) (y := ty87) (by kernel_rfl) (by kernel_rfl) rfl
  · cases h; exact tyOk (t := 88) (y := ty88) (by kernel_rfl) (by kernel_rfl) rfl
  · cases h; exact tyOk (t := 89) (y := ty89) (by kernel_rfl) (by kernel_rfl) rfl
  · cases h; exact tyOk (t := 90) (y := ty90) (by kernel_rfl) (by kernel_rfl) rfl
  · cases h; exact tyOk (t := 91) (y := ty91) (by kernel_rfl) (by kernel_rfl) rfl
  · cases h; exact tyOk (t := 92) (y := ty92) (by kernel_rfl) (by kernel_rfl) rfl
  · cases h; exact tyOk (t := 93) (y := ty93) (by kernel_rfl) (by kernel_rfl) rfl
  · cases h; exact tyOk (t := 94) (y := ty94) (by kernel_rfl) (by kernel_rfl) rfl
  · cases h; exact tyOk (t := 95) (y := ty95) (by kernel_rfl) (by kernel_rfl) rfl
  · cases h; exact tyOk (t := 96) (y := ty96) (by kernel_rfl) (by kernel_rfl) rfl
  · cases h; exact tyOk (t := 97) (y := ty97) (by kernel_rfl) (by kernel_rfl) rfl
  · cases h; exact tyOk (t := 98) (y := ty98) (by kernel_rfl) (by kernel_rfl) rfl
  · cases h; exact tyOk (t := 99) (y := ty99) (by kernel_rfl) (by kernel_rfl) rfl
  · cases h; exact tyOk (t := 100) (y := ty100) (by kernel_rfl) (by kernel_rfl) rfl
  · cases h; exact tyOk (t := 101) (y := ty101) (by kernel_rfl) (by kernel_rfl) rfl
  · cases h; exact tyOk (t := 102) (y := ty102) (by kernel_rfl) (by kernel_rfl) rfl
  · cases h; exact tyOk (t := 103) (y := ty103) (by kernel_rfl) (by kernel_rfl) rfl
  · cases h; exact tyOk (t := 104) (y := ty104) (by kernel_rfl) (by kernel_rfl) rfl
  · cases h; exact tyOk (t := 106) (y := ty106) (by kernel_rfl) (by kernel_rfl) rfl
  · cases h; exact tyOk (t := 107) (y := ty107) (by kernel_rfl) (by kernel_rfl) rfl
  · cases h; exact tyOk (t := 108) (y := ty108) (by kernel_rfl) (by kernel_rfl) rfl
  · cases h; exact tyOk (t := 109) (y := ty109) (by kernel_rfl) (by kernel_rfl) rfl
  · cases h; exact tyOk (t := 110) (y := ty110) (by kernel_rfl) (by kernel_rfl) rfl
  · cases h; exact tyOk (t := 111) (y := ty111) (by kernel_rfl) (by kernel_rfl) rfl
  · cases h; exact tyOk (t := 112) (y := ty112) (by kernel_rfl) (by kernel_rfl) rfl
  · cases h; exact tyOk (t := 113) (y := ty113) (by kernel_rfl) (by kernel_rfl) rfl
  · cases h; exact tyOk (t := 114) (y := ty114) (by kernel_rfl) (by kernel_rfl) rfl
  · cases h; exact tyOk (t := 115) (y := ty115) (by kernel_rfl) (by kernel_rfl) rfl
  · cases h; exact tyOk (t := 116) (y := ty116) (by kernel_rfl) (by kernel_rfl) rfl
  · cases h; exact tyOk (t := 117) (y := ty117) (by kernel_rfl) (by kernel_rfl) rfl
  · cases h; exact tyOk (t := 118) (y := ty118) (by kernel_rfl) (by kernel_rfl) rfl
  · cases h; exact tyOk (t := 119) (y := ty119) (by kernel_rfl) (by kernel_rfl) rfl
  · cases h; exact tyOk (t := 120) (y := ty120) (by kernel_rfl) (by kernel_rfl) rfl
  · cases h; exact tyOk (t := 121) (y := ty121) (by kernel_rfl) (by kernel_rfl) rfl
  · cases h

theorem mixed : Try.prog.follows .mixedOrders = true := by kernel_rfl

end Go.Proofs.Ytejejeginfjnjaa
