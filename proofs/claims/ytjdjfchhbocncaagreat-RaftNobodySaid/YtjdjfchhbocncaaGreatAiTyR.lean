/- The types of the translation, as far as walks want them: a table, and that it is right. -/
import Derived.Test.YtjdjfchhbocncaaGreatProg
import Derived.Test.YtjdjfchhbocncaaGreatAiI
import Derived.KernelRfl
namespace Go.Proofs.YtjdjfchhbocncaaGreat
open Go Go.AI

def ty1 : TY := ⟨TypeDesc.func #[] #[] false, 1, 8, [.d .nilfn]⟩
def ty2 : TY := ⟨TypeDesc.int .i64, 1, 8, [.d (.int .i64 0)]⟩
def ty3 : TY := ⟨TypeDesc.int .i64, 1, 8, [.d (.int .i64 0)]⟩
def ty4 : TY := ⟨TypeDesc.bool, 1, 1, [.d (.bool false)]⟩
def ty5 : TY := ⟨TypeDesc.int .u8, 1, 1, [.d (.int .u8 0)]⟩
def ty6 : TY := ⟨TypeDesc.int .u8, 1, 1, [.d (.int .u8 0)]⟩
def ty7 : TY := ⟨TypeDesc.struct #[⟨ "x", 2, 0, false, "", "runtime", 0⟩, ⟨ "y", 3, 1, false, "", "runtime", 8⟩, ⟨ "signed", 4, 2, false, "", "runtime", 16⟩, ⟨ "code", 6, 3, false, "", "runtime", 17⟩], 4, 24, [.d (.int .i64 0), .d (.int .i64 0), .d (.bool false), .d (.int .u8 0)]⟩
def ty8 : TY := ⟨TypeDesc.struct #[⟨ "x", 2, 0, false, "", "runtime", 0⟩, ⟨ "y", 3, 1, false, "", "runtime", 8⟩, ⟨ "signed", 4, 2, false, "", "runtime", 16⟩, ⟨ "code", 6, 3, false, "", "runtime", 17⟩], 4, 24, [.d (.int .i64 0), .d (.int .i64 0), .d (.bool false), .d (.int .u8 0)]⟩
def ty9 : TY := ⟨TypeDesc.string, 1, 16, [.d (.str [])]⟩
def ty10 : TY := ⟨TypeDesc.string, 1, 16, [.d (.str [])]⟩
def ty11 : TY := ⟨TypeDesc.string, 1, 16, [.d (.str [])]⟩
def ty12 : TY := ⟨TypeDesc.int .u64, 1, 8, [.d (.int .u64 0)]⟩
def ty13 : TY := ⟨TypeDesc.struct #[⟨ "msg", 9, 0, false, "", "runtime", 0⟩, ⟨ "addr", 12, 1, false, "", "runtime", 16⟩], 2, 24, [.d (.str []), .d (.int .u64 0)]⟩
def ty14 : TY := ⟨TypeDesc.struct #[⟨ "msg", 9, 0, false, "", "runtime", 0⟩, ⟨ "addr", 12, 1, false, "", "runtime", 16⟩], 2, 24, [.d (.str []), .d (.int .u64 0)]⟩
def ty15 : TY := ⟨TypeDesc.pointer 197, 1, 8, [.d .nilp]⟩
def ty16 : TY := ⟨TypeDesc.pointer 200, 1, 8, [.d .nilp]⟩
def ty17 : TY := ⟨TypeDesc.pointer 208, 1, 8, [.d .nilp]⟩
def ty18 : TY := ⟨TypeDesc.struct #[⟨ "typ", 17, 0, false, "", "internal/runtime/maps", 0⟩], 1, 8, [.d .nilp]⟩
def ty19 : TY := ⟨TypeDesc.struct #[⟨ "typ", 17, 0, false, "", "internal/runtime/maps", 0⟩], 1, 8, [.d .nilp]⟩
def ty21 : TY := ⟨TypeDesc.int .i32, 1, 4, [.d (.int .i32 0)]⟩
def ty22 : TY := ⟨TypeDesc.slice 76, 1, 24, [.nils]⟩
def ty23 : TY := ⟨TypeDesc.slice 5, 1, 24, [.nils]⟩
def ty24 : TY := ⟨TypeDesc.struct #[⟨ "Kind", 3, 0, false, "", "", 0⟩, ⟨ "From", 3, 1, false, "", "", 8⟩, ⟨ "To", 3, 2, false, "", "", 16⟩, ⟨ "Term", 3, 3, false, "", "", 24⟩, ⟨ "Index", 3, 4, false, "", "", 32⟩, ⟨ "LogTerm", 3, 5, false, "", "", 40⟩, ⟨ "Commit", 3, 6, false, "", "", 48⟩, ⟨ "Round", 3, 7, false, "", "", 56⟩, ⟨ "Conf", 3, 8, false, "", "", 64⟩, ⟨ "OK", 4, 9, false, "", "", 72⟩, ⟨ "Entries", 22, 10, false, "", "", 80⟩, ⟨ "Data", 23, 11, false, "", "", 104⟩, ⟨ "Sum", 9, 12, false, "", "", 128⟩], 13, 144, [.d (.int .i64 0), .d (.int .i64 0), .d (.int .i64 0), .d (.int .i64 0), .d (.int .i64 0), .d (.int .i64 0), .d (.int .i64 0), .d (.int .i64 0), .d (.int .i64 0), .d (.bool false), .nils, .nils, .d (.str [])]⟩
def ty25 : TY := ⟨TypeDesc.struct #[⟨ "Kind", 3, 0, false, "", "", 0⟩, ⟨ "From", 3, 1, false, "", "", 8⟩, ⟨ "To", 3, 2, false, "", "", 16⟩, ⟨ "Term", 3, 3, false, "", "", 24⟩, ⟨ "Index", 3, 4, false, "", "", 32⟩, ⟨ "LogTerm", 3, 5, false, "", "", 40⟩, ⟨ "Commit", 3, 6, false, "", "", 48⟩, ⟨ "Round", 3, 7, false, "", "", 56⟩, ⟨ "Conf", 3, 8, false, "", "", 64⟩, ⟨ "OK", 4, 9, false, "", "", 72⟩, ⟨ "Entries", 22, 10, false, "", "", 80⟩, ⟨ "Data", 23, 11, false, "", "", 104⟩, ⟨ "Sum", 9, 12, false, "", "", 128⟩], 13, 144, [.d (.int .i64 0), .d (.int .i64 0), .d (.int .i64 0), .d (.int .i64 0), .d (.int .i64 0), .d (.int .i64 0), .d (.int .i64 0), .d (.int .i64 0), .d (.int .i64 0), .d (.bool false), .nils, .nils, .d (.str [])]⟩
def ty26 : TY := ⟨TypeDesc.pointer 41, 1, 8, [.d .nilp]⟩
def ty27 : TY := ⟨TypeDesc.struct #[⟨ "term", 3, 0, false, "", "bailey/raft", 0⟩, ⟨ "vote", 3, 1, false, "", "bailey/raft", 8⟩], 2, 16, [.d (.int .i64 0), .d (.int .i64 0)]⟩
def ty28 : TY := ⟨TypeDesc.struct #[⟨ "term", 3, 0, false, "", "bailey/raft", 0⟩, ⟨ "vote", 3, 1, false, "", "bailey/raft", 8⟩], 2, 16, [.d (.int .i64 0), .d (.int .i64 0)]⟩
def ty29 : TY := ⟨TypeDesc.pointer 87, 1, 8, [.d .nilp]⟩
def ty30 : TY := ⟨TypeDesc.struct #[⟨ "next", 3, 0, false, "", "bailey/raft", 0⟩, ⟨ "match", 3, 1, false, "", "bailey/raft", 8⟩, ⟨ "heard", 3, 2, false, "", "bailey/raft", 16⟩], 3, 24, [.d (.int .i64 0), .d (.int .i64 0), .d (.int .i64 0)]⟩
def ty31 : TY := ⟨TypeDesc.struct #[⟨ "next", 3, 0, false, "", "bailey/raft", 0⟩, ⟨ "match", 3, 1, false, "", "bailey/raft", 8⟩, ⟨ "heard", 3, 2, false, "", "bailey/raft", 16⟩], 3, 24, [.d (.int .i64 0), .d (.int .i64 0), .d (.int .i64 0)]⟩
def ty32 : TY := ⟨TypeDesc.array 7 31, 21, 168, [.d (.int .i64 0), .d (.int .i64 0), .d (.int .i64 0), .d (.int .i64 0), .d (.int .i64 0), .d (.int .i64 0), .d (.int .i64 0), .d (.int .i64 0), .d (.int .i64 0), .d (.int .i64 0), .d (.int .i64 0), .d (.int .i64 0), .d (.int .i64 0), .d (.int .i64 0), .d (.int .i64 0), .d (.int .i64 0), .d (.int .i64 0), .d (.int .i64 0), .d (.int .i64 0), .d (.int .i64 0), .d (.int .i64 0)]⟩
def ty33 : TY := ⟨TypeDesc.slice 61, 1, 24, [.nils]⟩
def ty34 : TY := ⟨TypeDesc.struct #[⟨ "of", 32, 0, false, "", "bailey/raft", 0⟩, ⟨ "round", 3, 21, false, "", "bailey/raft", 168⟩, ⟨ "reads", 33, 22, false, "", "bailey/raft", 176⟩], 23, 200, [.d (.int .i64 0), .d (.int .i64 0), .d (.int .i64 0), .d (.int .i64 0), .d (.int .i64 0), .d (.int .i64 0), .d (.int .i64 0), .d (.int .i64 0), .d (.int .i64 0), .d (.int .i64 0), .d (.int .i64 0), .d (.int .i64 0), .d (.int .i64 0), .d (.int .i64 0), .d (.int .i64 0), .d (.int .i64 0), .d (.int .i64 0), .d (.int .i64 0), .d (.int .i64 0), .d (.int .i64 0), .d (.int .i64 0), .d (.int .i64 0), .nils]⟩
def ty35 : TY := ⟨TypeDesc.struct #[⟨ "of", 32, 0, false, "", "bailey/raft", 0⟩, ⟨ "round", 3, 21, false, "", "bailey/raft", 168⟩, ⟨ "reads", 33, 22, false, "", "bailey/raft", 176⟩], 23, 200, [.d (.int .i64 0), .d (.int .i64 0), .d (.int .i64 0), .d (.int .i64 0), .d (.int .i64 0), .d (.int .i64 0), .d (.int .i64 0), .d (.int .i64 0), .d (.int .i64 0), .d (.int .i64 0), .d (.int .i64 0), .d (.int .i64 0), .d (.int .i64 0), .d (.int .i64 0), .d (.int .i64 0), .d (.int .i64 0), .d (.int .i64 0), .d (.int .i64 0), .d (.int .i64 0), .d (.int .i64 0), .d (.int .i64 0), .d (.int .i64 0), .nils]⟩
def ty36 : TY := ⟨TypeDesc.slice 25, 1, 24, [.nils]⟩
def ty37 : TY := ⟨TypeDesc.slice 80, 1, 24, [.nils]⟩
def ty38 : TY := ⟨TypeDesc.struct #[⟨ "Msgs", 36, 0, false, "", "", 0⟩, ⟨ "Records", 37, 1, false, "", "", 24⟩, ⟨ "Loaded", 4, 2, false, "", "", 48⟩], 3, 56, [.nils, .nils, .d (.bool false)]⟩
def ty39 : TY := ⟨TypeDesc.struct #[⟨ "Msgs", 36, 0, false, "", "", 0⟩, ⟨ "Records", 37, 1, false, "", "", 24⟩, ⟨ "Loaded", 4, 2, false, "", "", 48⟩], 3, 56, [.nils, .nils, .d (.bool false)]⟩
def ty40 : TY := ⟨TypeDesc.struct #[⟨ "standing", 28, 0, true, "", "bailey/raft", 0⟩, ⟨ "me", 3, 2, false, "", "bailey/raft", 16⟩, ⟨ "log", 29, 3, false, "", "bailey/raft", 24⟩, ⟨ "snap", 23, 4, false, "", "bailey/raft", 32⟩, ⟨ "role", 3, 5, false, "", "bailey/raft", 56⟩, ⟨ "leader", 3, 6, false, "", "bailey/raft", 64⟩, ⟨ "commit", 3, 7, false, "", "bailey/raft", 72⟩, ⟨ "waited", 3, 8, false, "", "bailey/raft", 80⟩, ⟨ "votes", 3, 9, false, "", "bailey/raft", 88⟩, ⟨ "tickets", 3, 10, false, "", "bailey/raft", 96⟩, ⟨ "reign", 35, 11, false, "", "bailey/raft", 104⟩, ⟨ "out", 39, 34, false, "", "bailey/raft", 304⟩], 37, 360, [.d (.int .i64 0), .d (.int .i64 0), .d (.int .i64 0), .d .nilp, .nils, .d (.int .i64 0), .d (.int .i64 0), .d (.int .i64 0), .d (.int .i64 0), .d (.int .i64 0), .d (.int .i64 0), .d (.int .i64 0), .d (.int .i64 0), .d (.int .i64 0), .d (.int .i64 0), .d (.int .i64 0), .d (.int .i64 0), .d (.int .i64 0), .d (.int .i64 0), .d (.int .i64 0), .d (.int .i64 0), .d (.int .i64 0), .d (.int .i64 0), .d (.int .i64 0), .d (.int .i64 0), .d (.int .i64 0), .d (.int .i64 0), .d (.int .i64 0), .d (.int .i64 0), .d (.int .i64 0), .d (.int .i64 0), .d (.int .i64 0), .d (.int .i64 0), .nils, .nils, .nils, .d (.bool false)]⟩
def ty41 : TY := ⟨TypeDesc.struct #[⟨ "standing", 28, 0, true, "", "bailey/raft", 0⟩, ⟨ "me", 3, 2, false, "", "bailey/raft", 16⟩, ⟨ "log", 29, 3, false, "", "bailey/raft", 24⟩, ⟨ "snap", 23, 4, false, "", "bailey/raft", 32⟩, ⟨ "role", 3, 5, false, "", "bailey/raft", 56⟩, ⟨ "leader", 3, 6, false, "", "bailey/raft", 64⟩, ⟨ "commit", 3, 7, false, "", "bailey/raft", 72⟩, ⟨ "waited", 3, 8, false, "", "bailey/raft", 80⟩, ⟨ "votes", 3, 9, false, "", "bailey/raft", 88⟩, ⟨ "tickets", 3, 10, false, "", "bailey/raft", 96⟩, ⟨ "reign", 35, 11, false, "", "bailey/raft", 104⟩, ⟨ "out", 39, 34, false, "", "bailey/raft", 304⟩], 37, 360, [.d (.int .i64 0), .d (.int .i64 0), .d (.int .i64 0), .d .nilp, .nils, .d (.int .i64 0), .d (.int .i64 0), .d (.int .i64 0), .d (.int .i64 0), .d (.int .i64 0), .d (.int .i64 0), .d (.int .i64 0), .d (.int .i64 0), .d (.int .i64 0), .d (.int .i64 0), .d (.int .i64 0), .d (.int .i64 0), .d (.int .i64 0), .d (.int .i64 0), .d (.int .i64 0), .d (.int .i64 0), .d (.int .i64 0), .d (.int .i64 0), .d (.int .i64 0), .d (.int .i64 0), .d (.int .i64 0), .d (.int .i64 0), .d (.int .i64 0), .d (.int .i64 0), .d (.int .i64 0), .d (.int .i64 0), .d (.int .i64 0), .d (.int .i64 0), .nils, .nils, .nils, .d (.bool false)]⟩
def ty42 : TY := ⟨TypeDesc.int .i64, 1, 8, [.d (.int .i64 0)]⟩
def ty44 : TY := ⟨TypeDesc.func #[3, 23] #[3, 3, 42, 39] false, 1, 8, [.d .nilfn]⟩
def ty46 : TY := ⟨TypeDesc.func #[] #[3, 42, 39] false, 1, 8, [.d .nilfn]⟩
def ty47 : TY := ⟨TypeDesc.func #[3, 23] #[42] false, 1, 8, [.d .nilfn]⟩
def ty48 : TY := ⟨TypeDesc.func #[25] #[39] false, 1, 8, [.d .nilfn]⟩
def ty49 : TY := ⟨TypeDesc.func #[] #[39] false, 1, 8, [.d .nilfn]⟩
def ty50 : TY := ⟨TypeDesc.struct #[⟨ "Term", 3, 0, false, "", "", 0⟩, ⟨ "Vote", 3, 1, false, "", "", 8⟩, ⟨ "Role", 3, 2, false, "", "", 16⟩, ⟨ "Leader", 3, 3, false, "", "", 24⟩, ⟨ "Commit", 3, 4, false, "", "", 32⟩, ⟨ "Base", 3, 5, false, "", "", 40⟩, ⟨ "Last", 3, 6, false, "", "", 48⟩, ⟨ "LastTerm", 3, 7, false, "", "", 56⟩, ⟨ "Conf", 3, 8, false, "", "", 64⟩], 9, 72, [.d (.int .i64 0), .d (.int .i64 0), .d (.int .i64 0), .d (.int .i64 0), .d (.int .i64 0), .d (.int .i64 0), .d (.int .i64 0), .d (.int .i64 0), .d (.int .i64 0)]⟩
def ty51 : TY := ⟨TypeDesc.struct #[⟨ "Term", 3, 0, false, "", "", 0⟩, ⟨ "Vote", 3, 1, false, "", "", 8⟩, ⟨ "Role", 3, 2, false, "", "", 16⟩, ⟨ "Leader", 3, 3, false, "", "", 24⟩, ⟨ "Commit", 3, 4, false, "", "", 32⟩, ⟨ "Base", 3, 5, false, "", "", 40⟩, ⟨ "Last", 3, 6, false, "", "", 48⟩, ⟨ "LastTerm", 3, 7, false, "", "", 56⟩, ⟨ "Conf", 3, 8, false, "", "", 64⟩], 9, 72, [.d (.int .i64 0), .d (.int .i64 0), .d (.int .i64 0), .d (.int .i64 0), .d (.int .i64 0), .d (.int .i64 0), .d (.int .i64 0), .d (.int .i64 0), .d (.int .i64 0)]⟩
def ty52 : TY := ⟨TypeDesc.func #[] #[51] false, 1, 8, [.d .nilfn]⟩
def ty53 : TY := ⟨TypeDesc.slice 68, 1, 24, [.nils]⟩
def ty54 : TY := ⟨TypeDesc.func #[] #[53] false, 1, 8, [.d .nilfn]⟩
def ty55 : TY := ⟨TypeDesc.func #[3] #[22] false, 1, 8, [.d .nilfn]⟩
def ty56 : TY := ⟨TypeDesc.func #[] #[3] false, 1, 8, [.d .nilfn]⟩
def ty57 : TY := ⟨TypeDesc.func #[] #[4] false, 1, 8, [.d .nilfn]⟩
def ty58 : TY := ⟨TypeDesc.func #[25, 3, 23] #[4] false, 1, 8, [.d .nilfn]⟩
def ty59 : TY := ⟨TypeDesc.func #[3, 23] #[] false, 1, 8, [.d .nilfn]⟩
def ty60 : TY := ⟨TypeDesc.struct #[⟨ "ticket", 3, 0, false, "", "bailey/raft", 0⟩, ⟨ "index", 3, 1, false, "", "bailey/raft", 8⟩, ⟨ "round", 3, 2, false, "", "bailey/raft", 16⟩], 3, 24, [.d (.int .i64 0), .d (.int .i64 0), .d (.int .i64 0)]⟩
def ty61 : TY := ⟨TypeDesc.struct #[⟨ "ticket", 3, 0, false, "", "bailey/raft", 0⟩, ⟨ "index", 3, 1, false, "", "bailey/raft", 8⟩, ⟨ "round", 3, 2, false, "", "bailey/raft", 16⟩], 3, 24, [.d (.int .i64 0), .d (.int .i64 0), .d (.int .i64 0)]⟩
def ty62 : TY := ⟨TypeDesc.func #[3] #[42] false, 1, 8, [.d .nilfn]⟩
def ty63 : TY := ⟨TypeDesc.func #[23] #[] false, 1, 8, [.d .nilfn]⟩
def ty64 : TY := ⟨TypeDesc.func #[25] #[42] false, 1, 8, [.d .nilfn]⟩
def ty65 : TY := ⟨TypeDesc.func #[25] #[] false, 1, 8, [.d .nilfn]⟩
def ty66 : TY := ⟨TypeDesc.func #[3] #[4] false, 1, 8, [.d .nilfn]⟩
def ty67 : TY := ⟨TypeDesc.struct #[⟨ "ID", 3, 0, false, "", "", 0⟩, ⟨ "Client", 3, 1, false, "", "", 8⟩, ⟨ "Seq", 3, 2, false, "", "", 16⟩, ⟨ "Read", 4, 3, false, "", "", 24⟩, ⟨ "Index", 3, 4, false, "", "", 32⟩, ⟨ "Bytes", 23, 5, false, "", "", 40⟩], 6, 64, [.d (.int .i64 0), .d (.int .i64 0), .d (.int .i64 0), .d (.bool false), .d (.int .i64 0), .nils]⟩
def ty68 : TY := ⟨TypeDesc.struct #[⟨ "ID", 3, 0, false, "", "", 0⟩, ⟨ "Client", 3, 1, false, "", "", 8⟩, ⟨ "Seq", 3, 2, false, "", "", 16⟩, ⟨ "Read", 4, 3, false, "", "", 24⟩, ⟨ "Index", 3, 4, false, "", "", 32⟩, ⟨ "Bytes", 23, 5, false, "", "", 40⟩], 6, 64, [.d (.int .i64 0), .d (.int .i64 0), .d (.int .i64 0), .d (.bool false), .d (.int .i64 0), .nils]⟩
def ty69 : TY := ⟨TypeDesc.func #[3, 3] #[22] false, 1, 8, [.d .nilfn]⟩
def ty70 : TY := ⟨TypeDesc.func #[3, 72] #[26] false, 1, 8, [.d .nilfn]⟩
def ty71 : TY := ⟨TypeDesc.struct #[⟨ "Term", 3, 0, false, "", "", 0⟩, ⟨ "Vote", 3, 1, false, "", "", 8⟩, ⟨ "Base", 3, 2, false, "", "", 16⟩, ⟨ "BaseTerm", 3, 3, false, "", "", 24⟩, ⟨ "Conf", 3, 4, false, "", "", 32⟩, ⟨ "Snap", 23, 5, false, "", "", 40⟩, ⟨ "Entries", 22, 6, false, "", "", 64⟩], 7, 88, [.d (.int .i64 0), .d (.int .i64 0), .d (.int .i64 0), .d (.int .i64 0), .d (.int .i64 0), .nils, .nils]⟩
def ty72 : TY := ⟨TypeDesc.struct #[⟨ "Term", 3, 0, false, "", "", 0⟩, ⟨ "Vote", 3, 1, false, "", "", 8⟩, ⟨ "Base", 3, 2, false, "", "", 16⟩, ⟨ "BaseTerm", 3, 3, false, "", "", 24⟩, ⟨ "Conf", 3, 4, false, "", "", 32⟩, ⟨ "Snap", 23, 5, false, "", "", 40⟩, ⟨ "Entries", 22, 6, false, "", "", 64⟩], 7, 88, [.d (.int .i64 0), .d (.int .i64 0), .d (.int .i64 0), .d (.int .i64 0), .d (.int .i64 0), .nils, .nils]⟩
def ty73 : TY := ⟨TypeDesc.func #[3, 3] #[42] false, 1, 8, [.d .nilfn]⟩
def ty74 : TY := ⟨TypeDesc.func #[23] #[3] false, 1, 8, [.d .nilfn]⟩
def ty75 : TY := ⟨TypeDesc.struct #[⟨ "Index", 3, 0, false, "", "", 0⟩, ⟨ "Term", 3, 1, false, "", "", 8⟩, ⟨ "Kind", 3, 2, false, "", "", 16⟩, ⟨ "Data", 23, 3, false, "", "", 24⟩], 4, 48, [.d (.int .i64 0), .d (.int .i64 0), .d (.int .i64 0), .nils]⟩
def ty76 : TY := ⟨TypeDesc.struct #[⟨ "Index", 3, 0, false, "", "", 0⟩, ⟨ "Term", 3, 1, false, "", "", 8⟩, ⟨ "Kind", 3, 2, false, "", "", 16⟩, ⟨ "Data", 23, 3, false, "", "", 24⟩], 4, 48, [.d (.int .i64 0), .d (.int .i64 0), .d (.int .i64 0), .nils]⟩
def ty77 : TY := ⟨TypeDesc.func #[76] #[42] false, 1, 8, [.d .nilfn]⟩
def ty78 : TY := ⟨TypeDesc.func #[80] #[] false, 1, 8, [.d .nilfn]⟩
def ty79 : TY := ⟨TypeDesc.struct #[⟨ "Kind", 3, 0, false, "", "", 0⟩, ⟨ "Term", 3, 1, false, "", "", 8⟩, ⟨ "Vote", 3, 2, false, "", "", 16⟩, ⟨ "Entry", 76, 3, false, "", "", 24⟩, ⟨ "Index", 3, 7, false, "", "", 72⟩, ⟨ "Conf", 3, 8, false, "", "", 80⟩, ⟨ "Snap", 23, 9, false, "", "", 88⟩], 10, 112, [.d (.int .i64 0), .d (.int .i64 0), .d (.int .i64 0), .d (.int .i64 0), .d (.int .i64 0), .d (.int .i64 0), .nils, .d (.int .i64 0), .d (.int .i64 0), .nils]⟩
def ty80 : TY := ⟨TypeDesc.struct #[⟨ "Kind", 3, 0, false, "", "", 0⟩, ⟨ "Term", 3, 1, false, "", "", 8⟩, ⟨ "Vote", 3, 2, false, "", "", 16⟩, ⟨ "Entry", 76, 3, false, "", "", 24⟩, ⟨ "Index", 3, 7, false, "", "", 72⟩, ⟨ "Conf", 3, 8, false, "", "", 80⟩, ⟨ "Snap", 23, 9, false, "", "", 88⟩], 10, 112, [.d (.int .i64 0), .d (.int .i64 0), .d (.int .i64 0), .d (.int .i64 0), .d (.int .i64 0), .d (.int .i64 0), .nils, .d (.int .i64 0), .d (.int .i64 0), .nils]⟩
def ty81 : TY := ⟨TypeDesc.slice 3, 1, 24, [.nils]⟩
def ty82 : TY := ⟨TypeDesc.func #[] #[81] false, 1, 8, [.d .nilfn]⟩
def ty83 : TY := ⟨TypeDesc.func #[3] #[] false, 1, 8, [.d .nilfn]⟩
def ty84 : TY := ⟨TypeDesc.struct #[⟨ "index", 3, 0, false, "", "bailey/rlog", 0⟩, ⟨ "term", 3, 1, false, "", "bailey/rlog", 8⟩, ⟨ "conf", 3, 2, false, "", "bailey/rlog", 16⟩], 3, 24, [.d (.int .i64 0), .d (.int .i64 0), .d (.int .i64 0)]⟩
def ty85 : TY := ⟨TypeDesc.struct #[⟨ "index", 3, 0, false, "", "bailey/rlog", 0⟩, ⟨ "term", 3, 1, false, "", "bailey/rlog", 8⟩, ⟨ "conf", 3, 2, false, "", "bailey/rlog", 16⟩], 3, 24, [.d (.int .i64 0), .d (.int .i64 0), .d (.int .i64 0)]⟩
def ty86 : TY := ⟨TypeDesc.struct #[⟨ "base", 85, 0, true, "", "bailey/rlog", 0⟩, ⟨ "l", 22, 3, false, "", "bailey/rlog", 24⟩, ⟨ "made", 4, 4, false, "", "bailey/rlog", 48⟩], 5, 56, [.d (.int .i64 0), .d (.int .i64 0), .d (.int .i64 0), .nils, .d (.bool false)]⟩
def ty87 : TY := ⟨TypeDesc.struct #[⟨ "base", 85, 0, true, "", "bailey/rlog", 0⟩, ⟨ "l", 22, 3, false, "", "bailey/rlog", 24⟩, ⟨ "made", 4, 4, false, "", "bailey/rlog", 48⟩], 5, 56, [.d (.int .i64 0), .d (.int .i64 0), .d (.int .i64 0), .nils, .d (.bool false)]⟩
def ty89 : TY := ⟨TypeDesc.func #[3] #[3, 42] false, 1, 8, [.d .nilfn]⟩
def ty90 : TY := ⟨TypeDesc.func #[3] #[3] false, 1, 8, [.d .nilfn]⟩
def ty91 : TY := ⟨TypeDesc.func #[22] #[22] false, 1, 8, [.d .nilfn]⟩
def ty92 : TY := ⟨TypeDesc.func #[3, 81] #[4] true, 1, 8, [.d .nilfn]⟩
def ty93 : TY := ⟨TypeDesc.func #[22, 94] #[4] false, 1, 8, [.d .nilfn]⟩
def ty94 : TY := ⟨TypeDesc.func #[76] #[4] false, 1, 8, [.d .nilfn]⟩
def ty95 : TY := ⟨TypeDesc.func #[25, 25] #[4] false, 1, 8, [.d .nilfn]⟩
def ty96 : TY := ⟨TypeDesc.func #[25] #[25] false, 1, 8, [.d .nilfn]⟩
def ty97 : TY := ⟨TypeDesc.func #[3, 3, 3, 3, 4] #[4] false, 1, 8, [.d .nilfn]⟩
def ty98 : TY := ⟨TypeDesc.func #[25] #[4] false, 1, 8, [.d .nilfn]⟩
def ty99 : TY := ⟨TypeDesc.func #[3, 3] #[4] false, 1, 8, [.d .nilfn]⟩
def ty100 : TY := ⟨TypeDesc.func #[3, 3, 4] #[4] false, 1, 8, [.d .nilfn]⟩
def ty101 : TY := ⟨TypeDesc.func #[3, 3] #[] false, 1, 8, [.d .nilfn]⟩
def ty102 : TY := ⟨TypeDesc.func #[25, 4, 3] #[] false, 1, 8, [.d .nilfn]⟩
def ty104 : TY := ⟨TypeDesc.func #[3, 22] #[3, 4] false, 1, 8, [.d .nilfn]⟩
def ty105 : TY := ⟨TypeDesc.pointer 31, 1, 8, [.d .nilp]⟩
def ty106 : TY := ⟨TypeDesc.func #[3, 3, 3] #[3] false, 1, 8, [.d .nilfn]⟩
def ty107 : TY := ⟨TypeDesc.func #[3, 3, 3] #[] false, 1, 8, [.d .nilfn]⟩
def ty108 : TY := ⟨TypeDesc.func #[] #[23] false, 1, 8, [.d .nilfn]⟩
def ty109 : TY := ⟨TypeDesc.func #[3] #[3, 4] false, 1, 8, [.d .nilfn]⟩
def ty110 : TY := ⟨TypeDesc.func #[76] #[76] false, 1, 8, [.d .nilfn]⟩
def ty111 : TY := ⟨TypeDesc.func #[3, 3, 3, 22] #[29] false, 1, 8, [.d .nilfn]⟩
def ty112 : TY := ⟨TypeDesc.func #[23] #[23] false, 1, 8, [.d .nilfn]⟩
def ty113 : TY := ⟨TypeDesc.pointer 141, 1, 8, [.d .nilp]⟩
def ty114 : TY := ⟨TypeDesc.func #[23] #[113] false, 1, 8, [.d .nilfn]⟩
def ty115 : TY := ⟨TypeDesc.func #[] #[42] false, 1, 8, [.d .nilfn]⟩
def ty116 : TY := ⟨TypeDesc.func #[81, 66] #[81] false, 1, 8, [.d .nilfn]⟩
def ty117 : TY := ⟨TypeDesc.func #[3] #[81] false, 1, 8, [.d .nilfn]⟩
def ty118 : TY := ⟨TypeDesc.func #[154] #[] false, 1, 8, [.d .nilfn]⟩
def ty119 : TY := ⟨TypeDesc.func #[154] #[] false, 1, 8, [.d .nilfn]⟩
def ty120 : TY := ⟨TypeDesc.func #[22] #[119] false, 1, 8, [.d .nilfn]⟩
def ty121 : TY := ⟨TypeDesc.func #[22, 94] #[3] false, 1, 8, [.d .nilfn]⟩
def ty122 : TY := ⟨TypeDesc.func #[22, 22, 123] #[4] false, 1, 8, [.d .nilfn]⟩
def ty123 : TY := ⟨TypeDesc.func #[76, 76] #[4] false, 1, 8, [.d .nilfn]⟩
def ty124 : TY := ⟨TypeDesc.func #[23, 23] #[4] false, 1, 8, [.d .nilfn]⟩
def ty125 : TY := ⟨TypeDesc.slice 131, 1, 24, [.nils]⟩
def ty126 : TY := ⟨TypeDesc.func #[3] #[125] false, 1, 8, [.d .nilfn]⟩
def ty127 : TY := ⟨TypeDesc.func #[23, 132] #[23] false, 1, 8, [.d .nilfn]⟩
def ty128 : TY := ⟨TypeDesc.func #[113, 132] #[] false, 1, 8, [.d .nilfn]⟩
def ty129 : TY := ⟨TypeDesc.func #[132, 132] #[] false, 1, 8, [.d .nilfn]⟩
def ty130 : TY := ⟨TypeDesc.struct #[⟨ "put", 127, 0, false, "", "bailey/msg", 0⟩, ⟨ "take", 128, 1, false, "", "bailey/msg", 8⟩, ⟨ "over", 129, 2, false, "", "bailey/msg", 16⟩], 3, 24, [.d .nilfn, .d .nilfn, .d .nilfn]⟩
def ty131 : TY := ⟨TypeDesc.struct #[⟨ "put", 127, 0, false, "", "bailey/msg", 0⟩, ⟨ "take", 128, 1, false, "", "bailey/msg", 8⟩, ⟨ "over", 129, 2, false, "", "bailey/msg", 16⟩], 3, 24, [.d .nilfn, .d .nilfn, .d .nilfn]⟩
def ty132 : TY := ⟨TypeDesc.pointer 25, 1, 8, [.d .nilp]⟩
def ty133 : TY := ⟨TypeDesc.func #[3, 3, 3, 3] #[4] false, 1, 8, [.d .nilfn]⟩
def ty134 : TY := ⟨TypeDesc.array 7 3, 7, 56, [.d (.int .i64 0), .d (.int .i64 0), .d (.int .i64 0), .d (.int .i64 0), .d (.int .i64 0), .d (.int .i64 0), .d (.int .i64 0)]⟩
def ty135 : TY := ⟨TypeDesc.func #[] #[134] false, 1, 8, [.d .nilfn]⟩
def ty136 : TY := ⟨TypeDesc.func #[3, 134] #[3] false, 1, 8, [.d .nilfn]⟩
def ty137 : TY := ⟨TypeDesc.func #[3, 134, 3, 3, 3] #[3] false, 1, 8, [.d .nilfn]⟩
def ty138 : TY := ⟨TypeDesc.func #[3, 3, 3] #[4] false, 1, 8, [.d .nilfn]⟩
def ty139 : TY := ⟨TypeDesc.func #[23, 3] #[23] false, 1, 8, [.d .nilfn]⟩
def ty140 : TY := ⟨TypeDesc.struct #[⟨ "rest", 23, 0, false, "", "bailey/pack", 0⟩, ⟨ "err", 42, 1, false, "", "bailey/pack", 24⟩, ⟨ "made", 4, 2, false, "", "bailey/pack", 32⟩], 3, 40, [.nils, .d (.int .i64 0), .d (.bool false)]⟩
def ty141 : TY := ⟨TypeDesc.struct #[⟨ "rest", 23, 0, false, "", "bailey/pack", 0⟩, ⟨ "err", 42, 1, false, "", "bailey/pack", 24⟩, ⟨ "made", 4, 2, false, "", "bailey/pack", 32⟩], 3, 40, [.nils, .d (.int .i64 0), .d (.bool false)]⟩
def ty142 : TY := ⟨TypeDesc.func #[3] #[23] false, 1, 8, [.d .nilfn]⟩
def ty143 : TY := ⟨TypeDesc.int .u64, 1, 8, [.d (.int .u64 0)]⟩
def ty144 : TY := ⟨TypeDesc.func #[42] #[] false, 1, 8, [.d .nilfn]⟩
def ty145 : TY := ⟨TypeDesc.func #[146] #[4] false, 1, 8, [.d .nilfn]⟩
def ty146 : TY := ⟨TypeDesc.slice 163, 1, 24, [.nils]⟩
def ty147 : TY := ⟨TypeDesc.func #[148] #[146] false, 1, 8, [.d .nilfn]⟩
def ty148 : TY := ⟨TypeDesc.pointer 76, 1, 8, [.d .nilp]⟩
def ty149 : TY := ⟨TypeDesc.func #[81, 66] #[3] false, 1, 8, [.d .nilfn]⟩
def ty150 : TY := ⟨TypeDesc.func #[152] #[81] false, 1, 8, [.d .nilfn]⟩
def ty151 : TY := ⟨TypeDesc.func #[66] #[] false, 1, 8, [.d .nilfn]⟩
def ty152 : TY := ⟨TypeDesc.func #[66] #[] false, 1, 8, [.d .nilfn]⟩
def ty153 : TY := ⟨TypeDesc.func #[3] #[152] false, 1, 8, [.d .nilfn]⟩
def ty154 : TY := ⟨TypeDesc.func #[3, 76] #[4] false, 1, 8, [.d .nilfn]⟩
def ty155 : TY := ⟨TypeDesc.func #[] #[131] false, 1, 8, [.d .nilfn]⟩
def ty156 : TY := ⟨TypeDesc.func #[81, 157] #[] false, 1, 8, [.d .nilfn]⟩
def ty157 : TY := ⟨TypeDesc.func #[3, 3] #[3] false, 1, 8, [.d .nilfn]⟩
def ty158 : TY := ⟨TypeDesc.func #[159] #[3] false, 1, 8, [.d .nilfn]⟩
def ty159 : TY := ⟨TypeDesc.int .u64, 1, 8, [.d (.int .u64 0)]⟩
def ty160 : TY := ⟨TypeDesc.func #[146, 164] #[4] false, 1, 8, [.d .nilfn]⟩
def ty161 : TY := ⟨TypeDesc.pointer 3, 1, 8, [.d .nilp]⟩
def ty162 : TY := ⟨TypeDesc.struct #[⟨ "at", 161, 0, false, "", "bailey/record", 0⟩, ⟨ "low", 3, 1, false, "", "bailey/record", 8⟩, ⟨ "bound", 3, 2, false, "", "bailey/record", 16⟩], 3, 24, [.d .nilp, .d (.int .i64 0), .d (.int .i64 0)]⟩
def ty163 : TY := ⟨TypeDesc.struct #[⟨ "at", 161, 0, false, "", "bailey/record", 0⟩, ⟨ "low", 3, 1, false, "", "bailey/record", 8⟩, ⟨ "bound", 3, 2, false, "", "bailey/record", 16⟩], 3, 24, [.d .nilp, .d (.int .i64 0), .d (.int .i64 0)]⟩
def ty164 : TY := ⟨TypeDesc.func #[163] #[4] false, 1, 8, [.d .nilfn]⟩
def ty165 : TY := ⟨TypeDesc.func #[81, 152] #[81] false, 1, 8, [.d .nilfn]⟩
def ty166 : TY := ⟨TypeDesc.func #[167, 3] #[131] false, 1, 8, [.d .nilfn]⟩
def ty167 : TY := ⟨TypeDesc.func #[132] #[161] false, 1, 8, [.d .nilfn]⟩
def ty168 : TY := ⟨TypeDesc.func #[23, 4] #[23] false, 1, 8, [.d .nilfn]⟩
def ty169 : TY := ⟨TypeDesc.func #[23, 76] #[23] false, 1, 8, [.d .nilfn]⟩
def ty170 : TY := ⟨TypeDesc.func #[113] #[76] false, 1, 8, [.d .nilfn]⟩
def ty171 : TY := ⟨TypeDesc.func #[23, 9] #[23] false, 1, 8, [.d .nilfn]⟩
def ty172 : TY := ⟨TypeDesc.func #[3] #[9] false, 1, 8, [.d .nilfn]⟩
def ty173 : TY := ⟨TypeDesc.func #[81, 3, 3, 3, 157] #[] false, 1, 8, [.d .nilfn]⟩
def ty174 : TY := ⟨TypeDesc.func #[143] #[3] false, 1, 8, [.d .nilfn]⟩
def ty175 : TY := ⟨TypeDesc.func #[146, 164] #[3] false, 1, 8, [.d .nilfn]⟩
def ty176 : TY := ⟨TypeDesc.func #[23, 146] #[23] false, 1, 8, [.d .nilfn]⟩
def ty177 : TY := ⟨TypeDesc.func #[113, 146] #[] false, 1, 8, [.d .nilfn]⟩
def ty178 : TY := ⟨TypeDesc.func #[81, 3, 3, 157] #[] false, 1, 8, [.d .nilfn]⟩
def ty179 : TY := ⟨TypeDesc.int .i64, 1, 8, [.d (.int .i64 0)]⟩
def ty181 : TY := ⟨TypeDesc.func #[81, 3, 3, 157] #[3, 179] false, 1, 8, [.d .nilfn]⟩
def ty182 : TY := ⟨TypeDesc.func #[81, 3, 3, 157] #[4] false, 1, 8, [.d .nilfn]⟩
def ty183 : TY := ⟨TypeDesc.func #[81, 3, 3, 3, 157] #[3] false, 1, 8, [.d .nilfn]⟩
def ty184 : TY := ⟨TypeDesc.func #[81, 3, 3, 3, 157] #[3, 4] false, 1, 8, [.d .nilfn]⟩
def ty185 : TY := ⟨TypeDesc.func #[186] #[3] false, 1, 8, [.d .nilfn]⟩
def ty186 : TY := ⟨TypeDesc.int .u32, 1, 4, [.d (.int .u32 0)]⟩
def ty187 : TY := ⟨TypeDesc.int .u64, 1, 8, [.d (.int .u64 0)]⟩
def ty188 : TY := ⟨TypeDesc.func #[3] #[143] false, 1, 8, [.d .nilfn]⟩
def ty189 : TY := ⟨TypeDesc.func #[] #[159] false, 1, 8, [.d .nilfn]⟩
def ty190 : TY := ⟨TypeDesc.func #[81, 3, 161, 157] #[3] false, 1, 8, [.d .nilfn]⟩
def ty191 : TY := ⟨TypeDesc.func #[81, 3, 3, 3, 161, 157] #[3] false, 1, 8, [.d .nilfn]⟩
def ty192 : TY := ⟨TypeDesc.pointer 187, 1, 8, [.d .nilp]⟩
def ty194 : TY := ⟨TypeDesc.func #[81, 3, 3, 161, 157] #[3, 3] false, 1, 8, [.d .nilfn]⟩
def ty195 : TY := ⟨TypeDesc.func #[] #[9] false, 1, 8, [.d .nilfn]⟩
def ty196 : TY := ⟨TypeDesc.struct #[⟨ "_interface", 17, 0, false, "", "runtime", 0⟩, ⟨ "concrete", 17, 1, false, "", "runtime", 8⟩, ⟨ "asserted", 17, 2, false, "", "runtime", 16⟩, ⟨ "missingMethod", 9, 3, false, "", "runtime", 24⟩], 4, 40, [.d .nilp, .d .nilp, .d .nilp, .d (.str [])]⟩
def ty197 : TY := ⟨TypeDesc.struct #[⟨ "_interface", 17, 0, false, "", "runtime", 0⟩, ⟨ "concrete", 17, 1, false, "", "runtime", 8⟩, ⟨ "asserted", 17, 2, false, "", "runtime", 16⟩, ⟨ "missingMethod", 9, 3, false, "", "runtime", 24⟩], 4, 40, [.d .nilp, .d .nilp, .d .nilp, .d (.str [])]⟩
def ty198 : TY := ⟨TypeDesc.array 0 16, 0, 0, []⟩
def ty199 : TY := ⟨TypeDesc.struct #[⟨ "_", 198, 0, false, "", "runtime", 0⟩], 0, 0, []⟩
def ty200 : TY := ⟨TypeDesc.struct #[⟨ "_", 198, 0, false, "", "runtime", 0⟩], 0, 0, []⟩
def ty201 : TY := ⟨TypeDesc.int .u8, 1, 1, [.d (.int .u8 0)]⟩
def ty202 : TY := ⟨TypeDesc.int .u8, 1, 1, [.d (.int .u8 0)]⟩
def ty203 : TY := ⟨TypeDesc.func #[209, 209] #[4] false, 1, 8, [.d .nilfn]⟩
def ty204 : TY := ⟨TypeDesc.pointer 5, 1, 8, [.d .nilp]⟩
def ty205 : TY := ⟨TypeDesc.int .i32, 1, 4, [.d (.int .i32 0)]⟩
def ty206 : TY := ⟨TypeDesc.int .i32, 1, 4, [.d (.int .i32 0)]⟩
def ty207 : TY := ⟨TypeDesc.struct #[⟨ "Size_", 12, 0, false, "", "", 0⟩, ⟨ "PtrBytes", 12, 1, false, "", "", 8⟩, ⟨ "Hash", 186, 2, false, "", "", 16⟩, ⟨ "TFlag", 201, 3, false, "", "", 20⟩, ⟨ "Align_", 5, 4, false, "", "", 21⟩, ⟨ "FieldAlign_", 5, 5, false, "", "", 22⟩, ⟨ "Kind_", 202, 6, false, "", "", 23⟩, ⟨ "Equal", 203, 7, false, "", "", 24⟩, ⟨ "GCData", 204, 8, false, "", "", 32⟩, ⟨ "Str", 205, 9, false, "", "", 40⟩, ⟨ "PtrToThis", 206, 10, false, "", "", 44⟩], 11, 48, [.d (.int .u64 0), .d (.int .u64 0), .d (.int .u32 0), .d (.int .u8 0), .d (.int .u8 0), .d (.int .u8 0), .d (.int .u8 0), .d .nilfn, .d .nilp, .d (.int .i32 0), .d (.int .i32 0)]⟩
def ty208 : TY := ⟨TypeDesc.struct #[⟨ "Size_", 12, 0, false, "", "", 0⟩, ⟨ "PtrBytes", 12, 1, false, "", "", 8⟩, ⟨ "Hash", 186, 2, false, "", "", 16⟩, ⟨ "TFlag", 201, 3, false, "", "", 20⟩, ⟨ "Align_", 5, 4, false, "", "", 21⟩, ⟨ "FieldAlign_", 5, 5, false, "", "", 22⟩, ⟨ "Kind_", 202, 6, false, "", "", 23⟩, ⟨ "Equal", 203, 7, false, "", "", 24⟩, ⟨ "GCData", 204, 8, false, "", "", 32⟩, ⟨ "Str", 205, 9, false, "", "", 40⟩, ⟨ "PtrToThis", 206, 10, false, "", "", 44⟩], 11, 48, [.d (.int .u64 0), .d (.int .u64 0), .d (.int .u32 0), .d (.int .u8 0), .d (.int .u8 0), .d (.int .u8 0), .d (.int .u8 0), .d .nilfn, .d .nilp, .d (.int .i32 0), .d (.int .i32 0)]⟩

def tyL : List (Option TY) := [Option.none, some ty1, some ty2, some ty3, some ty4, some ty5, some ty6, some ty7, some ty8, some ty9, some ty10, some ty11, some ty12, some ty13, some ty14, some ty15, some ty16, some ty17, some ty18, some ty19, Option.none, some ty21, some ty22, some ty23, some ty24, some ty25, some ty26, some ty27, some ty28, some ty29, some ty30, some ty31, some ty32, some ty33, some ty34, some ty35, some ty36, some ty37, some ty38, some ty39, some ty40, some ty41, some ty42, Option.none, some ty44, Option.none, some ty46, some ty47, some ty48, some ty49, some ty50, some ty51, some ty52, some ty53, some ty54, some ty55, some ty56, some ty57, some ty58, some ty59, some ty60, some ty61, some ty62, some ty63, some ty64, some ty65, some ty66, some ty67, some ty68, some ty69, some ty70, some ty71, some ty72, some ty73, some ty74, some ty75, some ty76, some ty77, some ty78, some ty79, some ty80, some ty81, some ty82, some ty83, some ty84, some ty85, some ty86, some ty87, Option.none, some ty89, some ty90, some ty91, some ty92, some ty93, some ty94, some ty95, some ty96, some ty97, some ty98, some ty99, some ty100, some ty101, some ty102, Option.none, some ty104, some ty105, some ty106, some ty107, some ty108, some ty109, some ty110, some ty111, some ty112, some ty113, some ty114, some ty115, some ty116, some ty117, some ty118, some ty119, some ty120, some ty121, some ty122, some ty123, some ty124, some ty125, some ty126, some ty127, some ty128, some ty129, some ty130, some ty131, some ty132, some ty133, some ty134, some ty135, some ty136, some ty137, some ty138, some ty139, some ty140, some ty141, some ty142, some ty143, some ty144, some ty145, some ty146, some ty147, some ty148, some ty149, some ty150, some ty151, some ty152, some ty153, some ty154, some ty155, some ty156, some ty157, some ty158, some ty159, some ty160, some ty161, some ty162, some ty163, some ty164, some ty165, some ty166, some ty167, some ty168, some ty169, some ty170, some ty171, some ty172, some ty173, some ty174, some ty175, some ty176, some ty177, some ty178, some ty179, Option.none, some ty181, some ty182, some ty183, some ty184, some ty185, some ty186, some ty187, some ty188, some ty189, some ty190, some ty191, some ty192, Option.none, some ty194, some ty195, some ty196, some ty197, some ty198, some ty199, some ty200, some ty201, some ty202, some ty203, some ty204, some ty205, some ty206, some ty207, some ty208]
def T (t : Nat) : Option TY :=
  match tyL[t]? with
  | some (some y) => some y
  | _ => Option.none

theorem tyOk {t : Nat} {y : TY} (h1 : Tryz.prog.underlying t = some y.desc) (h2 : (Tryz.prog.info? t).bind (fun i => i.zero.map fun z => (i.size, i.bytes, z.cells.toList.map ofVal, aggV z)) = some (y.size, y.bytes, y.zero, aggD y.desc)) (h3 : y.zero.length = y.size) :
    Tryz.prog.underlying t = some y.desc ∧ ∃ i, Tryz.prog.info? t = some i ∧ i.size = y.size ∧ i.bytes = y.bytes ∧ ∃ z, i.zero = some z ∧ zeroOk y.zero z ∧ y.zero.length = y.size ∧ aggV z = aggD y.desc := by
  refine ⟨h1, ?_⟩
  cases hi : Tryz.prog.info? t with
  | none => rw [hi] at h2; cases h2
  | some i =>
    rw [hi] at h2
    simp only [Option.bind_some] at h2
    cases hz : i.zero with
    | none => rw [hz] at h2; cases h2
    | some z =>
      rw [hz] at h2
      simp only [Option.map_some, Option.some.injEq, Prod.mk.injEq] at h2
      exact ⟨i, rfl, h2.1, h2.2.1, z, hz, zeroOk_of h2.2.2.1, h3, h2.2.2.2⟩

def OkT (t : Nat) (y : TY) : Prop := Tryz.prog.underlying t = some y.desc ∧ ∃ i, Tryz.prog.info? t = some i ∧ i.size = y.size ∧ i.bytes = y.bytes ∧ ∃ z, i.zero = some z ∧ zeroOk y.zero z ∧ y.zero.length = y.size ∧ aggV z = aggD y.desc
theorem okT1 : OkT 1 ty1 := tyOk (by kernel_rfl) (by kernel_rfl) rfl
theorem okT2 : OkT 2 ty2 := tyOk (by kernel_rfl) (by kernel_rfl) rfl
theorem okT3 : OkT 3 ty3 := tyOk (by kernel_rfl) (by kernel_rfl) rfl
theorem okT4 : OkT 4 ty4 := tyOk (by kernel_rfl) (by kernel_rfl) rfl
theorem okT5 : OkT 5 ty5 := tyOk (by kernel_rfl) (by kernel_rfl) rfl
theorem okT6 : OkT 6 ty6 := tyOk (by kernel_rfl) (by kernel_rfl) rfl
theorem okT7 : OkT 7 ty7 := tyOk (by kernel_rfl) (by kernel_rfl) rfl
theorem okT8 : OkT 8 ty8 := tyOk (by kernel_rfl) (by kernel_rfl) rfl
theorem okT9 : OkT 9 ty9 := tyOk (by kernel_rfl) (by kernel_rfl) rfl
theorem okT10 : OkT 10 ty10 := tyOk (by kernel_rfl) (by kernel_rfl) rfl
theorem okT11 : OkT 11 ty11 := tyOk (by kernel_rfl) (by kernel_rfl) rfl
theorem okT12 : OkT 12 ty12 := tyOk (by kernel_rfl) (by kernel_rfl) rfl
theorem okT13 : OkT 13 ty13 := tyOk (by kernel_rfl) (by kernel_rfl) rfl
theorem okT14 : OkT 14 ty14 := tyOk (by kernel_rfl) (by kernel_rfl) rfl
theorem okT15 : OkT 15 ty15 := tyOk (by kernel_rfl) (by kernel_rfl) rfl
theorem okT16 : OkT 16 ty16 := tyOk (by kernel_rfl) (by kernel_rfl) rfl
theorem okT17 : OkT 17 ty17 := tyOk (by kernel_rfl) (by kernel_rfl) rfl
theorem okT18 : OkT 18 ty18 := tyOk (by kernel_rfl) (by kernel_rfl) rfl
theorem okT19 : OkT 19 ty19 := tyOk (by kernel_rfl) (by kernel_rfl) rfl
theorem okT21 : OkT 21 ty21 := tyOk (by kernel_rfl) (by kernel_rfl) rfl
theorem okT22 : OkT 22 ty22 := tyOk (by kernel_rfl) (by kernel_rfl) rfl
theorem okT23 : OkT 23 ty23 := tyOk (by kernel_rfl) (by kernel_rfl) rfl
theorem okT24 : OkT 24 ty24 := tyOk (by kernel_rfl) (by kernel_rfl) rfl
theorem okT25 : OkT 25 ty25 := tyOk (by kernel_rfl) (by kernel_rfl) rfl
theorem okT26 : OkT 26 ty26 := tyOk (by kernel_rfl) (by kernel_rfl) rfl
theorem okT27 : OkT 27 ty27 := tyOk (by kernel_rfl) (by kernel_rfl) rfl
theorem okT28 : OkT 28 ty28 := tyOk (by kernel_rfl) (by kernel_rfl) rfl
theorem okT29 : OkT 29 ty29 := tyOk (by kernel_rfl) (by kernel_rfl) rfl
theorem okT30 : OkT 30 ty30 := tyOk (by kernel_rfl) (by kernel_rfl) rfl
theorem okT31 : OkT 31 ty31 := tyOk (by kernel_rfl) (by kernel_rfl) rfl
theorem okT32 : OkT 32 ty32 := tyOk (by kernel_rfl) (by kernel_rfl) rfl
theorem okT33 : OkT 33 ty33 := tyOk (by kernel_rfl) (by kernel_rfl) rfl
theorem okT34 : OkT 34 ty34 := tyOk (by kernel_rfl) (by kernel_rfl) rfl
theorem okT35 : OkT 35 ty35 := tyOk (by kernel_rfl) (by kernel_rfl) rfl
theorem okT36 : OkT 36 ty36 := tyOk (by kernel_rfl) (by kernel_rfl) rfl
theorem okT37 : OkT 37 ty37 := tyOk (by kernel_rfl) (by kernel_rfl) rfl
theorem okT38 : OkT 38 ty38 := tyOk (by kernel_rfl) (by kernel_rfl) rfl
theorem okT39 : OkT 39 ty39 := tyOk (by kernel_rfl) (by kernel_rfl) rfl
theorem okT40 : OkT 40 ty40 := tyOk (by kernel_rfl) (by kernel_rfl) rfl
theorem okT41 : OkT 41 ty41 := tyOk (by kernel_rfl) (by kernel_rfl) rfl
theorem okT42 : OkT 42 ty42 := tyOk (by kernel_rfl) (by kernel_rfl) rfl
theorem okT44 : OkT 44 ty44 := tyOk (by kernel_rfl) (by kernel_rfl) rfl
theorem okT46 : OkT 46 ty46 := tyOk (by kernel_rfl) (by kernel_rfl) rfl
theorem okT47 : OkT 47 ty47 := tyOk (by kernel_rfl) (by kernel_rfl) rfl
theorem okT48 : OkT 48 ty48 := tyOk (by kernel_rfl) (by kernel_rfl) rfl
theorem okT49 : OkT 49 ty49 := tyOk (by kernel_rfl) (by kernel_rfl) rfl
theorem okT50 : OkT 50 ty50 := tyOk (by kernel_rfl) (by kernel_rfl) rfl
theorem okT51 : OkT 51 ty51 := tyOk (by kernel_rfl) (by kernel_rfl) rfl
theorem okT52 : OkT 52 ty52 := tyOk (by kernel_rfl) (by kernel_rfl) rfl
theorem okT53 : OkT 53 ty53 := tyOk (by kernel_rfl) (by kernel_rfl) rfl
theorem okT54 : OkT 54 ty54 := tyOk (by kernel_rfl) (by kernel_rfl) rfl
theorem okT55 : OkT 55 ty55 := tyOk (by kernel_rfl) (by kernel_rfl) rfl
theorem okT56 : OkT 56 ty56 := tyOk (by kernel_rfl) (by kernel_rfl) rfl
theorem okT57 : OkT 57 ty57 := tyOk (by kernel_rfl) (by kernel_rfl) rfl
theorem okT58 : OkT 58 ty58 := tyOk (by kernel_rfl) (by kernel_rfl) rfl
theorem okT59 : OkT 59 ty59 := tyOk (by kernel_rfl) (by kernel_rfl) rfl
theorem okT60 : OkT 60 ty60 := tyOk (by kernel_rfl) (by kernel_rfl) rfl
theorem okT61 : OkT 61 ty61 := tyOk (by kernel_rfl) (by kernel_rfl) rfl
theorem okT62 : OkT 62 ty62 := tyOk (by kernel_rfl) (by kernel_rfl) rfl
theorem okT63 : OkT 63 ty63 := tyOk (by kernel_rfl) (by kernel_rfl) rfl
theorem okT64 : OkT 64 ty64 := tyOk (by kernel_rfl) (by kernel_rfl) rfl
theorem okT65 : OkT 65 ty65 := tyOk (by kernel_rfl) (by kernel_rfl) rfl
theorem okT66 : OkT 66 ty66 := tyOk (by kernel_rfl) (by kernel_rfl) rfl
theorem okT67 : OkT 67 ty67 := tyOk (by kernel_rfl) (by kernel_rfl) rfl
theorem okT68 : OkT 68 ty68 := tyOk (by kernel_rfl) (by kernel_rfl) rfl
theorem okT69 : OkT 69 ty69 := tyOk (by kernel_rfl) (by kernel_rfl) rfl
theorem okT70 : OkT 70 ty70 := tyOk (by kernel_rfl) (by kernel_rfl) rfl
theorem okT71 : OkT 71 ty71 := tyOk (by kernel_rfl) (by kernel_rfl) rfl
theorem okT72 : OkT 72 ty72 := tyOk (by kernel_rfl) (by kernel_rfl) rfl
theorem okT73 : OkT 73 ty73 := tyOk (by kernel_rfl) (by kernel_rfl) rfl
theorem okT74 : OkT 74 ty74 := tyOk (by kernel_rfl) (by kernel_rfl) rfl
theorem okT75 : OkT 75 ty75 := tyOk (by kernel_rfl) (by kernel_rfl) rfl
theorem okT76 : OkT 76 ty76 := tyOk (by kernel_rfl) (by kernel_rfl) rfl
theorem okT77 : OkT 77 ty77 := tyOk (by kernel_rfl) (by kernel_rfl) rfl
theorem okT78 : OkT 78 ty78 := tyOk (by kernel_rfl) (by kernel_rfl) rfl
theorem okT79 : OkT 79 ty79 := tyOk (by kernel_rfl) (by kernel_rfl) rfl
theorem okT80 : OkT 80 ty80 := tyOk (by kernel_rfl) (by kernel_rfl) rfl
theorem okT81 : OkT 81 ty81 := tyOk (by kernel_rfl) (by kernel_rfl) rfl
theorem okT82 : OkT 82 ty82 := tyOk (by kernel_rfl) (by kernel_rfl) rfl
theorem okT83 : OkT 83 ty83 := tyOk (by kernel_rfl) (by kernel_rfl) rfl
theorem okT84 : OkT 84 ty84 := tyOk (by kernel_rfl) (by kernel_rfl) rfl
theorem okT85 : OkT 85 ty85 := tyOk (by kernel_rfl) (by kernel_rfl) rfl
theorem okT86 : OkT 86 ty86 := tyOk (by kernel_rfl) (by kernel_rfl) rfl
theorem okT87 : OkT 87 ty87 := tyOk (by kernel_rfl) (by kernel_rfl) rfl
theorem okT89 : OkT 89 ty89 := tyOk (by kernel_rfl) (by kernel_rfl) rfl
theorem okT90 : OkT 90 ty90 := tyOk (by kernel_rfl) (by kernel_rfl) rfl
theorem okT91 : OkT 91 ty91 := tyOk (by kernel_rfl) (by kernel_rfl) rfl
theorem okT92 : OkT 92 ty92 := tyOk (by kernel_rfl) (by kernel_rfl) rfl
theorem okT93 : OkT 93 ty93 := tyOk (by kernel_rfl) (by kernel_rfl) rfl
theorem okT94 : OkT 94 ty94 := tyOk (by kernel_rfl) (by kernel_rfl) rfl
theorem okT95 : OkT 95 ty95 := tyOk (by kernel_rfl) (by kernel_rfl) rfl
theorem okT96 : OkT 96 ty96 := tyOk (by kernel_rfl) (by kernel_rfl) rfl
theorem okT97 : OkT 97 ty97 := tyOk (by kernel_rfl) (by kernel_rfl) rfl
theorem okT98 : OkT 98 ty98 := tyOk (by kernel_rfl) (by kernel_rfl) rfl
theorem okT99 : OkT 99 ty99 := tyOk (by kernel_rfl) (by kernel_rfl) rfl
theorem okT100 : OkT 100 ty100 := tyOk (by kernel_rfl) (by kernel_rfl) rfl
theorem okT101 : OkT 101 ty101 := tyOk (by kernel_rfl) (by kernel_rfl) rfl
theorem okT102 : OkT 102 ty102 := tyOk (by kernel_rfl) (by kernel_rfl) rfl
theorem okT104 : OkT 104 ty104 := tyOk (by kernel_rfl) (by kernel_rfl) rfl
theorem okT105 : OkT 105 ty105 := tyOk (by kernel_rfl) (by kernel_rfl) rfl
theorem okT106 : OkT 106 ty106 := tyOk (by kernel_rfl) (by kernel_rfl) rfl
theorem okT107 : OkT 107 ty107 := tyOk (by kernel_rfl) (by kernel_rfl) rfl
theorem okT108 : OkT 108 ty108 := tyOk (by kernel_rfl) (by kernel_rfl) rfl
theorem okT109 : OkT 109 ty109 := tyOk (by kernel_rfl) (by kernel_rfl) rfl
theorem okT110 : OkT 110 ty110 := tyOk (by kernel_rfl) (by kernel_rfl) rfl
theorem okT111 : OkT 111 ty111 := tyOk (by kernel_rfl) (by kernel_rfl) rfl
theorem okT112 : OkT 112 ty112 := tyOk (by kernel_rfl) (by kernel_rfl) rfl
theorem okT113 : OkT 113 ty113 := tyOk (by kernel_rfl) (by kernel_rfl) rfl
theorem okT114 : OkT 114 ty114 := tyOk (by kernel_rfl) (by kernel_rfl) rfl
theorem okT115 : OkT 115 ty115 := tyOk (by kernel_rfl) (by kernel_rfl) rfl
theorem okT116 : OkT 116 ty116 := tyOk (by kernel_rfl) (by kernel_rfl) rfl
theorem okT117 : OkT 117 ty117 := tyOk (by kernel_rfl) (by kernel_rfl) rfl
theorem okT118 : OkT 118 ty118 := tyOk (by kernel_rfl) (by kernel_rfl) rfl
theorem okT119 : OkT 119 ty119 := tyOk (by kernel_rfl) (by kernel_rfl) rfl
theorem okT120 : OkT 120 ty120 := tyOk (by kernel_rfl) (by kernel_rfl) rfl
theorem okT121 : OkT 121 ty121 := tyOk (by kernel_rfl) (by kernel_rfl) rfl
theorem okT122 : OkT 122 ty122 := tyOk (by kernel_rfl) (by kernel_rfl) rfl
theorem okT123 : OkT 123 ty123 := tyOk (by kernel_rfl) (by kernel_rfl) rfl
theorem okT124 : OkT 124 ty124 := tyOk (by kernel_rfl) (by kernel_rfl) rfl
theorem okT125 : OkT 125 ty125 := tyOk (by kernel_rfl) (by kernel_rfl) rfl
theorem okT126 : OkT 126 ty126 := tyOk (by kernel_rfl) (by kernel_rfl) rfl
theorem okT127 : OkT 127 ty127 := tyOk (by kernel_rfl) (by kernel_rfl) rfl
theorem okT128 : OkT 128 ty128 := tyOk (by kernel_rfl) (by kernel_rfl) rfl
theorem okT129 : OkT 129 ty129 := tyOk (by kernel_rfl) (by kernel_rfl) rfl
theorem okT130 : OkT 130 ty130 := tyOk (by kernel_rfl) (by kernel_rfl) rfl
theorem okT131 : OkT 131 ty131 := tyOk (by kernel_rfl) (by kernel_rfl) rfl
theorem okT132 : OkT 132 ty132 := tyOk (by kernel_rfl) (by kernel_rfl) rfl
theorem okT133 : OkT 133 ty133 := tyOk (by kernel_rfl) (by kernel_rfl) rfl
theorem okT134 : OkT 134 ty134 := tyOk (by kernel_rfl) (by kernel_rfl) rfl
theorem okT135 : OkT 135 ty135 := tyOk (by kernel_rfl) (by kernel_rfl) rfl
theorem okT136 : OkT 136 ty136 := tyOk (by kernel_rfl) (by kernel_rfl) rfl
theorem okT137 : OkT 137 ty137 := tyOk (by kernel_rfl) (by kernel_rfl) rfl
theorem okT138 : OkT 138 ty138 := tyOk (by kernel_rfl) (by kernel_rfl) rfl
theorem okT139 : OkT 139 ty139 := tyOk (by kernel_rfl) (by kernel_rfl) rfl
theorem okT140 : OkT 140 ty140 := tyOk (by kernel_rfl) (by kernel_rfl) rfl
theorem okT141 : OkT 141 ty141 := tyOk (by kernel_rfl) (by kernel_rfl) rfl
theorem okT142 : OkT 142 ty142 := tyOk (by kernel_rfl) (by kernel_rfl) rfl
theorem okT143 : OkT 143 ty143 := tyOk (by kernel_rfl) (by kernel_rfl) rfl
theorem okT144 : OkT 144 ty144 := tyOk (by kernel_rfl) (by kernel_rfl) rfl
theorem okT145 : OkT 145 ty145 := tyOk (by kernel_rfl) (by kernel_rfl) rfl
theorem okT146 : OkT 146 ty146 := tyOk (by kernel_rfl) (by kernel_rfl) rfl
theorem okT147 : OkT 147 ty147 := tyOk (by kernel_rfl) (by kernel_rfl) rfl
theorem okT148 : OkT 148 ty148 := tyOk (by kernel_rfl) (by kernel_rfl) rfl
theorem okT149 : OkT 149 ty149 := tyOk (by kernel_rfl) (by kernel_rfl) rfl
theorem okT150 : OkT 150 ty150 := tyOk (by kernel_rfl) (by kernel_rfl) rfl
theorem okT151 : OkT 151 ty151 := tyOk (by kernel_rfl) (by kernel_rfl) rfl
theorem okT152 : OkT 152 ty152 := tyOk (by kernel_rfl) (by kernel_rfl) rfl
theorem okT153 : OkT 153 ty153 := tyOk (by kernel_rfl) (by kernel_rfl) rfl
theorem okT154 : OkT 154 ty154 := tyOk (by kernel_rfl) (by kernel_rfl) rfl
theorem okT155 : OkT 155 ty155 := tyOk (by kernel_rfl) (by kernel_rfl) rfl
theorem okT156 : OkT 156 ty156 := tyOk (by kernel_rfl) (by kernel_rfl) rfl
theorem okT157 : OkT 157 ty157 := tyOk (by kernel_rfl) (by kernel_rfl) rfl
theorem okT158 : OkT 158 ty158 := tyOk (by kernel_rfl) (by kernel_rfl) rfl
theorem okT159 : OkT 159 ty159 := tyOk (by kernel_rfl) (by kernel_rfl) rfl
theorem okT160 : OkT 160 ty160 := tyOk (by kernel_rfl) (by kernel_rfl) rfl
theorem okT161 : OkT 161 ty161 := tyOk (by kernel_rfl) (by kernel_rfl) rfl
theorem okT162 : OkT 162 ty162 := tyOk (by kernel_rfl) (by kernel_rfl) rfl
theorem okT163 : OkT 163 ty163 := tyOk (by kernel_rfl) (by kernel_rfl) rfl
theorem okT164 : OkT 164 ty164 := tyOk (by kernel_rfl) (by kernel_rfl) rfl
theorem okT165 : OkT 165 ty165 := tyOk (by kernel_rfl) (by kernel_rfl) rfl
theorem okT166 : OkT 166 ty166 := tyOk (by kernel_rfl) (by kernel_rfl) rfl
theorem okT167 : OkT 167 ty167 := tyOk (by kernel_rfl) (by kernel_rfl) rfl
theorem okT168 : OkT 168 ty168 := tyOk (by kernel_rfl) (by kernel_rfl) rfl
theorem okT169 : OkT 169 ty169 := tyOk (by kernel_rfl) (by kernel_rfl) rfl
theorem okT170 : OkT 170 ty170 := tyOk (by kernel_rfl) (by kernel_rfl) rfl
theorem okT171 : OkT 171 ty171 := tyOk (by kernel_rfl) (by kernel_rfl) rfl
theorem okT172 : OkT 172 ty172 := tyOk (by kernel_rfl) (by kernel_rfl) rfl
theorem okT173 : OkT 173 ty173 := tyOk (by kernel_rfl) (by kernel_rfl) rfl
theorem okT174 : OkT 174 ty174 := tyOk (by kernel_rfl) (by kernel_rfl) rfl
theorem okT175 : OkT 175 ty175 := tyOk (by kernel_rfl) (by kernel_rfl) rfl
theorem okT176 : OkT 176 ty176 := tyOk (by kernel_rfl) (by kernel_rfl) rfl
theorem okT177 : OkT 177 ty177 := tyOk (by kernel_rfl) (by kernel_rfl) rfl
theorem okT178 : OkT 178 ty178 := tyOk (by kernel_rfl) (by kernel_rfl) rfl
theorem okT179 : OkT 179 ty179 := tyOk (by kernel_rfl) (by kernel_rfl) rfl
theorem okT181 : OkT 181 ty181 := tyOk (by kernel_rfl) (by kernel_rfl) rfl
theorem okT182 : OkT 182 ty182 := tyOk (by kernel_rfl) (by kernel_rfl) rfl
theorem okT183 : OkT 183 ty183 := tyOk (by kernel_rfl) (by kernel_rfl) rfl
theorem okT184 : OkT 184 ty184 := tyOk (by kernel_rfl) (by kernel_rfl) rfl
theorem okT185 : OkT 185 ty185 := tyOk (by kernel_rfl) (by kernel_rfl) rfl
theorem okT186 : OkT 186 ty186 := tyOk (by kernel_rfl) (by kernel_rfl) rfl
theorem okT187 : OkT 187 ty187 := tyOk (by kernel_rfl) (by kernel_rfl) rfl
theorem okT188 : OkT 188 ty188 := tyOk (by kernel_rfl) (by kernel_rfl) rfl
theorem okT189 : OkT 189 ty189 := tyOk (by kernel_rfl) (by kernel_rfl) rfl
theorem okT190 : OkT 190 ty190 := tyOk (by kernel_rfl) (by kernel_rfl) rfl
theorem okT191 : OkT 191 ty191 := tyOk (by kernel_rfl) (by kernel_rfl) rfl
theorem okT192 : OkT 192 ty192 := tyOk (by kernel_rfl) (by kernel_rfl) rfl
theorem okT194 : OkT 194 ty194 := tyOk (by kernel_rfl) (by kernel_rfl) rfl
theorem okT195 : OkT 195 ty195 := tyOk (by kernel_rfl) (by kernel_rfl) rfl
theorem okT196 : OkT 196 ty196 := tyOk (by kernel_rfl) (by kernel_rfl) rfl
theorem okT197 : OkT 197 ty197 := tyOk (by kernel_rfl) (by kernel_rfl) rfl
theorem okT198 : OkT 198 ty198 := tyOk (by kernel_rfl) (by kernel_rfl) rfl
theorem okT199 : OkT 199 ty199 := tyOk (by kernel_rfl) (by kernel_rfl) rfl
theorem okT200 : OkT 200 ty200 := tyOk (by kernel_rfl) (by kernel_rfl) rfl
theorem okT201 : OkT 201 ty201 := tyOk (by kernel_rfl) (by kernel_rfl) rfl
theorem okT202 : OkT 202 ty202 := tyOk (by kernel_rfl) (by kernel_rfl) rfl
theorem okT203 : OkT 203 ty203 := tyOk (by kernel_rfl) (by kernel_rfl) rfl
theorem okT204 : OkT 204 ty204 := tyOk (by kernel_rfl) (by kernel_rfl) rfl
theorem okT205 : OkT 205 ty205 := tyOk (by kernel_rfl) (by kernel_rfl) rfl
theorem okT206 : OkT 206 ty206 := tyOk (by kernel_rfl) (by kernel_rfl) rfl
theorem okT207 : OkT 207 ty207 := tyOk (by kernel_rfl) (by kernel_rfl) rfl
theorem okT208 : OkT 208 ty208 := tyOk (by kernel_rfl) (by kernel_rfl) rfl

inductive Alls : Nat → List (Option TY) → Prop
  | nil (k : Nat) : Alls k []
  | none {k : Nat} {l : List (Option TY)} (h : Alls (k + 1) l) : Alls k (Option.none :: l)
  | some {k : Nat} {y : TY} {l : List (Option TY)} (h : OkT k y) (t : Alls (k + 1) l) : Alls k (Option.some y :: l)

theorem Alls.get {k : Nat} {l : List (Option TY)} (h : Alls k l) : ∀ {t : Nat} {y : TY}, l[t]? = Option.some (Option.some y) → OkT (k + t) y := by
  induction h with
  | nil => intro t y h; simp at h
  | none h ih =>
    intro t y ht
    cases t with
    | zero => simp at ht
    | succ t => have := ih (t := t) (by simpa using ht); rwa [Nat.add_assoc, Nat.add_comm 1 t] at this
  | some h t ih =>
    intro t y ht
    cases t with
    | zero => simp at ht; subst ht; exact h
    | succ t => have := ih (t := t) (by simpa using ht); rwa [Nat.add_assoc, Nat.add_comm 1 t] at this

def tyL200 : List (Option TY) := some ty200 :: some ty201 :: some ty202 :: some ty203 :: some ty204 :: some ty205 :: some ty206 :: some ty207 :: some ty208 :: []
theorem alls200 : Alls 200 tyL200 := (.some okT200 (.some okT201 (.some okT202 (.some okT203 (.some okT204 (.some okT205 (.some okT206 (.some okT207 (.some okT208 (.nil _))))))))))
def tyL160 : List (Option TY) := some ty160 :: some ty161 :: some ty162 :: some ty163 :: some ty164 :: some ty165 :: some ty166 :: some ty167 :: some ty168 :: some ty169 :: some ty170 :: some ty171 :: some ty172 :: some ty173 :: some ty174 :: some ty175 :: some ty176 :: some ty177 :: some ty178 :: some ty179 :: Option.none :: some ty181 :: some ty182 :: some ty183 :: some ty184 :: some ty185 :: some ty186 :: some ty187 :: some ty188 :: some ty189 :: some ty190 :: some ty191 :: some ty192 :: Option.none :: some ty194 :: some ty195 :: some ty196 :: some ty197 :: some ty198 :: some ty199 :: tyL200
theorem alls160 : Alls 160 tyL160 := (.some okT160 (.some okT161 (.some okT162 (.some okT163 (.some okT164 (.some okT165 (.some okT166 (.some okT167 (.some okT168 (.some okT169 (.some okT170 (.some okT171 (.some okT172 (.some okT173 (.some okT174 (.some okT175 (.some okT176 (.some okT177 (.some okT178 (.some okT179 (.none (.some okT181 (.some okT182 (.some okT183 (.some okT184 (.some okT185 (.some okT186 (.some okT187 (.some okT188 (.some okT189 (.some okT190 (.some okT191 (.some okT192 (.none (.some okT194 (.some okT195 (.some okT196 (.some okT197 (.some okT198 (.some okT199 alls200))))))))))))))))))))))))))))))))))))))))
def tyL120 : List (Option TY) := some ty120 :: some ty121 :: some ty122 :: some ty123 :: some ty124 :: some ty125 :: some ty126 :: some ty127 :: some ty128 :: some ty129 :: some ty130 :: some ty131 :: some ty132 :: some ty133 :: some ty134 :: some ty135 :: some ty136 :: some ty137 :: some ty138 :: some ty139 :: some ty140 :: some ty141 :: some ty142 :: some ty143 :: some ty144 :: some ty145 :: some ty146 :: some ty147 :: some ty148 :: some ty149 :: some ty150 :: some ty151 :: some ty152 :: some ty153 :: some ty154 :: some ty155 :: some ty156 :: some ty157 :: some ty158 :: some ty159 :: tyL160
theorem alls120 : Alls 120 tyL120 := (.some okT120 (.some okT121 (.some okT122 (.some okT123 (.some okT124 (.some okT125 (.some okT126 (.some okT127 (.some okT128 (.some okT129 (.some okT130 (.some okT131 (.some okT132 (.some okT133 (.some okT134 (.some okT135 (.some okT136 (.some okT137 (.some okT138 (.some okT139 (.some okT140 (.some okT141 (.some okT142 (.some okT143 (.some okT144 (.some okT145 (.some okT146 (.some okT147 (.some okT148 (.some okT149 (.some okT150 (.some okT151 (.some okT152 (.some okT153 (.some okT154 (.some okT155 (.some okT156 (.some okT157 (.some okT158 (.some okT159 alls160))))))))))))))))))))))))))))))))))))))))
def tyL80 : List (Option TY) := some ty80 :: some ty81 :: some ty82 :: some ty83 :: some ty84 :: some ty85 :: some ty86 :: some ty87 :: Option.none :: some ty89 :: some ty90 :: some ty91 :: some ty92 :: some ty93 :: some ty94 :: some ty95 :: some ty96 :: some ty97 :: some ty98 :: some ty99 :: some ty100 :: some ty101 :: some ty102 :: Option.none :: some ty104 :: some ty105 :: some ty106 :: some ty107 :: some ty108 :: some ty109 :: some ty110 :: some ty111 :: some ty112 :: some ty113 :: some ty114 :: some ty115 :: some ty116 :: some ty117 :: some ty118 :: some ty119 :: tyL120
theorem alls80 : Alls 80 tyL80 := (.some okT80 (.some okT81 (.some okT82 (.some okT83 (.some okT84 (.some okT85 (.some okT86 (.some okT87 (.none (.some okT89 (.some okT90 (.some okT91 (.some okT92 (.some okT93 (.some okT94 (.some okT95 (.some okT96 (.some okT97 (.some okT98 (.some okT99 (.some okT100 (.some okT101 (.some okT102 (.none (.some okT104 (.some okT105 (.some okT106 (.some okT107 (.some okT108 (.some okT109 (.some okT110 (.some okT111 (.some okT112 (.some okT113 (.some okT114 (.some okT115 (.some okT116 (.some okT117 (.some okT118 (.some okT119 alls120))))))))))))))))))))))))))))))))))))))))
def tyL40 : List (Option TY) := some ty40 :: some ty41 :: some ty42 :: Option.none :: some ty44 :: Option.none :: some ty46 :: some ty47 :: some ty48 :: some ty49 :: some ty50 :: some ty51 :: some ty52 :: some ty53 :: some ty54 :: some ty55 :: some ty56 :: some ty57 :: some ty58 :: some ty59 :: some ty60 :: some ty61 :: some ty62 :: some ty63 :: some ty64 :: some ty65 :: some ty66 :: some ty67 :: some ty68 :: some ty69 :: some ty70 :: some ty71 :: some ty72 :: some ty73 :: some ty74 :: some ty75 :: some ty76 :: some ty77 :: some ty78 :: some ty79 :: tyL80
theorem alls40 : Alls 40 tyL40 := (.some okT40 (.some okT41 (.some okT42 (.none (.some okT44 (.none (.some okT46 (.some okT47 (.some okT48 (.some okT49 (.some okT50 (.some okT51 (.some okT52 (.some okT53 (.some okT54 (.some okT55 (.some okT56 (.some okT57 (.some okT58 (.some okT59 (.some okT60 (.some okT61 (.some okT62 (.some okT63 (.some okT64 (.some okT65 (.some okT66 (.some okT67 (.some okT68 (.some okT69 (.some okT70 (.some okT71 (.some okT72 (.some okT73 (.some okT74 (.some okT75 (.some okT76 (.some okT77 (.some okT78 (.some okT79 alls80))))))))))))))))))))))))))))))))))))))))
def tyL0 : List (Option TY) := Option.none :: some ty1 :: some ty2 :: some ty3 :: some ty4 :: some ty5 :: some ty6 :: some ty7 :: some ty8 :: some ty9 :: some ty10 :: some ty11 :: some ty12 :: some ty13 :: some ty14 :: some ty15 :: some ty16 :: some ty17 :: some ty18 :: some ty19 :: Option.none :: some ty21 :: some ty22 :: some ty23 :: some ty24 :: some ty25 :: some ty26 :: some ty27 :: some ty28 :: some ty29 :: some ty30 :: some ty31 :: some ty32 :: some ty33 :: some ty34 :: some ty35 :: some ty36 :: some ty37 :: some ty38 :: some ty39 :: tyL40
theorem alls0 : Alls 0 tyL0 := (.none (.some okT1 (.some okT2 (.some okT3 (.some okT4 (.some okT5 (.some okT6 (.some okT7 (.some okT8 (.some okT9 (.some okT10 (.some okT11 (.some okT12 (.some okT13 (.some okT14 (.some okT15 (.some okT16 (.some okT17 (.some okT18 (.some okT19 (.none (.some okT21 (.some okT22 (.some okT23 (.some okT24 (.some okT25 (.some okT26 (.some okT27 (.some okT28 (.some okT29 (.some okT30 (.some okT31 (.some okT32 (.some okT33 (.some okT34 (.some okT35 (.some okT36 (.some okT37 (.some okT38 (.some okT39 alls40))))))))))))))))))))))))))))))))))))))))
theorem T_ok : TOk Tryz.prog T := by
  intro t y h
  unfold T at h
  split at h
  · rename_i y' hy
    cases h
    have := alls0.get (t := t) (y := y) hy
    rwa [Nat.zero_add] at this
  · cases h

theorem mixed : Tryz.prog.follows .mixedOrders = true := by kernel_rfl

end Go.Proofs.YtjdjfchhbocncaaGreat
