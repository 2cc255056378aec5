/-
  The tables of this program (types, temporaries, functions) say what the program says.
-/
import Derived.Test.YteodickkbkdnaaaGreatSymA
import Derived.Test.YteodickkbkdnaaaGreatProg
import Derived.Test.YteodickkbkdnaaaGreatSymB
import Derived.KernelRfl

namespace Go.Sy
open Go

def ty2 : TI := ⟨true, 1, false, [.i 3 0], (.int .i64)⟩
def ty3 : TI := ⟨true, 1, false, [.i 3 0], (.int .i64)⟩
def ty4 : TI := ⟨true, 1, false, [.b false], .bool⟩
def ty5 : TI := ⟨true, 1, false, [.i 4 0], (.int .u8)⟩
def ty6 : TI := ⟨true, 1, false, [.i 4 0], (.int .u8)⟩
def ty7 : TI := ⟨true, 4, true, [.i 3 0, .i 3 0, .b false, .i 4 0], (.st [(0, 2), (1, 3), (2, 4), (3, 6)])⟩
def ty8 : TI := ⟨true, 4, true, [.i 3 0, .i 3 0, .b false, .i 4 0], (.st [(0, 2), (1, 3), (2, 4), (3, 6)])⟩
def ty9 : TI := ⟨true, 1, false, [.s []], .str⟩
def ty10 : TI := ⟨true, 1, false, [.s []], .str⟩
def ty11 : TI := ⟨true, 1, false, [.s []], .str⟩
def ty12 : TI := ⟨true, 1, false, [.i 7 0], (.int .u64)⟩
def ty13 : TI := ⟨true, 2, true, [.s [], .i 7 0], (.st [(0, 9), (1, 12)])⟩
def ty14 : TI := ⟨true, 2, true, [.s [], .i 7 0], (.st [(0, 9), (1, 12)])⟩
def ty15 : TI := ⟨true, 1, false, [.pn], .oth⟩
def ty16 : TI := ⟨true, 1, false, [.pn], .oth⟩
def ty17 : TI := ⟨true, 1, false, [.pn], .oth⟩
def ty18 : TI := ⟨true, 1, true, [.pn], (.st [(0, 17)])⟩
def ty19 : TI := ⟨true, 1, true, [.pn], (.st [(0, 17)])⟩
def ty21 : TI := ⟨true, 1, false, [.i 2 0], (.int .i32)⟩
def ty22 : TI := ⟨true, 1, false, [.sn], (.sl 5)⟩
def ty24 : TI := ⟨true, 1, false, [.sn], (.sl 72)⟩
def ty25 : TI := ⟨true, 1, true, [.sn], (.st [(0, 24)])⟩
def ty26 : TI := ⟨true, 1, true, [.sn], (.st [(0, 24)])⟩
def ty27 : TI := ⟨true, 1, false, [.sn], (.sl 99)⟩
def ty28 : TI := ⟨true, 1, false, [.sn], (.sl 190)⟩
def ty29 : TI := ⟨true, 1, true, [.sn], (.st [(0, 28)])⟩
def ty30 : TI := ⟨true, 1, true, [.sn], (.st [(0, 28)])⟩
def ty31 : TI := ⟨true, 1, false, [.sn], (.sl 298)⟩
def ty32 : TI := ⟨true, 1, true, [.sn], (.st [(0, 31)])⟩
def ty33 : TI := ⟨true, 1, true, [.sn], (.st [(0, 31)])⟩
def ty34 : TI := ⟨true, 1, false, [.sn], (.sl 92)⟩
def ty35 : TI := ⟨true, 1, false, [.sn], (.sl 51)⟩
def ty36 : TI := ⟨true, 10, true, [.i 3 0, .b false, .i 3 0, .sn, .sn, .i 3 0, .sn, .sn, .sn, .sn], (.st [(0, 3), (1, 4), (2, 3), (3, 26), (4, 27), (5, 3), (6, 30), (7, 33), (8, 34), (9, 35)])⟩
def ty37 : TI := ⟨true, 10, true, [.i 3 0, .b false, .i 3 0, .sn, .sn, .i 3 0, .sn, .sn, .sn, .sn], (.st [(0, 3), (1, 4), (2, 3), (3, 26), (4, 27), (5, 3), (6, 30), (7, 33), (8, 34), (9, 35)])⟩
def ty41 : TI := ⟨true, 5, true, [.i 3 0, .s [], .s [], .i 3 0, .i 3 0], (.st [(0, 3), (1, 9), (2, 9), (3, 3), (4, 3)])⟩
def ty42 : TI := ⟨true, 5, true, [.i 3 0, .s [], .s [], .i 3 0, .i 3 0], (.st [(0, 3), (1, 9), (2, 9), (3, 3), (4, 3)])⟩
def ty43 : TI := ⟨true, 1, false, [.sn], (.sl 42)⟩
def ty45 : TI := ⟨true, 1, false, [.sn], (.sl 110)⟩
def ty46 : TI := ⟨true, 3, true, [.s [], .sn, .i 3 0], (.st [(0, 9), (1, 45), (2, 3)])⟩
def ty47 : TI := ⟨true, 3, true, [.s [], .sn, .i 3 0], (.st [(0, 9), (1, 45), (2, 3)])⟩
def ty48 : TI := ⟨true, 1, false, [.sn], (.sl 83)⟩
def ty49 : TI := ⟨true, 1, false, [.sn], (.sl 76)⟩
def ty50 : TI := ⟨true, 5, true, [.s [], .sn, .i 3 0, .sn, .sn], (.st [(0, 47), (3, 48), (4, 49)])⟩
def ty51 : TI := ⟨true, 5, true, [.s [], .sn, .i 3 0, .sn, .sn], (.st [(0, 47), (3, 48), (4, 49)])⟩
def ty52 : TI := ⟨true, 1, false, [.sn], (.sl 117)⟩
def ty53 : TI := ⟨true, 1, true, [.sn], (.st [(0, 52)])⟩
def ty54 : TI := ⟨true, 1, true, [.sn], (.st [(0, 52)])⟩
def ty57 : TI := ⟨true, 4, true, [.s [], .i 3 0, .i 3 0, .i 3 0], (.st [(0, 9), (1, 3), (2, 3), (3, 3)])⟩
def ty58 : TI := ⟨true, 4, true, [.s [], .i 3 0, .i 3 0, .i 3 0], (.st [(0, 9), (1, 3), (2, 3), (3, 3)])⟩
def ty59 : TI := ⟨true, 1, false, [.sn], (.sl 47)⟩
def ty60 : TI := ⟨true, 1, false, [.sn], (.sl 318)⟩
def ty61 : TI := ⟨true, 4, true, [.s [], .i 3 0, .sn, .sn], (.st [(0, 9), (1, 3), (2, 59), (3, 60)])⟩
def ty62 : TI := ⟨true, 4, true, [.s [], .i 3 0, .sn, .sn], (.st [(0, 9), (1, 3), (2, 59), (3, 60)])⟩
def ty63 : TI := ⟨true, 6, true, [.s [], .i 3 0, .sn, .sn, .sn, .i 3 0], (.st [(0, 62), (4, 22), (5, 3)])⟩
def ty64 : TI := ⟨true, 6, true, [.s [], .i 3 0, .sn, .sn, .sn, .i 3 0], (.st [(0, 62), (4, 22), (5, 3)])⟩
def ty65 : TI := ⟨true, 3, true, [.i 3 0, .i 3 0, .sn], (.st [(0, 3), (1, 3), (2, 49)])⟩
def ty66 : TI := ⟨true, 3, true, [.i 3 0, .i 3 0, .sn], (.st [(0, 3), (1, 3), (2, 49)])⟩
def ty67 : TI := ⟨true, 5, true, [.i 3 0, .i 3 0, .sn, .i 3 0, .i 3 0], (.st [(0, 66), (3, 3), (4, 3)])⟩
def ty68 : TI := ⟨true, 5, true, [.i 3 0, .i 3 0, .sn, .i 3 0, .i 3 0], (.st [(0, 66), (3, 3), (4, 3)])⟩
def ty69 : TI := ⟨true, 9, true, [.s [], .sn, .i 3 0, .i 3 0, .i 3 0, .i 3 0, .sn, .i 3 0, .i 3 0], (.st [(0, 47), (3, 3), (4, 68)])⟩
def ty70 : TI := ⟨true, 9, true, [.s [], .sn, .i 3 0, .i 3 0, .i 3 0, .i 3 0, .sn, .i 3 0, .i 3 0], (.st [(0, 47), (3, 3), (4, 68)])⟩
def ty71 : TI := ⟨true, 24, true, [.s [], .s [], .s [], .i 3 0, .i 3 0, .i 3 0, .sn, .s [], .i 3 0, .sn, .sn, .sn, .i 3 0, .s [], .sn, .i 3 0, .i 3 0, .i 3 0, .i 3 0, .sn, .i 3 0, .i 3 0, .i 3 0, .b false], (.st [(0, 9), (1, 9), (2, 58), (6, 54), (7, 64), (13, 70), (22, 3), (23, 4)])⟩
def ty72 : TI := ⟨true, 24, true, [.s [], .s [], .s [], .i 3 0, .i 3 0, .i 3 0, .sn, .s [], .i 3 0, .sn, .sn, .sn, .i 3 0, .s [], .sn, .i 3 0, .i 3 0, .i 3 0, .i 3 0, .sn, .i 3 0, .i 3 0, .i 3 0, .b false], (.st [(0, 9), (1, 9), (2, 58), (6, 54), (7, 64), (13, 70), (22, 3), (23, 4)])⟩
def ty73 : TI := ⟨true, 3, true, [.i 3 0, .i 3 0, .s []], (.st [(0, 3), (1, 3), (2, 9)])⟩
def ty74 : TI := ⟨true, 3, true, [.i 3 0, .i 3 0, .s []], (.st [(0, 3), (1, 3), (2, 9)])⟩
def ty75 : TI := ⟨true, 7, true, [.i 3 0, .i 3 0, .i 3 0, .i 3 0, .s [], .s [], .i 3 0], (.st [(0, 3), (1, 3), (2, 74), (5, 9), (6, 3)])⟩
def ty76 : TI := ⟨true, 7, true, [.i 3 0, .i 3 0, .i 3 0, .i 3 0, .s [], .s [], .i 3 0], (.st [(0, 3), (1, 3), (2, 74), (5, 9), (6, 3)])⟩
def ty79 : TI := ⟨true, 1, false, [.sn], (.sl 152)⟩
def ty80 : TI := ⟨true, 1, true, [.sn], (.st [(0, 79)])⟩
def ty81 : TI := ⟨true, 1, true, [.sn], (.st [(0, 79)])⟩
def ty82 : TI := ⟨true, 2, true, [.i 3 0, .i 3 0], (.st [(0, 3), (1, 3)])⟩
def ty83 : TI := ⟨true, 2, true, [.i 3 0, .i 3 0], (.st [(0, 3), (1, 3)])⟩
def ty89 : TI := ⟨true, 1, false, [.sn], (.sl 9)⟩
def ty91 : TI := ⟨true, 4, true, [.s [], .i 3 0, .sn, .b false], (.st [(0, 9), (1, 3), (2, 89), (3, 4)])⟩
def ty92 : TI := ⟨true, 4, true, [.s [], .i 3 0, .sn, .b false], (.st [(0, 9), (1, 3), (2, 89), (3, 4)])⟩
def ty93 : TI := ⟨true, 1, false, [.sn], (.sl 184)⟩
def ty94 : TI := ⟨true, 1, false, [.sn], (.sl 280)⟩
def ty95 : TI := ⟨true, 1, false, [.sn], (.sl 3)⟩
def ty96 : TI := ⟨true, 6, true, [.sn, .i 3 0, .sn, .i 3 0, .b false, .b false], (.st [(0, 94), (1, 3), (2, 95), (3, 3), (4, 4), (5, 4)])⟩
def ty97 : TI := ⟨true, 6, true, [.sn, .i 3 0, .sn, .i 3 0, .b false, .b false], (.st [(0, 94), (1, 3), (2, 95), (3, 3), (4, 4), (5, 4)])⟩
def ty98 : TI := ⟨true, 11, true, [.i 3 0, .s [], .s [], .i 3 0, .sn, .sn, .i 3 0, .sn, .i 3 0, .b false, .b false], (.st [(0, 3), (1, 9), (2, 9), (3, 3), (4, 93), (5, 97)])⟩
def ty99 : TI := ⟨true, 11, true, [.i 3 0, .s [], .s [], .i 3 0, .sn, .sn, .i 3 0, .sn, .i 3 0, .b false, .b false], (.st [(0, 3), (1, 9), (2, 9), (3, 3), (4, 93), (5, 97)])⟩
def ty109 : TI := ⟨true, 4, true, [.i 3 0, .i 3 0, .s [], .sn], (.st [(0, 74), (3, 81)])⟩
def ty110 : TI := ⟨true, 4, true, [.i 3 0, .i 3 0, .s [], .sn], (.st [(0, 74), (3, 81)])⟩
def ty115 : TI := ⟨true, 1, false, [.sn], (.sl 142)⟩
def ty116 : TI := ⟨true, 2, true, [.i 3 0, .sn], (.st [(0, 3), (1, 115)])⟩
def ty117 : TI := ⟨true, 2, true, [.i 3 0, .sn], (.st [(0, 3), (1, 115)])⟩
def ty119 : TI := ⟨true, 1, false, [.mn], (.mp 3 3)⟩
def ty139 : TI := ⟨true, 5, true, [.i 3 0, .i 3 0, .i 3 0, .sn, .b false], (.st [(0, 3), (1, 3), (2, 3), (3, 22), (4, 4)])⟩
def ty140 : TI := ⟨true, 5, true, [.i 3 0, .i 3 0, .i 3 0, .sn, .b false], (.st [(0, 3), (1, 3), (2, 3), (3, 22), (4, 4)])⟩
def ty141 : TI := ⟨true, 7, true, [.s [], .s [], .i 3 0, .i 3 0, .i 3 0, .sn, .b false], (.st [(0, 9), (1, 9), (2, 140)])⟩
def ty142 : TI := ⟨true, 7, true, [.s [], .s [], .i 3 0, .i 3 0, .i 3 0, .sn, .b false], (.st [(0, 9), (1, 9), (2, 140)])⟩
def ty151 : TI := ⟨true, 2, true, [.s [], .i 3 0], (.st [(0, 9), (1, 3)])⟩
def ty152 : TI := ⟨true, 2, true, [.s [], .i 3 0], (.st [(0, 9), (1, 3)])⟩
def ty183 : TI := ⟨true, 2, true, [.s [], .i 3 0], (.st [(0, 9), (1, 3)])⟩
def ty184 : TI := ⟨true, 2, true, [.s [], .i 3 0], (.st [(0, 9), (1, 3)])⟩
def ty189 : TI := ⟨true, 4, true, [.s [], .i 3 0, .b false, .b false], (.st [(0, 9), (1, 3), (2, 4), (3, 4)])⟩
def ty190 : TI := ⟨true, 4, true, [.s [], .i 3 0, .b false, .b false], (.st [(0, 9), (1, 3), (2, 4), (3, 4)])⟩
def ty241 : TI := ⟨true, 5, true, [.i 3 0, .i 3 0, .i 3 0, .s [], .i 3 0], (.st [(0, 3), (1, 3), (2, 3), (3, 9), (4, 3)])⟩
def ty242 : TI := ⟨true, 5, true, [.i 3 0, .i 3 0, .i 3 0, .s [], .i 3 0], (.st [(0, 3), (1, 3), (2, 3), (3, 9), (4, 3)])⟩
def ty279 : TI := ⟨true, 4, true, [.i 3 0, .i 3 0, .i 3 0, .s []], (.st [(0, 3), (1, 3), (2, 3), (3, 9)])⟩
def ty280 : TI := ⟨true, 4, true, [.i 3 0, .i 3 0, .i 3 0, .s []], (.st [(0, 3), (1, 3), (2, 3), (3, 9)])⟩
def ty297 : TI := ⟨true, 3, true, [.i 3 0, .i 3 0, .i 3 0], (.st [(0, 3), (1, 3), (2, 3)])⟩
def ty298 : TI := ⟨true, 3, true, [.i 3 0, .i 3 0, .i 3 0], (.st [(0, 3), (1, 3), (2, 3)])⟩
def ty307 : TI := ⟨true, 7, true, [.i 3 0, .s [], .i 3 0, .i 3 0, .s [], .sn, .s []], (.st [(0, 3), (1, 9), (2, 74), (5, 81), (6, 9)])⟩
def ty308 : TI := ⟨true, 7, true, [.i 3 0, .s [], .i 3 0, .i 3 0, .s [], .sn, .s []], (.st [(0, 3), (1, 9), (2, 74), (5, 81), (6, 9)])⟩
def ty309 : TI := ⟨true, 1, false, [.sn], (.sl 308)⟩
def ty313 : TI := ⟨true, 1, false, [.sn], (.sl 22)⟩
def ty317 : TI := ⟨true, 2, true, [.s [], .s []], (.st [(0, 9), (1, 9)])⟩
def ty318 : TI := ⟨true, 2, true, [.s [], .s []], (.st [(0, 9), (1, 9)])⟩
def ty368 : TI := ⟨true, 1, false, [.i 7 0], (.int .u64)⟩
def ty374 : TI := ⟨true, 8, true, [.b false, .b false, .i 3 0, .i 3 0, .s [], .i 3 0, .i 3 0, .s []], (.st [(0, 4), (1, 4), (2, 74), (5, 74)])⟩
def ty375 : TI := ⟨true, 8, true, [.b false, .b false, .i 3 0, .i 3 0, .s [], .i 3 0, .i 3 0, .s []], (.st [(0, 4), (1, 4), (2, 74), (5, 74)])⟩
def ty381 : TI := ⟨true, 4, true, [.pn, .pn, .pn, .s []], (.st [(0, 17), (1, 17), (2, 17), (3, 9)])⟩
def ty382 : TI := ⟨true, 4, true, [.pn, .pn, .pn, .s []], (.st [(0, 17), (1, 17), (2, 17), (3, 9)])⟩
def ty384 : TI := ⟨true, 0, true, [], (.st [(0, 383)])⟩
def ty385 : TI := ⟨true, 0, true, [], (.st [(0, 383)])⟩
def ty387 : TI := ⟨true, 1, false, [.i 6 0], (.int .u32)⟩
def ty388 : TI := ⟨true, 1, false, [.i 4 0], (.int .u8)⟩
def ty389 : TI := ⟨true, 1, false, [.i 4 0], (.int .u8)⟩
def ty391 : TI := ⟨true, 1, false, [.pn], .oth⟩
def ty392 : TI := ⟨true, 1, false, [.i 2 0], (.int .i32)⟩
def ty393 : TI := ⟨true, 1, false, [.i 2 0], (.int .i32)⟩
def ttT : Tr TI := .nd (noTI) (.nd (noTI) (.nd (ty3) (.nd (ty7) (.nd (ty15) (.nd (ty31) (.nd (ty63) (.lf []) (.lf [])) (.nd (ty95) (.lf []) (.lf []))) (.nd (ty47) (.nd (ty79) (.lf []) (.lf [])) (.lf []))) (.nd (noTI) (.nd (noTI) (.nd (ty71) (.nd (noTI) (.lf []) (.lf [(0, ty391)])) (.lf [])) (.lf [])) (.nd (noTI) (.nd (noTI) (.nd (ty151) (.lf [(0, ty279)]) (.lf [])) (.lf [])) (.nd (ty119) (.nd (ty183) (.lf []) (.lf [])) (.nd (noTI) (.lf [(0, ty375)]) (.lf [])))))) (.nd (ty11) (.nd (ty19) (.nd (ty35) (.nd (ty67) (.nd (noTI) (.lf []) (.lf [(0, ty387)])) (.lf [])) (.nd (ty99) (.lf []) (.lf []))) (.nd (ty51) (.nd (ty83) (.lf []) (.lf [])) (.nd (ty115) (.nd (noTI) (.lf [(0, ty307)]) (.lf [])) (.lf [])))) (.nd (ty27) (.nd (ty43) (.nd (ty75) (.nd (ty139) (.lf []) (.lf [])) (.lf [])) (.lf [])) (.nd (ty59) (.nd (ty91) (.lf []) (.lf [])) (.lf []))))) (.nd (ty5) (.nd (ty9) (.nd (ty17) (.nd (ty33) (.nd (ty65) (.nd (noTI) (.lf []) (.lf [(0, ty385)])) (.lf [])) (.nd (ty97) (.lf []) (.lf []))) (.nd (ty49) (.nd (ty81) (.lf []) (.lf [])) (.nd (noTI) (.lf []) (.nd (ty241) (.lf []) (.lf []))))) (.nd (ty25) (.nd (ty41) (.nd (ty73) (.nd (noTI) (.lf []) (.lf [(0, ty393)])) (.lf [])) (.nd (noTI) (.nd (noTI) (.lf [(0, ty297)]) (.lf [])) (.lf []))) (.nd (ty57) (.nd (ty89) (.lf []) (.lf [])) (.nd (noTI) (.nd (noTI) (.lf [(0, ty313)]) (.lf [])) (.lf []))))) (.nd (ty13) (.nd (ty21) (.nd (ty37) (.nd (ty69) (.nd (noTI) (.lf []) (.lf [(0, ty389)])) (.lf [])) (.lf [])) (.nd (ty53) (.lf []) (.nd (ty117) (.nd (noTI) (.lf [(0, ty309)]) (.lf [])) (.lf [])))) (.nd (ty29) (.nd (ty45) (.nd (noTI) (.nd (ty141) (.lf []) (.lf [])) (.lf [])) (.nd (ty109) (.lf []) (.lf []))) (.nd (ty61) (.nd (ty93) (.lf []) (.lf [])) (.nd (noTI) (.nd (ty189) (.lf [(0, ty317)]) (.lf [])) (.nd (noTI) (.lf [(0, ty381)]) (.lf [])))))))) (.nd (ty2) (.nd (ty4) (.nd (ty8) (.nd (ty16) (.nd (ty32) (.nd (ty64) (.nd (noTI) (.lf []) (.lf [(0, ty384)])) (.lf [])) (.nd (ty96) (.lf []) (.lf []))) (.nd (ty48) (.nd (ty80) (.lf []) (.lf [])) (.nd (noTI) (.lf []) (.nd (noTI) (.lf [(0, ty368)]) (.lf []))))) (.nd (ty24) (.nd (noTI) (.nd (ty72) (.nd (noTI) (.lf []) (.lf [(0, ty392)])) (.lf [])) (.lf [])) (.nd (noTI) (.nd (noTI) (.nd (ty152) (.lf [(0, ty280)]) (.lf [])) (.lf [])) (.nd (noTI) (.nd (ty184) (.lf []) (.lf [])) (.lf []))))) (.nd (ty12) (.nd (noTI) (.nd (ty36) (.nd (ty68) (.nd (noTI) (.lf []) (.lf [(0, ty388)])) (.lf [])) (.lf [])) (.nd (ty52) (.lf []) (.nd (ty116) (.nd (noTI) (.lf [(0, ty308)]) (.lf [])) (.lf [])))) (.nd (ty28) (.nd (noTI) (.nd (ty76) (.nd (ty140) (.lf []) (.lf [])) (.lf [])) (.lf [])) (.nd (ty60) (.nd (ty92) (.lf []) (.lf [])) (.lf []))))) (.nd (ty6) (.nd (ty10) (.nd (ty18) (.nd (ty34) (.nd (ty66) (.lf []) (.lf [])) (.nd (ty98) (.lf []) (.lf []))) (.nd (ty50) (.nd (ty82) (.lf []) (.lf [])) (.nd (noTI) (.lf []) (.nd (ty242) (.lf []) (.lf []))))) (.nd (ty26) (.nd (ty42) (.nd (ty74) (.lf []) (.lf [])) (.nd (noTI) (.nd (noTI) (.lf [(0, ty298)]) (.lf [])) (.lf []))) (.nd (ty58) (.lf []) (.lf [])))) (.nd (ty14) (.nd (ty22) (.nd (noTI) (.nd (ty70) (.lf []) (.lf [])) (.lf [])) (.nd (ty54) (.lf []) (.nd (noTI) (.lf []) (.nd (noTI) (.lf [(0, ty374)]) (.lf []))))) (.nd (ty30) (.nd (ty46) (.nd (noTI) (.nd (ty142) (.lf []) (.lf [])) (.lf [])) (.nd (ty110) (.lf []) (.lf []))) (.nd (ty62) (.nd (ty94) (.lf []) (.lf [])) (.nd (noTI) (.nd (ty190) (.lf [(0, ty318)]) (.lf [])) (.nd (noTI) (.lf [(0, ty382)]) (.lf []))))))))
noncomputable def tt (t : Nat) : TI := ttT.get noTI t

def g0 : TT → SV := fun T => T.a.a.a.a
noncomputable def s0 : SV → TT → TT := fun v T => TT.pa (Q3.pa (Q2.pa Q1.pa)) v T
def g1 : TT → SV := fun T => T.a.a.a.b
noncomputable def s1 : SV → TT → TT := fun v T => TT.pa (Q3.pa (Q2.pa Q1.pb)) v T
def g2 : TT → SV := fun T => T.a.a.a.c
noncomputable def s2 : SV → TT → TT := fun v T => TT.pa (Q3.pa (Q2.pa Q1.pc)) v T
def g3 : TT → SV := fun T => T.a.a.a.d
noncomputable def s3 : SV → TT → TT := fun v T => TT.pa (Q3.pa (Q2.pa Q1.pd)) v T
def g4 : TT → SV := fun T => T.a.a.b.a
noncomputable def s4 : SV → TT → TT := fun v T => TT.pa (Q3.pa (Q2.pb Q1.pa)) v T
def g5 : TT → SV := fun T => T.a.a.b.b
noncomputable def s5 : SV → TT → TT := fun v T => TT.pa (Q3.pa (Q2.pb Q1.pb)) v T
def g6 : TT → SV := fun T => T.a.a.b.c
noncomputable def s6 : SV → TT → TT := fun v T => TT.pa (Q3.pa (Q2.pb Q1.pc)) v T
def g7 : TT → SV := fun T => T.a.a.b.d
noncomputable def s7 : SV → TT → TT := fun v T => TT.pa (Q3.pa (Q2.pb Q1.pd)) v T
def g8 : TT → SV := fun T => T.a.a.c.a
noncomputable def s8 : SV → TT → TT := fun v T => TT.pa (Q3.pa (Q2.pc Q1.pa)) v T
def g9 : TT → SV := fun T => T.a.a.c.b
noncomputable def s9 : SV → TT → TT := fun v T => TT.pa (Q3.pa (Q2.pc Q1.pb)) v T
def g10 : TT → SV := fun T => T.a.a.c.c
noncomputable def s10 : SV → TT → TT := fun v T => TT.pa (Q3.pa (Q2.pc Q1.pc)) v T
def g11 : TT → SV := fun T => T.a.a.c.d
noncomputable def s11 : SV → TT → TT := fun v T => TT.pa (Q3.pa (Q2.pc Q1.pd)) v T
def g12 : TT → SV := fun T => T.a.a.d.a
noncomputable def s12 : SV → TT → TT := fun v T => TT.pa (Q3.pa (Q2.pd Q1.pa)) v T
def g13 : TT → SV := fun T => T.a.a.d.b
noncomputable def s13 : SV → TT → TT := fun v T => TT.pa (Q3.pa (Q2.pd Q1.pb)) v T
def g14 : TT → SV := fun T => T.a.a.d.c
noncomputable def s14 : SV → TT → TT := fun v T => TT.pa (Q3.pa (Q2.pd Q1.pc)) v T
def g15 : TT → SV := fun T => T.a.a.d.d
noncomputable def s15 : SV → TT → TT := fun v T => TT.pa (Q3.pa (Q2.pd Q1.pd)) v T
def g16 : TT → SV := fun T => T.a.b.a.a
noncomputable def s16 : SV → TT → TT := fun v T => TT.pa (Q3.pb (Q2.pa Q1.pa)) v T
def g17 : TT → SV := fun T => T.a.b.a.b
noncomputable def s17 : SV → TT → TT := fun v T => TT.pa (Q3.pb (Q2.pa Q1.pb)) v T
def g18 : TT → SV := fun T => T.a.b.a.c
noncomputable def s18 : SV → TT → TT := fun v T => TT.pa (Q3.pb (Q2.pa Q1.pc)) v T
def g19 : TT → SV := fun T => T.a.b.a.d
noncomputable def s19 : SV → TT → TT := fun v T => TT.pa (Q3.pb (Q2.pa Q1.pd)) v T
def g20 : TT → SV := fun T => T.a.b.b.a
noncomputable def s20 : SV → TT → TT := fun v T => TT.pa (Q3.pb (Q2.pb Q1.pa)) v T
def g21 : TT → SV := fun T => T.a.b.b.b
noncomputable def s21 : SV → TT → TT := fun v T => TT.pa (Q3.pb (Q2.pb Q1.pb)) v T
def g22 : TT → SV := fun T => T.a.b.b.c
noncomputable def s22 : SV → TT → TT := fun v T => TT.pa (Q3.pb (Q2.pb Q1.pc)) v T
def g23 : TT → SV := fun T => T.a.b.b.d
noncomputable def s23 : SV → TT → TT := fun v T => TT.pa (Q3.pb (Q2.pb Q1.pd)) v T
def g24 : TT → SV := fun T => T.a.b.c.a
noncomputable def s24 : SV → TT → TT := fun v T => TT.pa (Q3.pb (Q2.pc Q1.pa)) v T
def g25 : TT → SV := fun T => T.a.b.c.b
noncomputable def s25 : SV → TT → TT := fun v T => TT.pa (Q3.pb (Q2.pc Q1.pb)) v T
def g26 : TT → SV := fun T => T.a.b.c.c
noncomputable def s26 : SV → TT → TT := fun v T => TT.pa (Q3.pb (Q2.pc Q1.pc)) v T
def g27 : TT → SV := fun T => T.a.b.c.d
noncomputable def s27 : SV → TT → TT := fun v T => TT.pa (Q3.pb (Q2.pc Q1.pd)) v T
def g28 : TT → SV := fun T => T.a.b.d.a
noncomputable def s28 : SV → TT → TT := fun v T => TT.pa (Q3.pb (Q2.pd Q1.pa)) v T
def g29 : TT → SV := fun T => T.a.b.d.b
noncomputable def s29 : SV → TT → TT := fun v T => TT.pa (Q3.pb (Q2.pd Q1.pb)) v T
def g30 : TT → SV := fun T => T.a.b.d.c
noncomputable def s30 : SV → TT → TT := fun v T => TT.pa (Q3.pb (Q2.pd Q1.pc)) v T
def g31 : TT → SV := fun T => T.a.b.d.d
noncomputable def s31 : SV → TT → TT := fun v T => TT.pa (Q3.pb (Q2.pd Q1.pd)) v T
def g32 : TT → SV := fun T => T.a.c.a.a
noncomputable def s32 : SV → TT → TT := fun v T => TT.pa (Q3.pc (Q2.pa Q1.pa)) v T
def g33 : TT → SV := fun T => T.a.c.a.b
noncomputable def s33 : SV → TT → TT := fun v T => TT.pa (Q3.pc (Q2.pa Q1.pb)) v T
def g34 : TT → SV := fun T => T.a.c.a.c
noncomputable def s34 : SV → TT → TT := fun v T => TT.pa (Q3.pc (Q2.pa Q1.pc)) v T
def g35 : TT → SV := fun T => T.a.c.a.d
noncomputable def s35 : SV → TT → TT := fun v T => TT.pa (Q3.pc (Q2.pa Q1.pd)) v T
def g36 : TT → SV := fun T => T.a.c.b.a
noncomputable def s36 : SV → TT → TT := fun v T => TT.pa (Q3.pc (Q2.pb Q1.pa)) v T
def g37 : TT → SV := fun T => T.a.c.b.b
noncomputable def s37 : SV → TT → TT := fun v T => TT.pa (Q3.pc (Q2.pb Q1.pb)) v T
def g38 : TT → SV := fun T => T.a.c.b.c
noncomputable def s38 : SV → TT → TT := fun v T => TT.pa (Q3.pc (Q2.pb Q1.pc)) v T
def g39 : TT → SV := fun T => T.a.c.b.d
noncomputable def s39 : SV → TT → TT := fun v T => TT.pa (Q3.pc (Q2.pb Q1.pd)) v T
def g40 : TT → SV := fun T => T.a.c.c.a
noncomputable def s40 : SV → TT → TT := fun v T => TT.pa (Q3.pc (Q2.pc Q1.pa)) v T
def g41 : TT → SV := fun T => T.a.c.c.b
noncomputable def s41 : SV → TT → TT := fun v T => TT.pa (Q3.pc (Q2.pc Q1.pb)) v T
def g42 : TT → SV := fun T => T.a.c.c.c
noncomputable def s42 : SV → TT → TT := fun v T => TT.pa (Q3.pc (Q2.pc Q1.pc)) v T
def g43 : TT → SV := fun T => T.a.c.c.d
noncomputable def s43 : SV → TT → TT := fun v T => TT.pa (Q3.pc (Q2.pc Q1.pd)) v T
def g44 : TT → SV := fun T => T.a.c.d.a
noncomputable def s44 : SV → TT → TT := fun v T => TT.pa (Q3.pc (Q2.pd Q1.pa)) v T
def g45 : TT → SV := fun T => T.a.c.d.b
noncomputable def s45 : SV → TT → TT := fun v T => TT.pa (Q3.pc (Q2.pd Q1.pb)) v T
def g46 : TT → SV := fun T => T.a.c.d.c
noncomputable def s46 : SV → TT → TT := fun v T => TT.pa (Q3.pc (Q2.pd Q1.pc)) v T
def g47 : TT → SV := fun T => T.a.c.d.d
noncomputable def s47 : SV → TT → TT := fun v T => TT.pa (Q3.pc (Q2.pd Q1.pd)) v T
def g48 : TT → SV := fun T => T.a.d.a.a
noncomputable def s48 : SV → TT → TT := fun v T => TT.pa (Q3.pd (Q2.pa Q1.pa)) v T
def g49 : TT → SV := fun T => T.a.d.a.b
noncomputable def s49 : SV → TT → TT := fun v T => TT.pa (Q3.pd (Q2.pa Q1.pb)) v T
def g50 : TT → SV := fun T => T.a.d.a.c
noncomputable def s50 : SV → TT → TT := fun v T => TT.pa (Q3.pd (Q2.pa Q1.pc)) v T
def g51 : TT → SV := fun T => T.a.d.a.d
noncomputable def s51 : SV → TT → TT := fun v T => TT.pa (Q3.pd (Q2.pa Q1.pd)) v T
def g52 : TT → SV := fun T => T.a.d.b.a
noncomputable def s52 : SV → TT → TT := fun v T => TT.pa (Q3.pd (Q2.pb Q1.pa)) v T
def g53 : TT → SV := fun T => T.a.d.b.b
noncomputable def s53 : SV → TT → TT := fun v T => TT.pa (Q3.pd (Q2.pb Q1.pb)) v T
def g54 : TT → SV := fun T => T.a.d.b.c
noncomputable def s54 : SV → TT → TT := fun v T => TT.pa (Q3.pd (Q2.pb Q1.pc)) v T
def g55 : TT → SV := fun T => T.a.d.b.d
noncomputable def s55 : SV → TT → TT := fun v T => TT.pa (Q3.pd (Q2.pb Q1.pd)) v T
def g56 : TT → SV := fun T => T.a.d.c.a
noncomputable def s56 : SV → TT → TT := fun v T => TT.pa (Q3.pd (Q2.pc Q1.pa)) v T
def g57 : TT → SV := fun T => T.a.d.c.b
noncomputable def s57 : SV → TT → TT := fun v T => TT.pa (Q3.pd (Q2.pc Q1.pb)) v T
def g58 : TT → SV := fun T => T.a.d.c.c
noncomputable def s58 : SV → TT → TT := fun v T => TT.pa (Q3.pd (Q2.pc Q1.pc)) v T
def g59 : TT → SV := fun T => T.a.d.c.d
noncomputable def s59 : SV → TT → TT := fun v T => TT.pa (Q3.pd (Q2.pc Q1.pd)) v T
def g60 : TT → SV := fun T => T.a.d.d.a
noncomputable def s60 : SV → TT → TT := fun v T => TT.pa (Q3.pd (Q2.pd Q1.pa)) v T
def g61 : TT → SV := fun T => T.a.d.d.b
noncomputable def s61 : SV → TT → TT := fun v T => TT.pa (Q3.pd (Q2.pd Q1.pb)) v T
def g62 : TT → SV := fun T => T.a.d.d.c
noncomputable def s62 : SV → TT → TT := fun v T => TT.pa (Q3.pd (Q2.pd Q1.pc)) v T
def g63 : TT → SV := fun T => T.a.d.d.d
noncomputable def s63 : SV → TT → TT := fun v T => TT.pa (Q3.pd (Q2.pd Q1.pd)) v T
def g64 : TT → SV := fun T => T.b.a.a.a
noncomputable def s64 : SV → TT → TT := fun v T => TT.pb (Q3.pa (Q2.pa Q1.pa)) v T
def g65 : TT → SV := fun T => T.b.a.a.b
noncomputable def s65 : SV → TT → TT := fun v T => TT.pb (Q3.pa (Q2.pa Q1.pb)) v T
def g66 : TT → SV := fun T => T.b.a.a.c
noncomputable def s66 : SV → TT → TT := fun v T => TT.pb (Q3.pa (Q2.pa Q1.pc)) v T
def g67 : TT → SV := fun T => T.b.a.a.d
noncomputable def s67 : SV → TT → TT := fun v T => TT.pb (Q3.pa (Q2.pa Q1.pd)) v T
def g68 : TT → SV := fun T => T.b.a.b.a
noncomputable def s68 : SV → TT → TT := fun v T => TT.pb (Q3.pa (Q2.pb Q1.pa)) v T
def g69 : TT → SV := fun T => T.b.a.b.b
noncomputable def s69 : SV → TT → TT := fun v T => TT.pb (Q3.pa (Q2.pb Q1.pb)) v T
def g70 : TT → SV := fun T => T.b.a.b.c
noncomputable def s70 : SV → TT → TT := fun v T => TT.pb (Q3.pa (Q2.pb Q1.pc)) v T
def g71 : TT → SV := fun T => T.b.a.b.d
noncomputable def s71 : SV → TT → TT := fun v T => TT.pb (Q3.pa (Q2.pb Q1.pd)) v T
def g72 : TT → SV := fun T => T.b.a.c.a
noncomputable def s72 : SV → TT → TT := fun v T => TT.pb (Q3.pa (Q2.pc Q1.pa)) v T
def g73 : TT → SV := fun T => T.b.a.c.b
noncomputable def s73 : SV → TT → TT := fun v T => TT.pb (Q3.pa (Q2.pc Q1.pb)) v T
def g74 : TT → SV := fun T => T.b.a.c.c
noncomputable def s74 : SV → TT → TT := fun v T => TT.pb (Q3.pa (Q2.pc Q1.pc)) v T
def g75 : TT → SV := fun T => T.b.a.c.d
noncomputable def s75 : SV → TT → TT := fun v T => TT.pb (Q3.pa (Q2.pc Q1.pd)) v T
def g76 : TT → SV := fun T => T.b.a.d.a
noncomputable def s76 : SV → TT → TT := fun v T => TT.pb (Q3.pa (Q2.pd Q1.pa)) v T
def g77 : TT → SV := fun T => T.b.a.d.b
noncomputable def s77 : SV → TT → TT := fun v T => TT.pb (Q3.pa (Q2.pd Q1.pb)) v T
def g78 : TT → SV := fun T => T.b.a.d.c
noncomputable def s78 : SV → TT → TT := fun v T => TT.pb (Q3.pa (Q2.pd Q1.pc)) v T
def g79 : TT → SV := fun T => T.b.a.d.d
noncomputable def s79 : SV → TT → TT := fun v T => TT.pb (Q3.pa (Q2.pd Q1.pd)) v T
def g80 : TT → SV := fun T => T.b.b.a.a
noncomputable def s80 : SV → TT → TT := fun v T => TT.pb (Q3.pb (Q2.pa Q1.pa)) v T
def g81 : TT → SV := fun T => T.b.b.a.b
noncomputable def s81 : SV → TT → TT := fun v T => TT.pb (Q3.pb (Q2.pa Q1.pb)) v T
def g82 : TT → SV := fun T => T.b.b.a.c
noncomputable def s82 : SV → TT → TT := fun v T => TT.pb (Q3.pb (Q2.pa Q1.pc)) v T
def g83 : TT → SV := fun T => T.b.b.a.d
noncomputable def s83 : SV → TT → TT := fun v T => TT.pb (Q3.pb (Q2.pa Q1.pd)) v T
def g84 : TT → SV := fun T => T.b.b.b.a
noncomputable def s84 : SV → TT → TT := fun v T => TT.pb (Q3.pb (Q2.pb Q1.pa)) v T
def g85 : TT → SV := fun T => T.b.b.b.b
noncomputable def s85 : SV → TT → TT := fun v T => TT.pb (Q3.pb (Q2.pb Q1.pb)) v T
def g86 : TT → SV := fun T => T.b.b.b.c
noncomputable def s86 : SV → TT → TT := fun v T => TT.pb (Q3.pb (Q2.pb Q1.pc)) v T
def g87 : TT → SV := fun T => T.b.b.b.d
noncomputable def s87 : SV → TT → TT := fun v T => TT.pb (Q3.pb (Q2.pb Q1.pd)) v T
def g88 : TT → SV := fun T => T.b.b.c.a
noncomputable def s88 : SV → TT → TT := fun v T => TT.pb (Q3.pb (Q2.pc Q1.pa)) v T
def g89 : TT → SV := fun T => T.b.b.c.b
noncomputable def s89 : SV → TT → TT := fun v T => TT.pb (Q3.pb (Q2.pc Q1.pb)) v T
def g90 : TT → SV := fun T => T.b.b.c.c
noncomputable def s90 : SV → TT → TT := fun v T => TT.pb (Q3.pb (Q2.pc Q1.pc)) v T
def g91 : TT → SV := fun T => T.b.b.c.d
noncomputable def s91 : SV → TT → TT := fun v T => TT.pb (Q3.pb (Q2.pc Q1.pd)) v T
def g92 : TT → SV := fun T => T.b.b.d.a
noncomputable def s92 : SV → TT → TT := fun v T => TT.pb (Q3.pb (Q2.pd Q1.pa)) v T
def g93 : TT → SV := fun T => T.b.b.d.b
noncomputable def s93 : SV → TT → TT := fun v T => TT.pb (Q3.pb (Q2.pd Q1.pb)) v T
def g94 : TT → SV := fun T => T.b.b.d.c
noncomputable def s94 : SV → TT → TT := fun v T => TT.pb (Q3.pb (Q2.pd Q1.pc)) v T
def g95 : TT → SV := fun T => T.b.b.d.d
noncomputable def s95 : SV → TT → TT := fun v T => TT.pb (Q3.pb (Q2.pd Q1.pd)) v T
def g96 : TT → SV := fun T => T.b.c.a.a
noncomputable def s96 : SV → TT → TT := fun v T => TT.pb (Q3.pc (Q2.pa Q1.pa)) v T
def g97 : TT → SV := fun T => T.b.c.a.b
noncomputable def s97 : SV → TT → TT := fun v T => TT.pb (Q3.pc (Q2.pa Q1.pb)) v T
def g98 : TT → SV := fun T => T.b.c.a.c
noncomputable def s98 : SV → TT → TT := fun v T => TT.pb (Q3.pc (Q2.pa Q1.pc)) v T
def g99 : TT → SV := fun T => T.b.c.a.d
noncomputable def s99 : SV → TT → TT := fun v T => TT.pb (Q3.pc (Q2.pa Q1.pd)) v T
def g100 : TT → SV := fun T => T.b.c.b.a
noncomputable def s100 : SV → TT → TT := fun v T => TT.pb (Q3.pc (Q2.pb Q1.pa)) v T
def g101 : TT → SV := fun T => T.b.c.b.b
noncomputable def s101 : SV → TT → TT := fun v T => TT.pb (Q3.pc (Q2.pb Q1.pb)) v T
def g102 : TT → SV := fun T => T.b.c.b.c
noncomputable def s102 : SV → TT → TT := fun v T => TT.pb (Q3.pc (Q2.pb Q1.pc)) v T
def g103 : TT → SV := fun T => T.b.c.b.d
noncomputable def s103 : SV → TT → TT := fun v T => TT.pb (Q3.pc (Q2.pb Q1.pd)) v T
def g104 : TT → SV := fun T => T.b.c.c.a
noncomputable def s104 : SV → TT → TT := fun v T => TT.pb (Q3.pc (Q2.pc Q1.pa)) v T
def g105 : TT → SV := fun T => T.b.c.c.b
noncomputable def s105 : SV → TT → TT := fun v T => TT.pb (Q3.pc (Q2.pc Q1.pb)) v T
def g106 : TT → SV := fun T => T.b.c.c.c
noncomputable def s106 : SV → TT → TT := fun v T => TT.pb (Q3.pc (Q2.pc Q1.pc)) v T
def g107 : TT → SV := fun T => T.b.c.c.d
noncomputable def s107 : SV → TT → TT := fun v T => TT.pb (Q3.pc (Q2.pc Q1.pd)) v T
def g108 : TT → SV := fun T => T.b.c.d.a
noncomputable def s108 : SV → TT → TT := fun v T => TT.pb (Q3.pc (Q2.pd Q1.pa)) v T
def g109 : TT → SV := fun T => T.b.c.d.b
noncomputable def s109 : SV → TT → TT := fun v T => TT.pb (Q3.pc (Q2.pd Q1.pb)) v T
def g110 : TT → SV := fun T => T.b.c.d.c
noncomputable def s110 : SV → TT → TT := fun v T => TT.pb (Q3.pc (Q2.pd Q1.pc)) v T
def g111 : TT → SV := fun T => T.b.c.d.d
noncomputable def s111 : SV → TT → TT := fun v T => TT.pb (Q3.pc (Q2.pd Q1.pd)) v T
def g112 : TT → SV := fun T => T.b.d.a.a
noncomputable def s112 : SV → TT → TT := fun v T => TT.pb (Q3.pd (Q2.pa Q1.pa)) v T
def g113 : TT → SV := fun T => T.b.d.a.b
noncomputable def s113 : SV → TT → TT := fun v T => TT.pb (Q3.pd (Q2.pa Q1.pb)) v T
def g114 : TT → SV := fun T => T.b.d.a.c
noncomputable def s114 : SV → TT → TT := fun v T => TT.pb (Q3.pd (Q2.pa Q1.pc)) v T
def g115 : TT → SV := fun T => T.b.d.a.d
noncomputable def s115 : SV → TT → TT := fun v T => TT.pb (Q3.pd (Q2.pa Q1.pd)) v T
def g116 : TT → SV := fun T => T.b.d.b.a
noncomputable def s116 : SV → TT → TT := fun v T => TT.pb (Q3.pd (Q2.pb Q1.pa)) v T
def g117 : TT → SV := fun T => T.b.d.b.b
noncomputable def s117 : SV → TT → TT := fun v T => TT.pb (Q3.pd (Q2.pb Q1.pb)) v T
def g118 : TT → SV := fun T => T.b.d.b.c
noncomputable def s118 : SV → TT → TT := fun v T => TT.pb (Q3.pd (Q2.pb Q1.pc)) v T
def g119 : TT → SV := fun T => T.b.d.b.d
noncomputable def s119 : SV → TT → TT := fun v T => TT.pb (Q3.pd (Q2.pb Q1.pd)) v T
def g120 : TT → SV := fun T => T.b.d.c.a
noncomputable def s120 : SV → TT → TT := fun v T => TT.pb (Q3.pd (Q2.pc Q1.pa)) v T
def g121 : TT → SV := fun T => T.b.d.c.b
noncomputable def s121 : SV → TT → TT := fun v T => TT.pb (Q3.pd (Q2.pc Q1.pb)) v T
def g122 : TT → SV := fun T => T.b.d.c.c
noncomputable def s122 : SV → TT → TT := fun v T => TT.pb (Q3.pd (Q2.pc Q1.pc)) v T
def g123 : TT → SV := fun T => T.b.d.c.d
noncomputable def s123 : SV → TT → TT := fun v T => TT.pb (Q3.pd (Q2.pc Q1.pd)) v T
def g124 : TT → SV := fun T => T.b.d.d.a
noncomputable def s124 : SV → TT → TT := fun v T => TT.pb (Q3.pd (Q2.pd Q1.pa)) v T
def g125 : TT → SV := fun T => T.b.d.d.b
noncomputable def s125 : SV → TT → TT := fun v T => TT.pb (Q3.pd (Q2.pd Q1.pb)) v T
def g126 : TT → SV := fun T => T.b.d.d.c
noncomputable def s126 : SV → TT → TT := fun v T => TT.pb (Q3.pd (Q2.pd Q1.pc)) v T
def g127 : TT → SV := fun T => T.b.d.d.d
noncomputable def s127 : SV → TT → TT := fun v T => TT.pb (Q3.pd (Q2.pd Q1.pd)) v T
def g128 : TT → SV := fun T => T.c.a.a.a
noncomputable def s128 : SV → TT → TT := fun v T => TT.pc (Q3.pa (Q2.pa Q1.pa)) v T
def g129 : TT → SV := fun T => T.c.a.a.b
noncomputable def s129 : SV → TT → TT := fun v T => TT.pc (Q3.pa (Q2.pa Q1.pb)) v T
def g130 : TT → SV := fun T => T.c.a.a.c
noncomputable def s130 : SV → TT → TT := fun v T => TT.pc (Q3.pa (Q2.pa Q1.pc)) v T
def g131 : TT → SV := fun T => T.c.a.a.d
noncomputable def s131 : SV → TT → TT := fun v T => TT.pc (Q3.pa (Q2.pa Q1.pd)) v T
def g132 : TT → SV := fun T => T.c.a.b.a
noncomputable def s132 : SV → TT → TT := fun v T => TT.pc (Q3.pa (Q2.pb Q1.pa)) v T
def g133 : TT → SV := fun T => T.c.a.b.b
noncomputable def s133 : SV → TT → TT := fun v T => TT.pc (Q3.pa (Q2.pb Q1.pb)) v T
def g134 : TT → SV := fun T => T.c.a.b.c
noncomputable def s134 : SV → TT → TT := fun v T => TT.pc (Q3.pa (Q2.pb Q1.pc)) v T
def g135 : TT → SV := fun T => T.c.a.b.d
noncomputable def s135 : SV → TT → TT := fun v T => TT.pc (Q3.pa (Q2.pb Q1.pd)) v T
def g136 : TT → SV := fun T => T.c.a.c.a
noncomputable def s136 : SV → TT → TT := fun v T => TT.pc (Q3.pa (Q2.pc Q1.pa)) v T
def g137 : TT → SV := fun T => T.c.a.c.b
noncomputable def s137 : SV → TT → TT := fun v T => TT.pc (Q3.pa (Q2.pc Q1.pb)) v T
def g138 : TT → SV := fun T => T.c.a.c.c
noncomputable def s138 : SV → TT → TT := fun v T => TT.pc (Q3.pa (Q2.pc Q1.pc)) v T
def g139 : TT → SV := fun T => T.c.a.c.d
noncomputable def s139 : SV → TT → TT := fun v T => TT.pc (Q3.pa (Q2.pc Q1.pd)) v T
def g140 : TT → SV := fun T => T.c.a.d.a
noncomputable def s140 : SV → TT → TT := fun v T => TT.pc (Q3.pa (Q2.pd Q1.pa)) v T
def g141 : TT → SV := fun T => T.c.a.d.b
noncomputable def s141 : SV → TT → TT := fun v T => TT.pc (Q3.pa (Q2.pd Q1.pb)) v T
def g142 : TT → SV := fun T => T.c.a.d.c
noncomputable def s142 : SV → TT → TT := fun v T => TT.pc (Q3.pa (Q2.pd Q1.pc)) v T
def g143 : TT → SV := fun T => T.c.a.d.d
noncomputable def s143 : SV → TT → TT := fun v T => TT.pc (Q3.pa (Q2.pd Q1.pd)) v T
def g144 : TT → SV := fun T => T.c.b.a.a
noncomputable def s144 : SV → TT → TT := fun v T => TT.pc (Q3.pb (Q2.pa Q1.pa)) v T
def g145 : TT → SV := fun T => T.c.b.a.b
noncomputable def s145 : SV → TT → TT := fun v T => TT.pc (Q3.pb (Q2.pa Q1.pb)) v T
def g146 : TT → SV := fun T => T.c.b.a.c
noncomputable def s146 : SV → TT → TT := fun v T => TT.pc (Q3.pb (Q2.pa Q1.pc)) v T
def g147 : TT → SV := fun T => T.c.b.a.d
noncomputable def s147 : SV → TT → TT := fun v T => TT.pc (Q3.pb (Q2.pa Q1.pd)) v T
def g148 : TT → SV := fun T => T.c.b.b.a
noncomputable def s148 : SV → TT → TT := fun v T => TT.pc (Q3.pb (Q2.pb Q1.pa)) v T
def g149 : TT → SV := fun T => T.c.b.b.b
noncomputable def s149 : SV → TT → TT := fun v T => TT.pc (Q3.pb (Q2.pb Q1.pb)) v T
def g150 : TT → SV := fun T => T.c.b.b.c
noncomputable def s150 : SV → TT → TT := fun v T => TT.pc (Q3.pb (Q2.pb Q1.pc)) v T
def g151 : TT → SV := fun T => T.c.b.b.d
noncomputable def s151 : SV → TT → TT := fun v T => TT.pc (Q3.pb (Q2.pb Q1.pd)) v T
def g152 : TT → SV := fun T => T.c.b.c.a
noncomputable def s152 : SV → TT → TT := fun v T => TT.pc (Q3.pb (Q2.pc Q1.pa)) v T
def g153 : TT → SV := fun T => T.c.b.c.b
noncomputable def s153 : SV → TT → TT := fun v T => TT.pc (Q3.pb (Q2.pc Q1.pb)) v T
def g154 : TT → SV := fun T => T.c.b.c.c
noncomputable def s154 : SV → TT → TT := fun v T => TT.pc (Q3.pb (Q2.pc Q1.pc)) v T
def g155 : TT → SV := fun T => T.c.b.c.d
noncomputable def s155 : SV → TT → TT := fun v T => TT.pc (Q3.pb (Q2.pc Q1.pd)) v T
def g156 : TT → SV := fun T => T.c.b.d.a
noncomputable def s156 : SV → TT → TT := fun v T => TT.pc (Q3.pb (Q2.pd Q1.pa)) v T
def g157 : TT → SV := fun T => T.c.b.d.b
noncomputable def s157 : SV → TT → TT := fun v T => TT.pc (Q3.pb (Q2.pd Q1.pb)) v T
def g158 : TT → SV := fun T => T.c.b.d.c
noncomputable def s158 : SV → TT → TT := fun v T => TT.pc (Q3.pb (Q2.pd Q1.pc)) v T
def g159 : TT → SV := fun T => T.c.b.d.d
noncomputable def s159 : SV → TT → TT := fun v T => TT.pc (Q3.pb (Q2.pd Q1.pd)) v T
def odT : Tr (Option Od) := .nd (some (.t 0 g0)) (.nd (some (.t 1 g1)) (.nd (some (.t 3 g3)) (.nd (some (.t 7 g7)) (.nd (some (.t 15 g15)) (.nd (some (.t 31 g31)) (.nd (some (.t 63 g63)) (.lf [(0, some (.t 127 g127))]) (.lf [])) (.nd (some (.t 95 g95)) (.lf [(0, some (.t 159 g159))]) (.lf []))) (.nd (some (.t 47 g47)) (.nd (some (.t 79 g79)) (.lf [(0, some (.t 143 g143))]) (.lf [])) (.nd (some (.t 111 g111)) (.lf []) (.lf [])))) (.nd (some (.t 23 g23)) (.nd (some (.t 39 g39)) (.nd (some (.t 71 g71)) (.lf [(0, some (.t 135 g135))]) (.lf [])) (.nd (some (.t 103 g103)) (.lf []) (.lf []))) (.nd (some (.t 55 g55)) (.nd (some (.t 87 g87)) (.lf [(0, some (.t 151 g151))]) (.lf [])) (.nd (some (.t 119 g119)) (.lf []) (.lf []))))) (.nd (some (.t 11 g11)) (.nd (some (.t 19 g19)) (.nd (some (.t 35 g35)) (.nd (some (.t 67 g67)) (.lf [(0, some (.t 131 g131))]) (.lf [])) (.nd (some (.t 99 g99)) (.lf []) (.lf []))) (.nd (some (.t 51 g51)) (.nd (some (.t 83 g83)) (.lf [(0, some (.t 147 g147))]) (.lf [])) (.nd (some (.t 115 g115)) (.lf []) (.lf [])))) (.nd (some (.t 27 g27)) (.nd (some (.t 43 g43)) (.nd (some (.t 75 g75)) (.lf [(0, some (.t 139 g139))]) (.lf [])) (.nd (some (.t 107 g107)) (.lf []) (.lf []))) (.nd (some (.t 59 g59)) (.nd (some (.t 91 g91)) (.lf [(0, some (.t 155 g155))]) (.lf [])) (.nd (some (.t 123 g123)) (.lf []) (.lf [])))))) (.nd (some (.t 5 g5)) (.nd (some (.t 9 g9)) (.nd (some (.t 17 g17)) (.nd (some (.t 33 g33)) (.nd (some (.t 65 g65)) (.lf [(0, some (.t 129 g129))]) (.lf [])) (.nd (some (.t 97 g97)) (.lf []) (.lf []))) (.nd (some (.t 49 g49)) (.nd (some (.t 81 g81)) (.lf [(0, some (.t 145 g145))]) (.lf [])) (.nd (some (.t 113 g113)) (.lf []) (.lf [])))) (.nd (some (.t 25 g25)) (.nd (some (.t 41 g41)) (.nd (some (.t 73 g73)) (.lf [(0, some (.t 137 g137))]) (.lf [])) (.nd (some (.t 105 g105)) (.lf []) (.lf []))) (.nd (some (.t 57 g57)) (.nd (some (.t 89 g89)) (.lf [(0, some (.t 153 g153))]) (.lf [])) (.nd (some (.t 121 g121)) (.lf []) (.lf []))))) (.nd (some (.t 13 g13)) (.nd (some (.t 21 g21)) (.nd (some (.t 37 g37)) (.nd (some (.t 69 g69)) (.lf [(0, some (.t 133 g133))]) (.lf [])) (.nd (some (.t 101 g101)) (.lf []) (.lf []))) (.nd (some (.t 53 g53)) (.nd (some (.t 85 g85)) (.lf [(0, some (.t 149 g149))]) (.lf [])) (.nd (some (.t 117 g117)) (.lf []) (.lf [])))) (.nd (some (.t 29 g29)) (.nd (some (.t 45 g45)) (.nd (some (.t 77 g77)) (.lf [(0, some (.t 141 g141))]) (.lf [])) (.nd (some (.t 109 g109)) (.lf []) (.lf []))) (.nd (some (.t 61 g61)) (.nd (some (.t 93 g93)) (.lf [(0, some (.t 157 g157))]) (.lf [])) (.nd (some (.t 125 g125)) (.lf []) (.lf []))))))) (.nd (some (.t 2 g2)) (.nd (some (.t 4 g4)) (.nd (some (.t 8 g8)) (.nd (some (.t 16 g16)) (.nd (some (.t 32 g32)) (.nd (some (.t 64 g64)) (.lf [(0, some (.t 128 g128))]) (.lf [])) (.nd (some (.t 96 g96)) (.lf []) (.lf []))) (.nd (some (.t 48 g48)) (.nd (some (.t 80 g80)) (.lf [(0, some (.t 144 g144))]) (.lf [])) (.nd (some (.t 112 g112)) (.lf []) (.lf [])))) (.nd (some (.t 24 g24)) (.nd (some (.t 40 g40)) (.nd (some (.t 72 g72)) (.lf [(0, some (.t 136 g136))]) (.lf [])) (.nd (some (.t 104 g104)) (.lf []) (.lf []))) (.nd (some (.t 56 g56)) (.nd (some (.t 88 g88)) (.lf [(0, some (.t 152 g152))]) (.lf [])) (.nd (some (.t 120 g120)) (.lf []) (.lf []))))) (.nd (some (.t 12 g12)) (.nd (some (.t 20 g20)) (.nd (some (.t 36 g36)) (.nd (some (.t 68 g68)) (.lf [(0, some (.t 132 g132))]) (.lf [])) (.nd (some (.t 100 g100)) (.lf []) (.lf []))) (.nd (some (.t 52 g52)) (.nd (some (.t 84 g84)) (.lf [(0, some (.t 148 g148))]) (.lf [])) (.nd (some (.t 116 g116)) (.lf []) (.lf [])))) (.nd (some (.t 28 g28)) (.nd (some (.t 44 g44)) (.nd (some (.t 76 g76)) (.lf [(0, some (.t 140 g140))]) (.lf [])) (.nd (some (.t 108 g108)) (.lf []) (.lf []))) (.nd (some (.t 60 g60)) (.nd (some (.t 92 g92)) (.lf [(0, some (.t 156 g156))]) (.lf [])) (.nd (some (.t 124 g124)) (.lf []) (.lf [])))))) (.nd (some (.t 6 g6)) (.nd (some (.t 10 g10)) (.nd (some (.t 18 g18)) (.nd (some (.t 34 g34)) (.nd (some (.t 66 g66)) (.lf [(0, some (.t 130 g130))]) (.lf [])) (.nd (some (.t 98 g98)) (.lf []) (.lf []))) (.nd (some (.t 50 g50)) (.nd (some (.t 82 g82)) (.lf [(0, some (.t 146 g146))]) (.lf [])) (.nd (some (.t 114 g114)) (.lf []) (.lf [])))) (.nd (some (.t 26 g26)) (.nd (some (.t 42 g42)) (.nd (some (.t 74 g74)) (.lf [(0, some (.t 138 g138))]) (.lf [])) (.nd (some (.t 106 g106)) (.lf []) (.lf []))) (.nd (some (.t 58 g58)) (.nd (some (.t 90 g90)) (.lf [(0, some (.t 154 g154))]) (.lf [])) (.nd (some (.t 122 g122)) (.lf []) (.lf []))))) (.nd (some (.t 14 g14)) (.nd (some (.t 22 g22)) (.nd (some (.t 38 g38)) (.nd (some (.t 70 g70)) (.lf [(0, some (.t 134 g134))]) (.lf [])) (.nd (some (.t 102 g102)) (.lf []) (.lf []))) (.nd (some (.t 54 g54)) (.nd (some (.t 86 g86)) (.lf [(0, some (.t 150 g150))]) (.lf [])) (.nd (some (.t 118 g118)) (.lf []) (.lf [])))) (.nd (some (.t 30 g30)) (.nd (some (.t 46 g46)) (.nd (some (.t 78 g78)) (.lf [(0, some (.t 142 g142))]) (.lf [])) (.nd (some (.t 110 g110)) (.lf []) (.lf []))) (.nd (some (.t 62 g62)) (.nd (some (.t 94 g94)) (.lf [(0, some (.t 158 g158))]) (.lf [])) (.nd (some (.t 126 g126)) (.lf []) (.lf [])))))))
noncomputable def dsT : Tr (Option Ds) := .nd (some ⟨0, s0⟩) (.nd (some ⟨1, s1⟩) (.nd (some ⟨3, s3⟩) (.nd (some ⟨7, s7⟩) (.nd (some ⟨15, s15⟩) (.nd (some ⟨31, s31⟩) (.nd (some ⟨63, s63⟩) (.lf [(0, some ⟨127, s127⟩)]) (.lf [])) (.nd (some ⟨95, s95⟩) (.lf [(0, some ⟨159, s159⟩)]) (.lf []))) (.nd (some ⟨47, s47⟩) (.nd (some ⟨79, s79⟩) (.lf [(0, some ⟨143, s143⟩)]) (.lf [])) (.nd (some ⟨111, s111⟩) (.lf []) (.lf [])))) (.nd (some ⟨23, s23⟩) (.nd (some ⟨39, s39⟩) (.nd (some ⟨71, s71⟩) (.lf [(0, some ⟨135, s135⟩)]) (.lf [])) (.nd (some ⟨103, s103⟩) (.lf []) (.lf []))) (.nd (some ⟨55, s55⟩) (.nd (some ⟨87, s87⟩) (.lf [(0, some ⟨151, s151⟩)]) (.lf [])) (.nd (some ⟨119, s119⟩) (.lf []) (.lf []))))) (.nd (some ⟨11, s11⟩) (.nd (some ⟨19, s19⟩) (.nd (some ⟨35, s35⟩) (.nd (some ⟨67, s67⟩) (.lf [(0, some ⟨131, s131⟩)]) (.lf [])) (.nd (some ⟨99, s99⟩) (.lf []) (.lf []))) (.nd (some ⟨51, s51⟩) (.nd (some ⟨83, s83⟩) (.lf [(0, some ⟨147, s147⟩)]) (.lf [])) (.nd (some ⟨115, s115⟩) (.lf []) (.lf [])))) (.nd (some ⟨27, s27⟩) (.nd (some ⟨43, s43⟩) (.nd (some ⟨75, s75⟩) (.lf [(0, some ⟨139, s139⟩)]) (.lf [])) (.nd (some ⟨107, s107⟩) (.lf []) (.lf []))) (.nd (some ⟨59, s59⟩) (.nd (some ⟨91, s91⟩) (.lf [(0, some ⟨155, s155⟩)]) (.lf [])) (.nd (some ⟨123, s123⟩) (.lf []) (.lf [])))))) (.nd (some ⟨5, s5⟩) (.nd (some ⟨9, s9⟩) (.nd (some ⟨17, s17⟩) (.nd (some ⟨33, s33⟩) (.nd (some ⟨65, s65⟩) (.lf [(0, some ⟨129, s129⟩)]) (.lf [])) (.nd (some ⟨97, s97⟩) (.lf []) (.lf []))) (.nd (some ⟨49, s49⟩) (.nd (some ⟨81, s81⟩) (.lf [(0, some ⟨145, s145⟩)]) (.lf [])) (.nd (some ⟨113, s113⟩) (.lf []) (.lf [])))) (.nd (some ⟨25, s25⟩) (.nd (some ⟨41, s41⟩) (.nd (some ⟨73, s73⟩) (.lf [(0, some ⟨137, s137⟩)]) (.lf [])) (.nd (some ⟨105, s105⟩) (.lf []) (.lf []))) (.nd (some ⟨57, s57⟩) (.nd (some ⟨89, s89⟩) (.lf [(0, some ⟨153, s153⟩)]) (.lf [])) (.nd (some ⟨121, s121⟩) (.lf []) (.lf []))))) (.nd (some ⟨13, s13⟩) (.nd (some ⟨21, s21⟩) (.nd (some ⟨37, s37⟩) (.nd (some ⟨69, s69⟩) (.lf [(0, some ⟨133, s133⟩)]) (.lf [])) (.nd (some ⟨101, s101⟩) (.lf []) (.lf []))) (.nd (some ⟨53, s53⟩) (.nd (some ⟨85, s85⟩) (.lf [(0, some ⟨149, s149⟩)]) (.lf [])) (.nd (some ⟨117, s117⟩) (.lf []) (.lf [])))) (.nd (some ⟨29, s29⟩) (.nd (some ⟨45, s45⟩) (.nd (some ⟨77, s77⟩) (.lf [(0, some ⟨141, s141⟩)]) (.lf [])) (.nd (some ⟨109, s109⟩) (.lf []) (.lf []))) (.nd (some ⟨61, s61⟩) (.nd (some ⟨93, s93⟩) (.lf [(0, some ⟨157, s157⟩)]) (.lf [])) (.nd (some ⟨125, s125⟩) (.lf []) (.lf []))))))) (.nd (some ⟨2, s2⟩) (.nd (some ⟨4, s4⟩) (.nd (some ⟨8, s8⟩) (.nd (some ⟨16, s16⟩) (.nd (some ⟨32, s32⟩) (.nd (some ⟨64, s64⟩) (.lf [(0, some ⟨128, s128⟩)]) (.lf [])) (.nd (some ⟨96, s96⟩) (.lf []) (.lf []))) (.nd (some ⟨48, s48⟩) (.nd (some ⟨80, s80⟩) (.lf [(0, some ⟨144, s144⟩)]) (.lf [])) (.nd (some ⟨112, s112⟩) (.lf []) (.lf [])))) (.nd (some ⟨24, s24⟩) (.nd (some ⟨40, s40⟩) (.nd (some ⟨72, s72⟩) (.lf [(0, some ⟨136, s136⟩)]) (.lf [])) (.nd (some ⟨104, s104⟩) (.lf []) (.lf []))) (.nd (some ⟨56, s56⟩) (.nd (some ⟨88, s88⟩) (.lf [(0, some ⟨152, s152⟩)]) (.lf [])) (.nd (some ⟨120, s120⟩) (.lf []) (.lf []))))) (.nd (some ⟨12, s12⟩) (.nd (some ⟨20, s20⟩) (.nd (some ⟨36, s36⟩) (.nd (some ⟨68, s68⟩) (.lf [(0, some ⟨132, s132⟩)]) (.lf [])) (.nd (some ⟨100, s100⟩) (.lf []) (.lf []))) (.nd (some ⟨52, s52⟩) (.nd (some ⟨84, s84⟩) (.lf [(0, some ⟨148, s148⟩)]) (.lf [])) (.nd (some ⟨116, s116⟩) (.lf []) (.lf [])))) (.nd (some ⟨28, s28⟩) (.nd (some ⟨44, s44⟩) (.nd (some ⟨76, s76⟩) (.lf [(0, some ⟨140, s140⟩)]) (.lf [])) (.nd (some ⟨108, s108⟩) (.lf []) (.lf []))) (.nd (some ⟨60, s60⟩) (.nd (some ⟨92, s92⟩) (.lf [(0, some ⟨156, s156⟩)]) (.lf [])) (.nd (some ⟨124, s124⟩) (.lf []) (.lf [])))))) (.nd (some ⟨6, s6⟩) (.nd (some ⟨10, s10⟩) (.nd (some ⟨18, s18⟩) (.nd (some ⟨34, s34⟩) (.nd (some ⟨66, s66⟩) (.lf [(0, some ⟨130, s130⟩)]) (.lf [])) (.nd (some ⟨98, s98⟩) (.lf []) (.lf []))) (.nd (some ⟨50, s50⟩) (.nd (some ⟨82, s82⟩) (.lf [(0, some ⟨146, s146⟩)]) (.lf [])) (.nd (some ⟨114, s114⟩) (.lf []) (.lf [])))) (.nd (some ⟨26, s26⟩) (.nd (some ⟨42, s42⟩) (.nd (some ⟨74, s74⟩) (.lf [(0, some ⟨138, s138⟩)]) (.lf [])) (.nd (some ⟨106, s106⟩) (.lf []) (.lf []))) (.nd (some ⟨58, s58⟩) (.nd (some ⟨90, s90⟩) (.lf [(0, some ⟨154, s154⟩)]) (.lf [])) (.nd (some ⟨122, s122⟩) (.lf []) (.lf []))))) (.nd (some ⟨14, s14⟩) (.nd (some ⟨22, s22⟩) (.nd (some ⟨38, s38⟩) (.nd (some ⟨70, s70⟩) (.lf [(0, some ⟨134, s134⟩)]) (.lf [])) (.nd (some ⟨102, s102⟩) (.lf []) (.lf []))) (.nd (some ⟨54, s54⟩) (.nd (some ⟨86, s86⟩) (.lf [(0, some ⟨150, s150⟩)]) (.lf [])) (.nd (some ⟨118, s118⟩) (.lf []) (.lf [])))) (.nd (some ⟨30, s30⟩) (.nd (some ⟨46, s46⟩) (.nd (some ⟨78, s78⟩) (.lf [(0, some ⟨142, s142⟩)]) (.lf [])) (.nd (some ⟨110, s110⟩) (.lf []) (.lf []))) (.nd (some ⟨62, s62⟩) (.nd (some ⟨94, s94⟩) (.lf [(0, some ⟨158, s158⟩)]) (.lf [])) (.nd (some ⟨126, s126⟩) (.lf []) (.lf [])))))))
noncomputable def odG (n : Nat) : Option Od := odT.get none n
noncomputable def dsG (n : Nat) : Option Ds := dsT.get none n

end Go.Sy

namespace Go.Sy
open Go

noncomputable def fbG (D : Rg) (f : Func) : FB := match fbOf D odG dsG tt f with | some x => x | none => .nb
noncomputable def fb3 (D : Rg) : FB := fbG D Proofs.Tryz.f3
noncomputable def fb4 (D : Rg) : FB := fbG D Proofs.Tryz.f4
noncomputable def fb5 (D : Rg) : FB := fbG D Proofs.Tryz.f5
noncomputable def fb6 (D : Rg) : FB := fbG D Proofs.Tryz.f6
noncomputable def fb7 (D : Rg) : FB := fbG D Proofs.Tryz.f7
noncomputable def fb8 (D : Rg) : FB := fbG D Proofs.Tryz.f8
noncomputable def fb9 (D : Rg) : FB := fbG D Proofs.Tryz.f9
noncomputable def fb10 (D : Rg) : FB := fbG D Proofs.Tryz.f10
noncomputable def fb11 (D : Rg) : FB := fbG D Proofs.Tryz.f11
noncomputable def fb12 (D : Rg) : FB := fbG D Proofs.Tryz.f12
noncomputable def fb13 (D : Rg) : FB := fbG D Proofs.Tryz.f13
noncomputable def fb14 (D : Rg) : FB := fbG D Proofs.Tryz.f14
noncomputable def fb15 (D : Rg) : FB := fbG D Proofs.Tryz.f15
noncomputable def fb16 (D : Rg) : FB := fbG D Proofs.Tryz.f16
noncomputable def fb17 (D : Rg) : FB := fbG D Proofs.Tryz.f17
noncomputable def fb18 (D : Rg) : FB := fbG D Proofs.Tryz.f18
noncomputable def fb19 (D : Rg) : FB := fbG D Proofs.Tryz.f19
noncomputable def fb20 (D : Rg) : FB := fbG D Proofs.Tryz.f20
noncomputable def fb21 (D : Rg) : FB := fbG D Proofs.Tryz.f21
noncomputable def fb22 (D : Rg) : FB := fbG D Proofs.Tryz.f22
noncomputable def fb23 (D : Rg) : FB := fbG D Proofs.Tryz.f23
noncomputable def fb24 (D : Rg) : FB := fbG D Proofs.Tryz.f24
noncomputable def fb25 (D : Rg) : FB := fbG D Proofs.Tryz.f25
noncomputable def fb26 (D : Rg) : FB := fbG D Proofs.Tryz.f26
noncomputable def fb27 (D : Rg) : FB := fbG D Proofs.Tryz.f27
noncomputable def fb28 (D : Rg) : FB := fbG D Proofs.Tryz.f28
noncomputable def fb29 (D : Rg) : FB := fbG D Proofs.Tryz.f29
noncomputable def fb30 (D : Rg) : FB := fbG D Proofs.Tryz.f30
noncomputable def fb31 (D : Rg) : FB := fbG D Proofs.Tryz.f31
noncomputable def fb32 (D : Rg) : FB := fbG D Proofs.Tryz.f32
noncomputable def fb33 (D : Rg) : FB := fbG D Proofs.Tryz.f33
noncomputable def fb34 (D : Rg) : FB := fbG D Proofs.Tryz.f34
noncomputable def fb35 (D : Rg) : FB := fbG D Proofs.Tryz.f35
noncomputable def fb36 (D : Rg) : FB := fbG D Proofs.Tryz.f36
noncomputable def fb37 (D : Rg) : FB := fbG D Proofs.Tryz.f37
noncomputable def fb38 (D : Rg) : FB := fbG D Proofs.Tryz.f38
noncomputable def fb39 (D : Rg) : FB := fbG D Proofs.Tryz.f39
noncomputable def fb40 (D : Rg) : FB := fbG D Proofs.Tryz.f40
noncomputable def fb41 (D : Rg) : FB := fbG D Proofs.Tryz.f41
noncomputable def fb42 (D : Rg) : FB := fbG D Proofs.Tryz.f42
noncomputable def fb43 (D : Rg) : FB := fbG D Proofs.Tryz.f43
noncomputable def fb44 (D : Rg) : FB := fbG D Proofs.Tryz.f44
noncomputable def fb45 (D : Rg) : FB := fbG D Proofs.Tryz.f45
noncomputable def fb46 (D : Rg) : FB := fbG D Proofs.Tryz.f46
noncomputable def fb47 (D : Rg) : FB := fbG D Proofs.Tryz.f47
noncomputable def fb48 (D : Rg) : FB := fbG D Proofs.Tryz.f48
noncomputable def fb49 (D : Rg) : FB := fbG D Proofs.Tryz.f49
noncomputable def fb50 (D : Rg) : FB := fbG D Proofs.Tryz.f50
noncomputable def fb51 (D : Rg) : FB := fbG D Proofs.Tryz.f51
noncomputable def fb52 (D : Rg) : FB := fbG D Proofs.Tryz.f52
noncomputable def fb53 (D : Rg) : FB := fbG D Proofs.Tryz.f53
noncomputable def fb54 (D : Rg) : FB := fbG D Proofs.Tryz.f54
noncomputable def fb55 (D : Rg) : FB := fbG D Proofs.Tryz.f55
noncomputable def fb56 (D : Rg) : FB := fbG D Proofs.Tryz.f56
noncomputable def fb57 (D : Rg) : FB := fbG D Proofs.Tryz.f57
noncomputable def fb58 (D : Rg) : FB := fbG D Proofs.Tryz.f58
noncomputable def fb59 (D : Rg) : FB := fbG D Proofs.Tryz.f59
noncomputable def fb60 (D : Rg) : FB := fbG D Proofs.Tryz.f60
noncomputable def fb61 (D : Rg) : FB := fbG D Proofs.Tryz.f61
noncomputable def fb62 (D : Rg) : FB := fbG D Proofs.Tryz.f62
noncomputable def fb63 (D : Rg) : FB := fbG D Proofs.Tryz.f63
noncomputable def fb64 (D : Rg) : FB := fbG D Proofs.Tryz.f64
noncomputable def fb65 (D : Rg) : FB := fbG D Proofs.Tryz.f65
noncomputable def fb66 (D : Rg) : FB := fbG D Proofs.Tryz.f66
noncomputable def fb67 (D : Rg) : FB := fbG D Proofs.Tryz.f67
noncomputable def fb68 (D : Rg) : FB := fbG D Proofs.Tryz.f68
noncomputable def fb69 (D : Rg) : FB := fbG D Proofs.Tryz.f69
noncomputable def fb70 (D : Rg) : FB := fbG D Proofs.Tryz.f70
noncomputable def fb71 (D : Rg) : FB := fbG D Proofs.Tryz.f71
noncomputable def fb72 (D : Rg) : FB := fbG D Proofs.Tryz.f72
noncomputable def fb73 (D : Rg) : FB := fbG D Proofs.Tryz.f73
noncomputable def fb74 (D : Rg) : FB := fbG D Proofs.Tryz.f74
noncomputable def fb75 (D : Rg) : FB := fbG D Proofs.Tryz.f75
noncomputable def fb76 (D : Rg) : FB := fbG D Proofs.Tryz.f76
noncomputable def fb77 (D : Rg) : FB := fbG D Proofs.Tryz.f77
noncomputable def fb78 (D : Rg) : FB := fbG D Proofs.Tryz.f78
noncomputable def fb79 (D : Rg) : FB := fbG D Proofs.Tryz.f79
noncomputable def fb80 (D : Rg) : FB := fbG D Proofs.Tryz.f80
noncomputable def fb81 (D : Rg) : FB := fbG D Proofs.Tryz.f81
noncomputable def fb82 (D : Rg) : FB := fbG D Proofs.Tryz.f82
noncomputable def fb83 (D : Rg) : FB := fbG D Proofs.Tryz.f83
noncomputable def fb84 (D : Rg) : FB := fbG D Proofs.Tryz.f84
noncomputable def fb85 (D : Rg) : FB := fbG D Proofs.Tryz.f85
noncomputable def fb86 (D : Rg) : FB := fbG D Proofs.Tryz.f86
noncomputable def fb87 (D : Rg) : FB := fbG D Proofs.Tryz.f87
noncomputable def fb88 (D : Rg) : FB := fbG D Proofs.Tryz.f88
noncomputable def fb89 (D : Rg) : FB := fbG D Proofs.Tryz.f89
noncomputable def fb90 (D : Rg) : FB := fbG D Proofs.Tryz.f90
noncomputable def fb91 (D : Rg) : FB := fbG D Proofs.Tryz.f91
noncomputable def fb92 (D : Rg) : FB := fbG D Proofs.Tryz.f92
noncomputable def fb93 (D : Rg) : FB := fbG D Proofs.Tryz.f93
noncomputable def fb94 (D : Rg) : FB := fbG D Proofs.Tryz.f94
noncomputable def fb95 (D : Rg) : FB := fbG D Proofs.Tryz.f95
noncomputable def fb96 (D : Rg) : FB := fbG D Proofs.Tryz.f96
noncomputable def fb97 (D : Rg) : FB := fbG D Proofs.Tryz.f97
noncomputable def fb98 (D : Rg) : FB := fbG D Proofs.Tryz.f98
noncomputable def fb99 (D : Rg) : FB := fbG D Proofs.Tryz.f99
noncomputable def fb100 (D : Rg) : FB := fbG D Proofs.Tryz.f100
noncomputable def fb101 (D : Rg) : FB := fbG D Proofs.Tryz.f101
noncomputable def fb102 (D : Rg) : FB := fbG D Proofs.Tryz.f102
noncomputable def fb103 (D : Rg) : FB := fbG D Proofs.Tryz.f103
noncomputable def fb104 (D : Rg) : FB := fbG D Proofs.Tryz.f104
noncomputable def fb105 (D : Rg) : FB := fbG D Proofs.Tryz.f105
noncomputable def fb106 (D : Rg) : FB := fbG D Proofs.Tryz.f106
noncomputable def fb107 (D : Rg) : FB := fbG D Proofs.Tryz.f107
noncomputable def fb108 (D : Rg) : FB := fbG D Proofs.Tryz.f108
noncomputable def fb109 (D : Rg) : FB := fbG D Proofs.Tryz.f109
noncomputable def fb110 (D : Rg) : FB := fbG D Proofs.Tryz.f110
noncomputable def fb111 (D : Rg) : FB := fbG D Proofs.Tryz.f111
noncomputable def fb112 (D : Rg) : FB := fbG D Proofs.Tryz.f112
noncomputable def fb113 (D : Rg) : FB := fbG D Proofs.Tryz.f113
noncomputable def fb114 (D : Rg) : FB := fbG D Proofs.Tryz.f114
noncomputable def fb115 (D : Rg) : FB := fbG D Proofs.Tryz.f115
noncomputable def fb116 (D : Rg) : FB := fbG D Proofs.Tryz.f116
noncomputable def fb117 (D : Rg) : FB := fbG D Proofs.Tryz.f117
noncomputable def fb118 (D : Rg) : FB := fbG D Proofs.Tryz.f118
noncomputable def fb119 (D : Rg) : FB := fbG D Proofs.Tryz.f119
noncomputable def fb120 (D : Rg) : FB := fbG D Proofs.Tryz.f120
noncomputable def fb121 (D : Rg) : FB := fbG D Proofs.Tryz.f121
noncomputable def fb122 (D : Rg) : FB := fbG D Proofs.Tryz.f122
noncomputable def fb123 (D : Rg) : FB := fbG D Proofs.Tryz.f123
noncomputable def fb124 (D : Rg) : FB := fbG D Proofs.Tryz.f124
noncomputable def fb125 (D : Rg) : FB := fbG D Proofs.Tryz.f125
noncomputable def fb126 (D : Rg) : FB := fbG D Proofs.Tryz.f126
noncomputable def fb127 (D : Rg) : FB := fbG D Proofs.Tryz.f127
noncomputable def fb128 (D : Rg) : FB := fbG D Proofs.Tryz.f128
noncomputable def fb129 (D : Rg) : FB := fbG D Proofs.Tryz.f129
noncomputable def fb130 (D : Rg) : FB := fbG D Proofs.Tryz.f130
noncomputable def fb131 (D : Rg) : FB := fbG D Proofs.Tryz.f131
noncomputable def fb132 (D : Rg) : FB := fbG D Proofs.Tryz.f132
noncomputable def fb133 (D : Rg) : FB := fbG D Proofs.Tryz.f133
noncomputable def fb134 (D : Rg) : FB := fbG D Proofs.Tryz.f134
noncomputable def fb135 (D : Rg) : FB := fbG D Proofs.Tryz.f135
noncomputable def fb136 (D : Rg) : FB := fbG D Proofs.Tryz.f136
noncomputable def fb137 (D : Rg) : FB := fbG D Proofs.Tryz.f137
noncomputable def fb138 (D : Rg) : FB := fbG D Proofs.Tryz.f138
noncomputable def fb139 (D : Rg) : FB := fbG D Proofs.Tryz.f139
noncomputable def fb140 (D : Rg) : FB := fbG D Proofs.Tryz.f140
noncomputable def fb141 (D : Rg) : FB := fbG D Proofs.Tryz.f141
noncomputable def fb142 (D : Rg) : FB := fbG D Proofs.Tryz.f142
noncomputable def fb143 (D : Rg) : FB := fbG D Proofs.Tryz.f143
noncomputable def fb144 (D : Rg) : FB := fbG D Proofs.Tryz.f144
noncomputable def fb145 (D : Rg) : FB := fbG D Proofs.Tryz.f145
noncomputable def fb146 (D : Rg) : FB := fbG D Proofs.Tryz.f146
noncomputable def fb147 (D : Rg) : FB := fbG D Proofs.Tryz.f147
noncomputable def fb148 (D : Rg) : FB := fbG D Proofs.Tryz.f148
noncomputable def fb149 (D : Rg) : FB := fbG D Proofs.Tryz.f149
noncomputable def fb150 (D : Rg) : FB := fbG D Proofs.Tryz.f150
noncomputable def fb151 (D : Rg) : FB := fbG D Proofs.Tryz.f151
noncomputable def fb152 (D : Rg) : FB := fbG D Proofs.Tryz.f152
noncomputable def fb153 (D : Rg) : FB := fbG D Proofs.Tryz.f153
noncomputable def fb154 (D : Rg) : FB := fbG D Proofs.Tryz.f154
noncomputable def fb155 (D : Rg) : FB := fbG D Proofs.Tryz.f155
noncomputable def fb156 (D : Rg) : FB := fbG D Proofs.Tryz.f156
noncomputable def fb157 (D : Rg) : FB := fbG D Proofs.Tryz.f157
noncomputable def fb158 (D : Rg) : FB := fbG D Proofs.Tryz.f158
noncomputable def fb159 (D : Rg) : FB := fbG D Proofs.Tryz.f159
noncomputable def fb160 (D : Rg) : FB := fbG D Proofs.Tryz.f160
noncomputable def fb161 (D : Rg) : FB := fbG D Proofs.Tryz.f161
noncomputable def fb162 (D : Rg) : FB := fbG D Proofs.Tryz.f162
noncomputable def fb163 (D : Rg) : FB := fbG D Proofs.Tryz.f163
noncomputable def fb164 (D : Rg) : FB := fbG D Proofs.Tryz.f164
noncomputable def fb165 (D : Rg) : FB := fbG D Proofs.Tryz.f165
noncomputable def fb166 (D : Rg) : FB := fbG D Proofs.Tryz.f166
noncomputable def fb167 (D : Rg) : FB := fbG D Proofs.Tryz.f167
noncomputable def fb168 (D : Rg) : FB := fbG D Proofs.Tryz.f168
noncomputable def fb169 (D : Rg) : FB := fbG D Proofs.Tryz.f169
noncomputable def fb170 (D : Rg) : FB := fbG D Proofs.Tryz.f170
noncomputable def fb171 (D : Rg) : FB := fbG D Proofs.Tryz.f171
noncomputable def fb172 (D : Rg) : FB := fbG D Proofs.Tryz.f172
noncomputable def fb173 (D : Rg) : FB := fbG D Proofs.Tryz.f173
noncomputable def fb174 (D : Rg) : FB := fbG D Proofs.Tryz.f174
noncomputable def fb175 (D : Rg) : FB := fbG D Proofs.Tryz.f175
noncomputable def fb176 (D : Rg) : FB := fbG D Proofs.Tryz.f176
noncomputable def fb177 (D : Rg) : FB := fbG D Proofs.Tryz.f177
noncomputable def fb178 (D : Rg) : FB := fbG D Proofs.Tryz.f178
noncomputable def fb179 (D : Rg) : FB := fbG D Proofs.Tryz.f179
noncomputable def fb180 (D : Rg) : FB := fbG D Proofs.Tryz.f180
noncomputable def fb181 (D : Rg) : FB := fbG D Proofs.Tryz.f181
noncomputable def fb182 (D : Rg) : FB := fbG D Proofs.Tryz.f182
noncomputable def fb183 (D : Rg) : FB := fbG D Proofs.Tryz.f183
noncomputable def fb184 (D : Rg) : FB := fbG D Proofs.Tryz.f184
noncomputable def fb185 (D : Rg) : FB := fbG D Proofs.Tryz.f185
noncomputable def fb186 (D : Rg) : FB := fbG D Proofs.Tryz.f186
noncomputable def fb187 (D : Rg) : FB := fbG D Proofs.Tryz.f187
noncomputable def fb188 (D : Rg) : FB := fbG D Proofs.Tryz.f188
noncomputable def fb189 (D : Rg) : FB := fbG D Proofs.Tryz.f189
noncomputable def fb190 (D : Rg) : FB := fbG D Proofs.Tryz.f190
noncomputable def fb191 (D : Rg) : FB := fbG D Proofs.Tryz.f191
noncomputable def fb192 (D : Rg) : FB := fbG D Proofs.Tryz.f192
noncomputable def fb193 (D : Rg) : FB := fbG D Proofs.Tryz.f193
noncomputable def fb194 (D : Rg) : FB := fbG D Proofs.Tryz.f194
noncomputable def fb195 (D : Rg) : FB := fbG D Proofs.Tryz.f195
noncomputable def fb196 (D : Rg) : FB := fbG D Proofs.Tryz.f196
noncomputable def fb197 (D : Rg) : FB := fbG D Proofs.Tryz.f197
noncomputable def fb198 (D : Rg) : FB := fbG D Proofs.Tryz.f198
noncomputable def fb199 (D : Rg) : FB := fbG D Proofs.Tryz.f199
noncomputable def fb200 (D : Rg) : FB := fbG D Proofs.Tryz.f200
noncomputable def fb201 (D : Rg) : FB := fbG D Proofs.Tryz.f201
noncomputable def fb202 (D : Rg) : FB := fbG D Proofs.Tryz.f202
noncomputable def fb203 (D : Rg) : FB := fbG D Proofs.Tryz.f203
noncomputable def fb204 (D : Rg) : FB := fbG D Proofs.Tryz.f204
noncomputable def fb205 (D : Rg) : FB := fbG D Proofs.Tryz.f205
noncomputable def fb206 (D : Rg) : FB := fbG D Proofs.Tryz.f206
noncomputable def fb207 (D : Rg) : FB := fbG D Proofs.Tryz.f207
noncomputable def fb208 (D : Rg) : FB := fbG D Proofs.Tryz.f208
noncomputable def fb209 (D : Rg) : FB := fbG D Proofs.Tryz.f209
noncomputable def fb210 (D : Rg) : FB := fbG D Proofs.Tryz.f210
noncomputable def fb211 (D : Rg) : FB := fbG D Proofs.Tryz.f211
noncomputable def fb212 (D : Rg) : FB := fbG D Proofs.Tryz.f212
noncomputable def fb213 (D : Rg) : FB := fbG D Proofs.Tryz.f213
noncomputable def fb214 (D : Rg) : FB := fbG D Proofs.Tryz.f214
noncomputable def fb215 (D : Rg) : FB := fbG D Proofs.Tryz.f215
noncomputable def fb216 (D : Rg) : FB := fbG D Proofs.Tryz.f216
noncomputable def fb217 (D : Rg) : FB := fbG D Proofs.Tryz.f217
noncomputable def fb218 (D : Rg) : FB := fbG D Proofs.Tryz.f218
noncomputable def fb219 (D : Rg) : FB := fbG D Proofs.Tryz.f219
noncomputable def fb220 (D : Rg) : FB := fbG D Proofs.Tryz.f220
noncomputable def fb221 (D : Rg) : FB := fbG D Proofs.Tryz.f221
noncomputable def fb222 (D : Rg) : FB := fbG D Proofs.Tryz.f222
noncomputable def fb223 (D : Rg) : FB := fbG D Proofs.Tryz.f223
noncomputable def fb224 (D : Rg) : FB := fbG D Proofs.Tryz.f224
noncomputable def fb225 (D : Rg) : FB := fbG D Proofs.Tryz.f225
noncomputable def fb226 (D : Rg) : FB := fbG D Proofs.Tryz.f226
noncomputable def fb227 (D : Rg) : FB := fbG D Proofs.Tryz.f227
noncomputable def fb228 (D : Rg) : FB := fbG D Proofs.Tryz.f228
noncomputable def fb229 (D : Rg) : FB := fbG D Proofs.Tryz.f229
noncomputable def fb230 (D : Rg) : FB := fbG D Proofs.Tryz.f230
noncomputable def fb231 (D : Rg) : FB := fbG D Proofs.Tryz.f231
noncomputable def fb232 (D : Rg) : FB := fbG D Proofs.Tryz.f232
noncomputable def fb233 (D : Rg) : FB := fbG D Proofs.Tryz.f233
noncomputable def fb234 (D : Rg) : FB := fbG D Proofs.Tryz.f234
noncomputable def fb235 (D : Rg) : FB := fbG D Proofs.Tryz.f235
noncomputable def fb236 (D : Rg) : FB := fbG D Proofs.Tryz.f236
noncomputable def fb237 (D : Rg) : FB := fbG D Proofs.Tryz.f237
noncomputable def fb238 (D : Rg) : FB := fbG D Proofs.Tryz.f238
noncomputable def fb239 (D : Rg) : FB := fbG D Proofs.Tryz.f239
noncomputable def fb240 (D : Rg) : FB := fbG D Proofs.Tryz.f240
noncomputable def fb241 (D : Rg) : FB := fbG D Proofs.Tryz.f241
noncomputable def fb242 (D : Rg) : FB := fbG D Proofs.Tryz.f242
noncomputable def fb243 (D : Rg) : FB := fbG D Proofs.Tryz.f243
noncomputable def fb244 (D : Rg) : FB := fbG D Proofs.Tryz.f244
noncomputable def fb245 (D : Rg) : FB := fbG D Proofs.Tryz.f245
noncomputable def fb246 (D : Rg) : FB := fbG D Proofs.Tryz.f246
noncomputable def fb247 (D : Rg) : FB := fbG D Proofs.Tryz.f247
noncomputable def fb248 (D : Rg) : FB := fbG D Proofs.Tryz.f248
noncomputable def fb250 (D : Rg) : FB := fbG D Proofs.Tryz.f250
noncomputable def fb252 (D : Rg) : FB := fbG D Proofs.Tryz.f252
noncomputable def fb253 (D : Rg) : FB := fbG D Proofs.Tryz.f253
noncomputable def fb254 (D : Rg) : FB := fbG D Proofs.Tryz.f254
noncomputable def fb255 (D : Rg) : FB := fbG D Proofs.Tryz.f255
noncomputable def fb256 (D : Rg) : FB := fbG D Proofs.Tryz.f256
noncomputable def fb257 (D : Rg) : FB := fbG D Proofs.Tryz.f257
noncomputable def fb258 (D : Rg) : FB := fbG D Proofs.Tryz.f258
noncomputable def fb259 (D : Rg) : FB := fbG D Proofs.Tryz.f259
noncomputable def fb260 (D : Rg) : FB := fbG D Proofs.Tryz.f260
noncomputable def fb261 (D : Rg) : FB := fbG D Proofs.Tryz.f261
noncomputable def fb262 (D : Rg) : FB := fbG D Proofs.Tryz.f262
noncomputable def fb263 (D : Rg) : FB := fbG D Proofs.Tryz.f263
noncomputable def fb264 (D : Rg) : FB := fbG D Proofs.Tryz.f264
noncomputable def fb265 (D : Rg) : FB := fbG D Proofs.Tryz.f265
noncomputable def fb266 (D : Rg) : FB := fbG D Proofs.Tryz.f266
noncomputable def fb267 (D : Rg) : FB := fbG D Proofs.Tryz.f267
noncomputable def fb268 (D : Rg) : FB := fbG D Proofs.Tryz.f268
noncomputable def fb269 (D : Rg) : FB := fbG D Proofs.Tryz.f269
noncomputable def fb270 (D : Rg) : FB := fbG D Proofs.Tryz.f270
noncomputable def fb271 (D : Rg) : FB := fbG D Proofs.Tryz.f271
noncomputable def fb272 (D : Rg) : FB := fbG D Proofs.Tryz.f272
noncomputable def fb273 (D : Rg) : FB := fbG D Proofs.Tryz.f273
noncomputable def fb274 (D : Rg) : FB := fbG D Proofs.Tryz.f274
noncomputable def fb275 (D : Rg) : FB := fbG D Proofs.Tryz.f275
noncomputable def fb276 (D : Rg) : FB := fbG D Proofs.Tryz.f276
noncomputable def fb277 (D : Rg) : FB := fbG D Proofs.Tryz.f277
noncomputable def fb278 (D : Rg) : FB := fbG D Proofs.Tryz.f278
noncomputable def fb279 (D : Rg) : FB := fbG D Proofs.Tryz.f279
noncomputable def fb280 (D : Rg) : FB := fbG D Proofs.Tryz.f280
noncomputable def fb281 (D : Rg) : FB := fbG D Proofs.Tryz.f281
noncomputable def fb282 (D : Rg) : FB := fbG D Proofs.Tryz.f282
noncomputable def fb283 (D : Rg) : FB := fbG D Proofs.Tryz.f283
noncomputable def fb284 (D : Rg) : FB := fbG D Proofs.Tryz.f284
noncomputable def fb285 (D : Rg) : FB := fbG D Proofs.Tryz.f285
noncomputable def fb286 (D : Rg) : FB := fbG D Proofs.Tryz.f286
noncomputable def fb287 (D : Rg) : FB := fbG D Proofs.Tryz.f287
noncomputable def fb288 (D : Rg) : FB := fbG D Proofs.Tryz.f288
noncomputable def fb289 (D : Rg) : FB := fbG D Proofs.Tryz.f289
noncomputable def fb290 (D : Rg) : FB := fbG D Proofs.Tryz.f290
noncomputable def fb291 (D : Rg) : FB := fbG D Proofs.Tryz.f291
noncomputable def fb292 (D : Rg) : FB := fbG D Proofs.Tryz.f292
noncomputable def fb293 (D : Rg) : FB := fbG D Proofs.Tryz.f293
noncomputable def fb294 (D : Rg) : FB := fbG D Proofs.Tryz.f294
noncomputable def fb295 (D : Rg) : FB := fbG D Proofs.Tryz.f295
noncomputable def fb296 (D : Rg) : FB := fbG D Proofs.Tryz.f296
noncomputable def fb297 (D : Rg) : FB := fbG D Proofs.Tryz.f297
noncomputable def fb298 (D : Rg) : FB := fbG D Proofs.Tryz.f298
noncomputable def fb299 (D : Rg) : FB := fbG D Proofs.Tryz.f299
noncomputable def fb300 (D : Rg) : FB := fbG D Proofs.Tryz.f300
noncomputable def fb301 (D : Rg) : FB := fbG D Proofs.Tryz.f301
noncomputable def fb302 (D : Rg) : FB := fbG D Proofs.Tryz.f302
noncomputable def fb303 (D : Rg) : FB := fbG D Proofs.Tryz.f303
noncomputable def fb305 (D : Rg) : FB := fbG D Proofs.Tryz.f305
noncomputable def fb306 (D : Rg) : FB := fbG D Proofs.Tryz.f306
noncomputable def fb307 (D : Rg) : FB := fbG D Proofs.Tryz.f307
noncomputable def fb308 (D : Rg) : FB := fbG D Proofs.Tryz.f308
noncomputable def fb309 (D : Rg) : FB := fbG D Proofs.Tryz.f309
noncomputable def fb310 (D : Rg) : FB := fbG D Proofs.Tryz.f310
noncomputable def fb311 (D : Rg) : FB := fbG D Proofs.Tryz.f311
noncomputable def fb312 (D : Rg) : FB := fbG D Proofs.Tryz.f312
noncomputable def fb313 (D : Rg) : FB := fbG D Proofs.Tryz.f313
noncomputable def fb314 (D : Rg) : FB := fbG D Proofs.Tryz.f314
noncomputable def fb315 (D : Rg) : FB := fbG D Proofs.Tryz.f315
noncomputable def fb316 (D : Rg) : FB := fbG D Proofs.Tryz.f316
noncomputable def fb317 (D : Rg) : FB := fbG D Proofs.Tryz.f317
noncomputable def fb318 (D : Rg) : FB := fbG D Proofs.Tryz.f318
def nbD (_ : Rg) : FB := .nb
noncomputable def ftT : Tr (Rg → FB) := .nd (nbD) (.nd (nbD) (.nd (fb3) (.nd (fb7) (.nd (fb15) (.nd (fb31) (.nd (fb63) (.nd (fb127) (.lf [(0, fb255)]) (.lf [])) (.nd (fb191) (.lf []) (.lf []))) (.nd (fb95) (.nd (fb159) (.lf [(0, fb287)]) (.lf [])) (.nd (fb223) (.lf []) (.lf [])))) (.nd (fb47) (.nd (fb79) (.nd (fb143) (.lf [(0, fb271)]) (.lf [])) (.nd (fb207) (.lf []) (.lf []))) (.nd (fb111) (.nd (fb175) (.lf [(0, fb303)]) (.lf [])) (.nd (fb239) (.lf []) (.lf []))))) (.nd (fb23) (.nd (fb39) (.nd (fb71) (.nd (fb135) (.lf [(0, fb263)]) (.lf [])) (.nd (fb199) (.lf []) (.lf []))) (.nd (fb103) (.nd (fb167) (.lf [(0, fb295)]) (.lf [])) (.nd (fb231) (.lf []) (.lf [])))) (.nd (fb55) (.nd (fb87) (.nd (fb151) (.lf [(0, fb279)]) (.lf [])) (.nd (fb215) (.lf []) (.lf []))) (.nd (fb119) (.nd (fb183) (.lf [(0, fb311)]) (.lf [])) (.nd (fb247) (.lf []) (.lf [])))))) (.nd (fb11) (.nd (fb19) (.nd (fb35) (.nd (fb67) (.nd (fb131) (.lf [(0, fb259)]) (.lf [])) (.nd (fb195) (.lf []) (.lf []))) (.nd (fb99) (.nd (fb163) (.lf [(0, fb291)]) (.lf [])) (.nd (fb227) (.lf []) (.lf [])))) (.nd (fb51) (.nd (fb83) (.nd (fb147) (.lf [(0, fb275)]) (.lf [])) (.nd (fb211) (.lf []) (.lf []))) (.nd (fb115) (.nd (fb179) (.lf [(0, fb307)]) (.lf [])) (.nd (fb243) (.lf []) (.lf []))))) (.nd (fb27) (.nd (fb43) (.nd (fb75) (.nd (fb139) (.lf [(0, fb267)]) (.lf [])) (.nd (fb203) (.lf []) (.lf []))) (.nd (fb107) (.nd (fb171) (.lf [(0, fb299)]) (.lf [])) (.nd (fb235) (.lf []) (.lf [])))) (.nd (fb59) (.nd (fb91) (.nd (fb155) (.lf [(0, fb283)]) (.lf [])) (.nd (fb219) (.lf []) (.lf []))) (.nd (fb123) (.nd (fb187) (.lf [(0, fb315)]) (.lf [])) (.lf [])))))) (.nd (fb5) (.nd (fb9) (.nd (fb17) (.nd (fb33) (.nd (fb65) (.nd (fb129) (.lf [(0, fb257)]) (.lf [])) (.nd (fb193) (.lf []) (.lf []))) (.nd (fb97) (.nd (fb161) (.lf [(0, fb289)]) (.lf [])) (.nd (fb225) (.lf []) (.lf [])))) (.nd (fb49) (.nd (fb81) (.nd (fb145) (.lf [(0, fb273)]) (.lf [])) (.nd (fb209) (.lf []) (.lf []))) (.nd (fb113) (.nd (fb177) (.lf [(0, fb305)]) (.lf [])) (.nd (fb241) (.lf []) (.lf []))))) (.nd (fb25) (.nd (fb41) (.nd (fb73) (.nd (fb137) (.lf [(0, fb265)]) (.lf [])) (.nd (fb201) (.lf []) (.lf []))) (.nd (fb105) (.nd (fb169) (.lf [(0, fb297)]) (.lf [])) (.nd (fb233) (.lf []) (.lf [])))) (.nd (fb57) (.nd (fb89) (.nd (fb153) (.lf [(0, fb281)]) (.lf [])) (.nd (fb217) (.lf []) (.lf []))) (.nd (fb121) (.nd (fb185) (.lf [(0, fb313)]) (.lf [])) (.lf []))))) (.nd (fb13) (.nd (fb21) (.nd (fb37) (.nd (fb69) (.nd (fb133) (.lf [(0, fb261)]) (.lf [])) (.nd (fb197) (.lf []) (.lf []))) (.nd (fb101) (.nd (fb165) (.lf [(0, fb293)]) (.lf [])) (.nd (fb229) (.lf []) (.lf [])))) (.nd (fb53) (.nd (fb85) (.nd (fb149) (.lf [(0, fb277)]) (.lf [])) (.nd (fb213) (.lf []) (.lf []))) (.nd (fb117) (.nd (fb181) (.lf [(0, fb309)]) (.lf [])) (.nd (fb245) (.lf []) (.lf []))))) (.nd (fb29) (.nd (fb45) (.nd (fb77) (.nd (fb141) (.lf [(0, fb269)]) (.lf [])) (.nd (fb205) (.lf []) (.lf []))) (.nd (fb109) (.nd (fb173) (.lf [(0, fb301)]) (.lf [])) (.nd (fb237) (.lf []) (.lf [])))) (.nd (fb61) (.nd (fb93) (.nd (fb157) (.lf [(0, fb285)]) (.lf [])) (.nd (fb221) (.lf []) (.lf []))) (.nd (fb125) (.nd (fb189) (.lf [(0, fb317)]) (.lf [])) (.nd (fb253) (.lf []) (.lf [])))))))) (.nd (nbD) (.nd (fb4) (.nd (fb8) (.nd (fb16) (.nd (fb32) (.nd (fb64) (.nd (fb128) (.lf [(0, fb256)]) (.lf [])) (.nd (fb192) (.lf []) (.lf []))) (.nd (fb96) (.nd (fb160) (.lf [(0, fb288)]) (.lf [])) (.nd (fb224) (.lf []) (.lf [])))) (.nd (fb48) (.nd (fb80) (.nd (fb144) (.lf [(0, fb272)]) (.lf [])) (.nd (fb208) (.lf []) (.lf []))) (.nd (fb112) (.nd (fb176) (.lf []) (.lf [])) (.nd (fb240) (.lf []) (.lf []))))) (.nd (fb24) (.nd (fb40) (.nd (fb72) (.nd (fb136) (.lf [(0, fb264)]) (.lf [])) (.nd (fb200) (.lf []) (.lf []))) (.nd (fb104) (.nd (fb168) (.lf [(0, fb296)]) (.lf [])) (.nd (fb232) (.lf []) (.lf [])))) (.nd (fb56) (.nd (fb88) (.nd (fb152) (.lf [(0, fb280)]) (.lf [])) (.nd (fb216) (.lf []) (.lf []))) (.nd (fb120) (.nd (fb184) (.lf [(0, fb312)]) (.lf [])) (.nd (fb248) (.lf []) (.lf [])))))) (.nd (fb12) (.nd (fb20) (.nd (fb36) (.nd (fb68) (.nd (fb132) (.lf [(0, fb260)]) (.lf [])) (.nd (fb196) (.lf []) (.lf []))) (.nd (fb100) (.nd (fb164) (.lf [(0, fb292)]) (.lf [])) (.nd (fb228) (.lf []) (.lf [])))) (.nd (fb52) (.nd (fb84) (.nd (fb148) (.lf [(0, fb276)]) (.lf [])) (.nd (fb212) (.lf []) (.lf []))) (.nd (fb116) (.nd (fb180) (.lf [(0, fb308)]) (.lf [])) (.nd (fb244) (.lf []) (.lf []))))) (.nd (fb28) (.nd (fb44) (.nd (fb76) (.nd (fb140) (.lf [(0, fb268)]) (.lf [])) (.nd (fb204) (.lf []) (.lf []))) (.nd (fb108) (.nd (fb172) (.lf [(0, fb300)]) (.lf [])) (.nd (fb236) (.lf []) (.lf [])))) (.nd (fb60) (.nd (fb92) (.nd (fb156) (.lf [(0, fb284)]) (.lf [])) (.nd (fb220) (.lf []) (.lf []))) (.nd (fb124) (.nd (fb188) (.lf [(0, fb316)]) (.lf [])) (.nd (fb252) (.lf []) (.lf []))))))) (.nd (fb6) (.nd (fb10) (.nd (fb18) (.nd (fb34) (.nd (fb66) (.nd (fb130) (.lf [(0, fb258)]) (.lf [])) (.nd (fb194) (.lf []) (.lf []))) (.nd (fb98) (.nd (fb162) (.lf [(0, fb290)]) (.lf [])) (.nd (fb226) (.lf []) (.lf [])))) (.nd (fb50) (.nd (fb82) (.nd (fb146) (.lf [(0, fb274)]) (.lf [])) (.nd (fb210) (.lf []) (.lf []))) (.nd (fb114) (.nd (fb178) (.lf [(0, fb306)]) (.lf [])) (.nd (fb242) (.lf []) (.lf []))))) (.nd (fb26) (.nd (fb42) (.nd (fb74) (.nd (fb138) (.lf [(0, fb266)]) (.lf [])) (.nd (fb202) (.lf []) (.lf []))) (.nd (fb106) (.nd (fb170) (.lf [(0, fb298)]) (.lf [])) (.nd (fb234) (.lf []) (.lf [])))) (.nd (fb58) (.nd (fb90) (.nd (fb154) (.lf [(0, fb282)]) (.lf [])) (.nd (fb218) (.lf []) (.lf []))) (.nd (fb122) (.nd (fb186) (.lf [(0, fb314)]) (.lf [])) (.nd (fb250) (.lf []) (.lf [])))))) (.nd (fb14) (.nd (fb22) (.nd (fb38) (.nd (fb70) (.nd (fb134) (.lf [(0, fb262)]) (.lf [])) (.nd (fb198) (.lf []) (.lf []))) (.nd (fb102) (.nd (fb166) (.lf [(0, fb294)]) (.lf [])) (.nd (fb230) (.lf []) (.lf [])))) (.nd (fb54) (.nd (fb86) (.nd (fb150) (.lf [(0, fb278)]) (.lf [])) (.nd (fb214) (.lf []) (.lf []))) (.nd (fb118) (.nd (fb182) (.lf [(0, fb310)]) (.lf [])) (.nd (fb246) (.lf []) (.lf []))))) (.nd (fb30) (.nd (fb46) (.nd (fb78) (.nd (fb142) (.lf [(0, fb270)]) (.lf [])) (.nd (fb206) (.lf []) (.lf []))) (.nd (fb110) (.nd (fb174) (.lf [(0, fb302)]) (.lf [])) (.nd (fb238) (.lf []) (.lf [])))) (.nd (fb62) (.nd (fb94) (.nd (fb158) (.lf [(0, fb286)]) (.lf [])) (.nd (fb222) (.lf []) (.lf []))) (.nd (fb126) (.nd (fb190) (.lf [(0, fb318)]) (.lf [])) (.nd (fb254) (.lf []) (.lf []))))))))
noncomputable def ftG (D : Rg) (f : Nat) : FB := ftT.get nbD f D
end Go.Sy

namespace Go.Sy
open Go

theorem tt_chk : Tr.all (tiChk Proofs.Tryz.prog) ttT 1 0 = true := by kernel_rfl
theorem tt_ok : TTok Proofs.Tryz.prog tt := by
  intro t h
  rcases Tr.get_ok ttT 1 0 t (Tr.all_ok _ _ _ tt_chk) (d := noTI) with h' | h'
  · have e : tt t = noTI := h'
    rw [e] at h; cases h
  · rw [Nat.one_mul, Nat.add_zero] at h'
    exact tiChk_ok h' h

/- Temporaries. -/
def pOd (n : Nat) (o : Option Od) : Prop := match o with
  | some (.t k g) => k = n ∧ n < 256 ∧ g = getT n
  | some _ => False
  | none => True
def pDs (n : Nat) (o : Option Ds) : Prop := match o with
  | some d => d.n = n ∧ n < 256 ∧ d.s = putT n
  | none => True
theorem pOd_t {n : Nat} {g : TT → SV} (h1 : n < 256) (h2 : g = getT n) : pOd n (some (.t n g)) := ⟨rfl, h1, h2⟩
theorem pDs_s {n : Nat} {s : SV → TT → TT} (h1 : n < 256) (h2 : s = putT n) : pDs n (some ⟨n, s⟩) := ⟨rfl, h1, h2⟩
theorem odT_ok : odT.ok pOd 1 0 := by
  repeat' (first | exact trivial | apply And.intro)
  all_goals first | exact rfl | decide
theorem dsT_ok : dsT.ok pDs 1 0 := by
  repeat' (first | exact trivial | apply And.intro)
  all_goals first | exact rfl | decide
theorem envG : Env Proofs.Tryz.prog odG dsG tt := by
  refine ⟨fun t o h => ?_, fun t d h => ?_, tt_ok⟩
  · rcases Tr.get_ok odT 1 0 t odT_ok (d := none) with h' | h'
    · rw [show odG t = none from h'] at h; cases h
    · rw [Nat.one_mul, Nat.add_zero] at h'
      rw [show odT.get none t = some o from h] at h'
      cases o with
      | t k g => obtain ⟨h1, h2, h3⟩ := h'; subst h1; rw [h3]; exact ⟨h2, rfl⟩
      | k v => exact h'.elim
      | f id => exact h'.elim
  · rcases Tr.get_ok dsT 1 0 t dsT_ok (d := none) with h' | h'
    · rw [show dsG t = none from h'] at h; cases h
    · rw [Nat.one_mul, Nat.add_zero] at h'
      rw [show dsT.get none t = some d from h] at h'
      obtain ⟨n, s⟩ := d
      obtain ⟨h1, h2, h3⟩ := h'
      simp only at h1 h3
      subst h1
      exact ⟨h2, by rw [h3]⟩

/- Functions. -/
def pFt (n : Nat) (x : Rg → FB) : Prop := x = nbD ∨ ∃ fn, Proofs.Tryz.prog.funcs[n]? = some fn ∧ x = fun D => fbG D fn
theorem nb_ok (n : Nat) : pFt n nbD := .inl rfl
theorem names_ok : (Proofs.Tryz.prog.funcs.toList.all fun f => !(f.name == "runtime.NumGoroutine")) = true := by kernel_rfl
theorem fbo3 : pFt 3 fb3 := .inr ⟨_, Proofs.Tryz.func3, rfl⟩
theorem fbo4 : pFt 4 fb4 := .inr ⟨_, Proofs.Tryz.func4, rfl⟩
theorem fbo5 : pFt 5 fb5 := .inr ⟨_, Proofs.Tryz.func5, rfl⟩
theorem fbo6 : pFt 6 fb6 := .inr ⟨_, Proofs.Tryz.func6, rfl⟩
theorem fbo7 : pFt 7 fb7 := .inr ⟨_, Proofs.Tryz.func7, rfl⟩
theorem fbo8 : pFt 8 fb8 := .inr ⟨_, Proofs.Tryz.func8, rfl⟩
theorem fbo9 : pFt 9 fb9 := .inr ⟨_, Proofs.Tryz.func9, rfl⟩
theorem fbo10 : pFt 10 fb10 := .inr ⟨_, Proofs.Tryz.func10, rfl⟩
theorem fbo11 : pFt 11 fb11 := .inr ⟨_, Proofs.Tryz.func11, rfl⟩
theorem fbo12 : pFt 12 fb12 := .inr ⟨_, Proofs.Tryz.func12, rfl⟩
theorem fbo13 : pFt 13 fb13 := .inr ⟨_, Proofs.Tryz.func13, rfl⟩
theorem fbo14 : pFt 14 fb14 := .inr ⟨_, Proofs.Tryz.func14, rfl⟩
theorem fbo15 : pFt 15 fb15 := .inr ⟨_, Proofs.Tryz.func15, rfl⟩
theorem fbo16 : pFt 16 fb16 := .inr ⟨_, Proofs.Tryz.func16, rfl⟩
theorem fbo17 : pFt 17 fb17 := .inr ⟨_, Proofs.Tryz.func17, rfl⟩
theorem fbo18 : pFt 18 fb18 := .inr ⟨_, Proofs.Tryz.func18, rfl⟩
theorem fbo19 : pFt 19 fb19 := .inr ⟨_, Proofs.Tryz.func19, rfl⟩
theorem fbo20 : pFt 20 fb20 := .inr ⟨_, Proofs.Tryz.func20, rfl⟩
theorem fbo21 : pFt 21 fb21 := .inr ⟨_, Proofs.Tryz.func21, rfl⟩
theorem fbo22 : pFt 22 fb22 := .inr ⟨_, Proofs.Tryz.func22, rfl⟩
theorem fbo23 : pFt 23 fb23 := .inr ⟨_, Proofs.Tryz.func23, rfl⟩
theorem fbo24 : pFt 24 fb24 := .inr ⟨_, Proofs.Tryz.func24, rfl⟩
theorem fbo25 : pFt 25 fb25 := .inr ⟨_, Proofs.Tryz.func25, rfl⟩
theorem fbo26 : pFt 26 fb26 := .inr ⟨_, Proofs.Tryz.func26, rfl⟩
theorem fbo27 : pFt 27 fb27 := .inr ⟨_, Proofs.Tryz.func27, rfl⟩
theorem fbo28 : pFt 28 fb28 := .inr ⟨_, Proofs.Tryz.func28, rfl⟩
theorem fbo29 : pFt 29 fb29 := .inr ⟨_, Proofs.Tryz.func29, rfl⟩
theorem fbo30 : pFt 30 fb30 := .inr ⟨_, Proofs.Tryz.func30, rfl⟩
theorem fbo31 : pFt 31 fb31 := .inr ⟨_, Proofs.Tryz.func31, rfl⟩
theorem fbo32 : pFt 32 fb32 := .inr ⟨_, Proofs.Tryz.func32, rfl⟩
theorem fbo33 : pFt 33 fb33 := .inr ⟨_, Proofs.Tryz.func33, rfl⟩
theorem fbo34 : pFt 34 fb34 := .inr ⟨_, Proofs.Tryz.func34, rfl⟩
theorem fbo35 : pFt 35 fb35 := .inr ⟨_, Proofs.Tryz.func35, rfl⟩
theorem fbo36 : pFt 36 fb36 := .inr ⟨_, Proofs.Tryz.func36, rfl⟩
theorem fbo37 : pFt 37 fb37 := .inr ⟨_, Proofs.Tryz.func37, rfl⟩
theorem fbo38 : pFt 38 fb38 := .inr ⟨_, Proofs.Tryz.func38, rfl⟩
theorem fbo39 : pFt 39 fb39 := .inr ⟨_, Proofs.Tryz.func39, rfl⟩
theorem fbo40 : pFt 40 fb40 := .inr ⟨_, Proofs.Tryz.func40, rfl⟩
theorem fbo41 : pFt 41 fb41 := .inr ⟨_, Proofs.Tryz.func41, rfl⟩
theorem fbo42 : pFt 42 fb42 := .inr ⟨_, Proofs.Tryz.func42, rfl⟩
theorem fbo43 : pFt 43 fb43 := .inr ⟨_, Proofs.Tryz.func43, rfl⟩
theorem fbo44 : pFt 44 fb44 := .inr ⟨_, Proofs.Tryz.func44, rfl⟩
theorem fbo45 : pFt 45 fb45 := .inr ⟨_, Proofs.Tryz.func45, rfl⟩
theorem fbo46 : pFt 46 fb46 := .inr ⟨_, Proofs.Tryz.func46, rfl⟩
theorem fbo47 : pFt 47 fb47 := .inr ⟨_, Proofs.Tryz.func47, rfl⟩
theorem fbo48 : pFt 48 fb48 := .inr ⟨_, Proofs.Tryz.func48, rfl⟩
theorem fbo49 : pFt 49 fb49 := .inr ⟨_, Proofs.Tryz.func49, rfl⟩
theorem fbo50 : pFt 50 fb50 := .inr ⟨_, Proofs.Tryz.func50, rfl⟩
theorem fbo51 : pFt 51 fb51 := .inr ⟨_, Proofs.Tryz.func51, rfl⟩
theorem fbo52 : pFt 52 fb52 := .inr ⟨_, Proofs.Tryz.func52, rfl⟩
theorem fbo53 : pFt 53 fb53 := .inr ⟨_, Proofs.Tryz.func53, rfl⟩
theorem fbo54 : pFt 54 fb54 := .inr ⟨_, Proofs.Tryz.func54, rfl⟩
theorem fbo55 : pFt 55 fb55 := .inr ⟨_, Proofs.Tryz.func55, rfl⟩
theorem fbo56 : pFt 56 fb56 := .inr ⟨_, Proofs.Tryz.func56, rfl⟩
theorem fbo57 : pFt 57 fb57 := .inr ⟨_, Proofs.Tryz.func57, rfl⟩
theorem fbo58 : pFt 58 fb58 := .inr ⟨_, Proofs.Tryz.func58, rfl⟩
theorem fbo59 : pFt 59 fb59 := .inr ⟨_, Proofs.Tryz.func59, rfl⟩
theorem fbo60 : pFt 60 fb60 := .inr ⟨_, Proofs.Tryz.func60, rfl⟩
theorem fbo61 : pFt 61 fb61 := .inr ⟨_, Proofs.Tryz.func61, rfl⟩
theorem fbo62 : pFt 62 fb62 := .inr ⟨_, Proofs.Tryz.func62, rfl⟩
theorem fbo63 : pFt 63 fb63 := .inr ⟨_, Proofs.Tryz.func63, rfl⟩
theorem fbo64 : pFt 64 fb64 := .inr ⟨_, Proofs.Tryz.func64, rfl⟩
theorem fbo65 : pFt 65 fb65 := .inr ⟨_, Proofs.Tryz.func65, rfl⟩
theorem fbo66 : pFt 66 fb66 := .inr ⟨_, Proofs.Tryz.func66, rfl⟩
theorem fbo67 : pFt 67 fb67 := .inr ⟨_, Proofs.Tryz.func67, rfl⟩
theorem fbo68 : pFt 68 fb68 := .inr ⟨_, Proofs.Tryz.func68, rfl⟩
theorem fbo69 : pFt 69 fb69 := .inr ⟨_, Proofs.Tryz.func69, rfl⟩
theorem fbo70 : pFt 70 fb70 := .inr ⟨_, Proofs.Tryz.func70, rfl⟩
theorem fbo71 : pFt 71 fb71 := .inr ⟨_, Proofs.Tryz.func71, rfl⟩
theorem fbo72 : pFt 72 fb72 := .inr ⟨_, Proofs.Tryz.func72, rfl⟩
theorem fbo73 : pFt 73 fb73 := .inr ⟨_, Proofs.Tryz.func73, rfl⟩
theorem fbo74 : pFt 74 fb74 := .inr ⟨_, Proofs.Tryz.func74, rfl⟩
theorem fbo75 : pFt 75 fb75 := .inr ⟨_, Proofs.Tryz.func75, rfl⟩
theorem fbo76 : pFt 76 fb76 := .inr ⟨_, Proofs.Tryz.func76, rfl⟩
theorem fbo77 : pFt 77 fb77 := .inr ⟨_, Proofs.Tryz.func77, rfl⟩
theorem fbo78 : pFt 78 fb78 := .inr ⟨_, Proofs.Tryz.func78, rfl⟩
theorem fbo79 : pFt 79 fb79 := .inr ⟨_, Proofs.Tryz.func79, rfl⟩
theorem fbo80 : pFt 80 fb80 := .inr ⟨_, Proofs.Tryz.func80, rfl⟩
theorem fbo81 : pFt 81 fb81 := .inr ⟨_, Proofs.Tryz.func81, rfl⟩
theorem fbo82 : pFt 82 fb82 := .inr ⟨_, Proofs.Tryz.func82, rfl⟩
theorem fbo83 : pFt 83 fb83 := .inr ⟨_, Proofs.Tryz.func83, rfl⟩
theorem fbo84 : pFt 84 fb84 := .inr ⟨_, Proofs.Tryz.func84, rfl⟩
theorem fbo85 : pFt 85 fb85 := .inr ⟨_, Proofs.Tryz.func85, rfl⟩
theorem fbo86 : pFt 86 fb86 := .inr ⟨_, Proofs.Tryz.func86, rfl⟩
theorem fbo87 : pFt 87 fb87 := .inr ⟨_, Proofs.Tryz.func87, rfl⟩
theorem fbo88 : pFt 88 fb88 := .inr ⟨_, Proofs.Tryz.func88, rfl⟩
theorem fbo89 : pFt 89 fb89 := .inr ⟨_, Proofs.Tryz.func89, rfl⟩
theorem fbo90 : pFt 90 fb90 := .inr ⟨_, Proofs.Tryz.func90, rfl⟩
theorem fbo91 : pFt 91 fb91 := .inr ⟨_, Proofs.Tryz.func91, rfl⟩
theorem fbo92 : pFt 92 fb92 := .inr ⟨_, Proofs.Tryz.func92, rfl⟩
theorem fbo93 : pFt 93 fb93 := .inr ⟨_, Proofs.Tryz.func93, rfl⟩
theorem fbo94 : pFt 94 fb94 := .inr ⟨_, Proofs.Tryz.func94, rfl⟩
theorem fbo95 : pFt 95 fb95 := .inr ⟨_, Proofs.Tryz.func95, rfl⟩
theorem fbo96 : pFt 96 fb96 := .inr ⟨_, Proofs.Tryz.func96, rfl⟩
theorem fbo97 : pFt 97 fb97 := .inr ⟨_, Proofs.Tryz.func97, rfl⟩
theorem fbo98 : pFt 98 fb98 := .inr ⟨_, Proofs.Tryz.func98, rfl⟩
theorem fbo99 : pFt 99 fb99 := .inr ⟨_, Proofs.Tryz.func99, rfl⟩
theorem fbo100 : pFt 100 fb100 := .inr ⟨_, Proofs.Tryz.func100, rfl⟩
theorem fbo101 : pFt 101 fb101 := .inr ⟨_, Proofs.Tryz.func101, rfl⟩
theorem fbo102 : pFt 102 fb102 := .inr ⟨_, Proofs.Tryz.func102, rfl⟩
theorem fbo103 : pFt 103 fb103 := .inr ⟨_, Proofs.Tryz.func103, rfl⟩
theorem fbo104 : pFt 104 fb104 := .inr ⟨_, Proofs.Tryz.func104, rfl⟩
theorem fbo105 : pFt 105 fb105 := .inr ⟨_, Proofs.Tryz.func105, rfl⟩
theorem fbo106 : pFt 106 fb106 := .inr ⟨_, Proofs.Tryz.func106, rfl⟩
theorem fbo107 : pFt 107 fb107 := .inr ⟨_, Proofs.Tryz.func107, rfl⟩
theorem fbo108 : pFt 108 fb108 := .inr ⟨_, Proofs.Tryz.func108, rfl⟩
theorem fbo109 : pFt 109 fb109 := .inr ⟨_, Proofs.Tryz.func109, rfl⟩
theorem fbo110 : pFt 110 fb110 := .inr ⟨_, Proofs.Tryz.func110, rfl⟩
theorem fbo111 : pFt 111 fb111 := .inr ⟨_, Proofs.Tryz.func111, rfl⟩
theorem fbo112 : pFt 112 fb112 := .inr ⟨_, Proofs.Tryz.func112, rfl⟩
theorem fbo113 : pFt 113 fb113 := .inr ⟨_, Proofs.Tryz.func113, rfl⟩
theorem fbo114 : pFt 114 fb114 := .inr ⟨_, Proofs.Tryz.func114, rfl⟩
theorem fbo115 : pFt 115 fb115 := .inr ⟨_, Proofs.Tryz.func115, rfl⟩
theorem fbo116 : pFt 116 fb116 := .inr ⟨_, Proofs.Tryz.func116, rfl⟩
theorem fbo117 : pFt 117 fb117 := .inr ⟨_, Proofs.Tryz.func117, rfl⟩
theorem fbo118 : pFt 118 fb118 := .inr ⟨_, Proofs.Tryz.func118, rfl⟩
theorem fbo119 : pFt 119 fb119 := .inr ⟨_, Proofs.Tryz.func119, rfl⟩
theorem fbo120 : pFt 120 fb120 := .inr ⟨_, Proofs.Tryz.func120, rfl⟩
theorem fbo121 : pFt 121 fb121 := .inr ⟨_, Proofs.Tryz.func121, rfl⟩
theorem fbo122 : pFt 122 fb122 := .inr ⟨_, Proofs.Tryz.func122, rfl⟩
theorem fbo123 : pFt 123 fb123 := .inr ⟨_, Proofs.Tryz.func123, rfl⟩
theorem fbo124 : pFt 124 fb124 := .inr ⟨_, Proofs.Tryz.func124, rfl⟩
theorem fbo125 : pFt 125 fb125 := .inr ⟨_, Proofs.Tryz.func125, rfl⟩
theorem fbo126 : pFt 126 fb126 := .inr ⟨_, Proofs.Tryz.func126, rfl⟩
theorem fbo127 : pFt 127 fb127 := .inr ⟨_, Proofs.Tryz.func127, rfl⟩
theorem fbo128 : pFt 128 fb128 := .inr ⟨_, Proofs.Tryz.func128, rfl⟩
theorem fbo129 : pFt 129 fb129 := .inr ⟨_, Proofs.Tryz.func129, rfl⟩
theorem fbo130 : pFt 130 fb130 := .inr ⟨_, Proofs.Tryz.func130, rfl⟩
theorem fbo131 : pFt 131 fb131 := .inr ⟨_, Proofs.Tryz.func131, rfl⟩
theorem fbo132 : pFt 132 fb132 := .inr ⟨_, Proofs.Tryz.func132, rfl⟩
theorem fbo133 : pFt 133 fb133 := .inr ⟨_, Proofs.Tryz.func133, rfl⟩
theorem fbo134 : pFt 134 fb134 := .inr ⟨_, Proofs.Tryz.func134, rfl⟩
theorem fbo135 : pFt 135 fb135 := .inr ⟨_, Proofs.Tryz.func135, rfl⟩
theorem fbo136 : pFt 136 fb136 := .inr ⟨_, Proofs.Tryz.func136, rfl⟩
theorem fbo137 : pFt 137 fb137 := .inr ⟨_, Proofs.Tryz.func137, rfl⟩
theorem fbo138 : pFt 138 fb138 := .inr ⟨_, Proofs.Tryz.func138, rfl⟩
theorem fbo139 : pFt 139 fb139 := .inr ⟨_, Proofs.Tryz.func139, rfl⟩
theorem fbo140 : pFt 140 fb140 := .inr ⟨_, Proofs.Tryz.func140, rfl⟩
theorem fbo141 : pFt 141 fb141 := .inr ⟨_, Proofs.Tryz.func141, rfl⟩
theorem fbo142 : pFt 142 fb142 := .inr ⟨_, Proofs.Tryz.func142, rfl⟩
theorem fbo143 : pFt 143 fb143 := .inr ⟨_, Proofs.Tryz.func143, rfl⟩
theorem fbo144 : pFt 144 fb144 := .inr ⟨_, Proofs.Tryz.func144, rfl⟩
theorem fbo145 : pFt 145 fb145 := .inr ⟨_, Proofs.Tryz.func145, rfl⟩
theorem fbo146 : pFt 146 fb146 := .inr ⟨_, Proofs.Tryz.func146, rfl⟩
theorem fbo147 : pFt 147 fb147 := .inr ⟨_, Proofs.Tryz.func147, rfl⟩
theorem fbo148 : pFt 148 fb148 := .inr ⟨_, Proofs.Tryz.func148, rfl⟩
theorem fbo149 : pFt 149 fb149 := .inr ⟨_, Proofs.Tryz.func149, rfl⟩
theorem fbo150 : pFt 150 fb150 := .inr ⟨_, Proofs.Tryz.func150, rfl⟩
theorem fbo151 : pFt 151 fb151 := .inr ⟨_, Proofs.Tryz.func151, rfl⟩
theorem fbo152 : pFt 152 fb152 := .inr ⟨_, Proofs.Tryz.func152, rfl⟩
theorem fbo153 : pFt 153 fb153 := .inr ⟨_, Proofs.Tryz.func153, rfl⟩
theorem fbo154 : pFt 154 fb154 := .inr ⟨_, Proofs.Tryz.func154, rfl⟩
theorem fbo155 : pFt 155 fb155 := .inr ⟨_, Proofs.Tryz.func155, rfl⟩
theorem fbo156 : pFt 156 fb156 := .inr ⟨_, Proofs.Tryz.func156, rfl⟩
theorem fbo157 : pFt 157 fb157 := .inr ⟨_, Proofs.Tryz.func157, rfl⟩
theorem fbo158 : pFt 158 fb158 := .inr ⟨_, Proofs.Tryz.func158, rfl⟩
theorem fbo159 : pFt 159 fb159 := .inr ⟨_, Proofs.Tryz.func159, rfl⟩
theorem fbo160 : pFt 160 fb160 := .inr ⟨_, Proofs.Tryz.func160, rfl⟩
theorem fbo161 : pFt 161 fb161 := .inr ⟨_, Proofs.Tryz.func161, rfl⟩
theorem fbo162 : pFt 162 fb162 := .inr ⟨_, Proofs.Tryz.func162, rfl⟩
theorem fbo163 : pFt 163 fb163 := .inr ⟨_, Proofs.Tryz.func163, rfl⟩
theorem fbo164 : pFt 164 fb164 := .inr ⟨_, Proofs.Tryz.func164, rfl⟩
theorem fbo165 : pFt 165 fb165 := .inr ⟨_, Proofs.Tryz.func165, rfl⟩
theorem fbo166 : pFt 166 fb166 := .inr ⟨_, Proofs.Tryz.func166, rfl⟩
theorem fbo167 : pFt 167 fb167 := .inr ⟨_, Proofs.Tryz.func167, rfl⟩
theorem fbo168 : pFt 168 fb168 := .inr ⟨_, Proofs.Tryz.func168, rfl⟩
theorem fbo169 : pFt 169 fb169 := .inr ⟨_, Proofs.Tryz.func169, rfl⟩
theorem fbo170 : pFt 170 fb170 := .inr ⟨_, Proofs.Tryz.func170, rfl⟩
theorem fbo171 : pFt 171 fb171 := .inr ⟨_, Proofs.Tryz.func171, rfl⟩
theorem fbo172 : pFt 172 fb172 := .inr ⟨_, Proofs.Tryz.func172, rfl⟩
theorem fbo173 : pFt 173 fb173 := .inr ⟨_, Proofs.Tryz.func173, rfl⟩
theorem fbo174 : pFt 174 fb174 := .inr ⟨_, Proofs.Tryz.func174, rfl⟩
theorem fbo175 : pFt 175 fb175 := .inr ⟨_, Proofs.Tryz.func175, rfl⟩
theorem fbo176 : pFt 176 fb176 := .inr ⟨_, Proofs.Tryz.func176, rfl⟩
theorem fbo177 : pFt 177 fb177 := .inr ⟨_, Proofs.Tryz.func177, rfl⟩
theorem fbo178 : pFt 178 fb178 := .inr ⟨_, Proofs.Tryz.func178, rfl⟩
theorem fbo179 : pFt 179 fb179 := .inr ⟨_, Proofs.Tryz.func179, rfl⟩
theorem fbo180 : pFt 180 fb180 := .inr ⟨_, Proofs.Tryz.func180, rfl⟩
theorem fbo181 : pFt 181 fb181 := .inr ⟨_, Proofs.Tryz.func181, rfl⟩
theorem fbo182 : pFt 182 fb182 := .inr ⟨_, Proofs.Tryz.func182, rfl⟩
theorem fbo183 : pFt 183 fb183 := .inr ⟨_, Proofs.Tryz.func183, rfl⟩
theorem fbo184 : pFt 184 fb184 := .inr ⟨_, Proofs.Tryz.func184, rfl⟩
theorem fbo185 : pFt 185 fb185 := .inr ⟨_, Proofs.Tryz.func185, rfl⟩
theorem fbo186 : pFt 186 fb186 := .inr ⟨_, Proofs.Tryz.func186, rfl⟩
theorem fbo187 : pFt 187 fb187 := .inr ⟨_, Proofs.Tryz.func187, rfl⟩
theorem fbo188 : pFt 188 fb188 := .inr ⟨_, Proofs.Tryz.func188, rfl⟩
theorem fbo189 : pFt 189 fb189 := .inr ⟨_, Proofs.Tryz.func189, rfl⟩
theorem fbo190 : pFt 190 fb190 := .inr ⟨_, Proofs.Tryz.func190, rfl⟩
theorem fbo191 : pFt 191 fb191 := .inr ⟨_, Proofs.Tryz.func191, rfl⟩
theorem fbo192 : pFt 192 fb192 := .inr ⟨_, Proofs.Tryz.func192, rfl⟩
theorem fbo193 : pFt 193 fb193 := .inr ⟨_, Proofs.Tryz.func193, rfl⟩
theorem fbo194 : pFt 194 fb194 := .inr ⟨_, Proofs.Tryz.func194, rfl⟩
theorem fbo195 : pFt 195 fb195 := .inr ⟨_, Proofs.Tryz.func195, rfl⟩
theorem fbo196 : pFt 196 fb196 := .inr ⟨_, Proofs.Tryz.func196, rfl⟩
theorem fbo197 : pFt 197 fb197 := .inr ⟨_, Proofs.Tryz.func197, rfl⟩
theorem fbo198 : pFt 198 fb198 := .inr ⟨_, Proofs.Tryz.func198, rfl⟩
theorem fbo199 : pFt 199 fb199 := .inr ⟨_, Proofs.Tryz.func199, rfl⟩
theorem fbo200 : pFt 200 fb200 := .inr ⟨_, Proofs.Tryz.func200, rfl⟩
theorem fbo201 : pFt 201 fb201 := .inr ⟨_, Proofs.Tryz.func201, rfl⟩
theorem fbo202 : pFt 202 fb202 := .inr ⟨_, Proofs.Tryz.func202, rfl⟩
theorem fbo203 : pFt 203 fb203 := .inr ⟨_, Proofs.Tryz.func203, rfl⟩
theorem fbo204 : pFt 204 fb204 := .inr ⟨_, Proofs.Tryz.func204, rfl⟩
theorem fbo205 : pFt 205 fb205 := .inr ⟨_, Proofs.Tryz.func205, rfl⟩
theorem fbo206 : pFt 206 fb206 := .inr ⟨_, Proofs.Tryz.func206, rfl⟩
theorem fbo207 : pFt 207 fb207 := .inr ⟨_, Proofs.Tryz.func207, rfl⟩
theorem fbo208 : pFt 208 fb208 := .inr ⟨_, Proofs.Tryz.func208, rfl⟩
theorem fbo209 : pFt 209 fb209 := .inr ⟨_, Proofs.Tryz.func209, rfl⟩
theorem fbo210 : pFt 210 fb210 := .inr ⟨_, Proofs.Tryz.func210, rfl⟩
theorem fbo211 : pFt 211 fb211 := .inr ⟨_, Proofs.Tryz.func211, rfl⟩
theorem fbo212 : pFt 212 fb212 := .inr ⟨_, Proofs.Tryz.func212, rfl⟩
theorem fbo213 : pFt 213 fb213 := .inr ⟨_, Proofs.Tryz.func213, rfl⟩
theorem fbo214 : pFt 214 fb214 := .inr ⟨_, Proofs.Tryz.func214, rfl⟩
theorem fbo215 : pFt 215 fb215 := .inr ⟨_, Proofs.Tryz.func215, rfl⟩
theorem fbo216 : pFt 216 fb216 := .inr ⟨_, Proofs.Tryz.func216, rfl⟩
theorem fbo217 : pFt 217 fb217 := .inr ⟨_, Proofs.Tryz.func217, rfl⟩
theorem fbo218 : pFt 218 fb218 := .inr ⟨_, Proofs.Tryz.func218, rfl⟩
theorem fbo219 : pFt 219 fb219 := .inr ⟨_, Proofs.Tryz.func219, rfl⟩
theorem fbo220 : pFt 220 fb220 := .inr ⟨_, Proofs.Tryz.func220, rfl⟩
theorem fbo221 : pFt 221 fb221 := .inr ⟨_, Proofs.Tryz.func221, rfl⟩
theorem fbo222 : pFt 222 fb222 := .inr ⟨_, Proofs.Tryz.func222, rfl⟩
theorem fbo223 : pFt 223 fb223 := .inr ⟨_, Proofs.Tryz.func223, rfl⟩
theorem fbo224 : pFt 224 fb224 := .inr ⟨_, Proofs.Tryz.func224, rfl⟩
theorem fbo225 : pFt 225 fb225 := .inr ⟨_, Proofs.Tryz.func225, rfl⟩
theorem fbo226 : pFt 226 fb226 := .inr ⟨_, Proofs.Tryz.func226, rfl⟩
theorem fbo227 : pFt 227 fb227 := .inr ⟨_, Proofs.Tryz.func227, rfl⟩
theorem fbo228 : pFt 228 fb228 := .inr ⟨_, Proofs.Tryz.func228, rfl⟩
theorem fbo229 : pFt 229 fb229 := .inr ⟨_, Proofs.Tryz.func229, rfl⟩
theorem fbo230 : pFt 230 fb230 := .inr ⟨_, Proofs.Tryz.func230, rfl⟩
theorem fbo231 : pFt 231 fb231 := .inr ⟨_, Proofs.Tryz.func231, rfl⟩
theorem fbo232 : pFt 232 fb232 := .inr ⟨_, Proofs.Tryz.func232, rfl⟩
theorem fbo233 : pFt 233 fb233 := .inr ⟨_, Proofs.Tryz.func233, rfl⟩
theorem fbo234 : pFt 234 fb234 := .inr ⟨_, Proofs.Tryz.func234, rfl⟩
theorem fbo235 : pFt 235 fb235 := .inr ⟨_, Proofs.Tryz.func235, rfl⟩
theorem fbo236 : pFt 236 fb236 := .inr ⟨_, Proofs.Tryz.func236, rfl⟩
theorem fbo237 : pFt 237 fb237 := .inr ⟨_, Proofs.Tryz.func237, rfl⟩
theorem fbo238 : pFt 238 fb238 := .inr ⟨_, Proofs.Tryz.func238, rfl⟩
theorem fbo239 : pFt 239 fb239 := .inr ⟨_, Proofs.Tryz.func239, rfl⟩
theorem fbo240 : pFt 240 fb240 := .inr ⟨_, Proofs.Tryz.func240, rfl⟩
theorem fbo241 : pFt 241 fb241 := .inr ⟨_, Proofs.Tryz.func241, rfl⟩
theorem fbo242 : pFt 242 fb242 := .inr ⟨_, Proofs.Tryz.func242, rfl⟩
theorem fbo243 : pFt 243 fb243 := .inr ⟨_, Proofs.Tryz.func243, rfl⟩
theorem fbo244 : pFt 244 fb244 := .inr ⟨_, Proofs.Tryz.func244, rfl⟩
theorem fbo245 : pFt 245 fb245 := .inr ⟨_, Proofs.Tryz.func245, rfl⟩
theorem fbo246 : pFt 246 fb246 := .inr ⟨_, Proofs.Tryz.func246, rfl⟩
theorem fbo247 : pFt 247 fb247 := .inr ⟨_, Proofs.Tryz.func247, rfl⟩
theorem fbo248 : pFt 248 fb248 := .inr ⟨_, Proofs.Tryz.func248, rfl⟩
theorem fbo250 : pFt 250 fb250 := .inr ⟨_, Proofs.Tryz.func250, rfl⟩
theorem fbo252 : pFt 252 fb252 := .inr ⟨_, Proofs.Tryz.func252, rfl⟩
theorem fbo253 : pFt 253 fb253 := .inr ⟨_, Proofs.Tryz.func253, rfl⟩
theorem fbo254 : pFt 254 fb254 := .inr ⟨_, Proofs.Tryz.func254, rfl⟩
theorem fbo255 : pFt 255 fb255 := .inr ⟨_, Proofs.Tryz.func255, rfl⟩
theorem fbo256 : pFt 256 fb256 := .inr ⟨_, Proofs.Tryz.func256, rfl⟩
theorem fbo257 : pFt 257 fb257 := .inr ⟨_, Proofs.Tryz.func257, rfl⟩
theorem fbo258 : pFt 258 fb258 := .inr ⟨_, Proofs.Tryz.func258, rfl⟩
theorem fbo259 : pFt 259 fb259 := .inr ⟨_, Proofs.Tryz.func259, rfl⟩
theorem fbo260 : pFt 260 fb260 := .inr ⟨_, Proofs.Tryz.func260, rfl⟩
theorem fbo261 : pFt 261 fb261 := .inr ⟨_, Proofs.Tryz.func261, rfl⟩
theorem fbo262 : pFt 262 fb262 := .inr ⟨_, Proofs.Tryz.func262, rfl⟩
theorem fbo263 : pFt 263 fb263 := .inr ⟨_, Proofs.Tryz.func263, rfl⟩
theorem fbo264 : pFt 264 fb264 := .inr ⟨_, Proofs.Tryz.func264, rfl⟩
theorem fbo265 : pFt 265 fb265 := .inr ⟨_, Proofs.Tryz.func265, rfl⟩
theorem fbo266 : pFt 266 fb266 := .inr ⟨_, Proofs.Tryz.func266, rfl⟩
theorem fbo267 : pFt 267 fb267 := .inr ⟨_, Proofs.Tryz.func267, rfl⟩
theorem fbo268 : pFt 268 fb268 := .inr ⟨_, Proofs.Tryz.func268, rfl⟩
theorem fbo269 : pFt 269 fb269 := .inr ⟨_, Proofs.Tryz.func269, rfl⟩
theorem fbo270 : pFt 270 fb270 := .inr ⟨_, Proofs.Tryz.func270, rfl⟩
theorem fbo271 : pFt 271 fb271 := .inr ⟨_, Proofs.Tryz.func271, rfl⟩
theorem fbo272 : pFt 272 fb272 := .inr ⟨_, Proofs.Tryz.func272, rfl⟩
theorem fbo273 : pFt 273 fb273 := .inr ⟨_, Proofs.Tryz.func273, rfl⟩
theorem fbo274 : pFt 274 fb274 := .inr ⟨_, Proofs.Tryz.func274, rfl⟩
theorem fbo275 : pFt 275 fb275 := .inr ⟨_, Proofs.Tryz.func275, rfl⟩
theorem fbo276 : pFt 276 fb276 := .inr ⟨_, Proofs.Tryz.func276, rfl⟩
theorem fbo277 : pFt 277 fb277 := .inr ⟨_, Proofs.Tryz.func277, rfl⟩
theorem fbo278 : pFt 278 fb278 := .inr ⟨_, Proofs.Tryz.func278, rfl⟩
theorem fbo279 : pFt 279 fb279 := .inr ⟨_, Proofs.Tryz.func279, rfl⟩
theorem fbo280 : pFt 280 fb280 := .inr ⟨_, Proofs.Tryz.func280, rfl⟩
theorem fbo281 : pFt 281 fb281 := .inr ⟨_, Proofs.Tryz.func281, rfl⟩
theorem fbo282 : pFt 282 fb282 := .inr ⟨_, Proofs.Tryz.func282, rfl⟩
theorem fbo283 : pFt 283 fb283 := .inr ⟨_, Proofs.Tryz.func283, rfl⟩
theorem fbo284 : pFt 284 fb284 := .inr ⟨_, Proofs.Tryz.func284, rfl⟩
theorem fbo285 : pFt 285 fb285 := .inr ⟨_, Proofs.Tryz.func285, rfl⟩
theorem fbo286 : pFt 286 fb286 := .inr ⟨_, Proofs.Tryz.func286, rfl⟩
theorem fbo287 : pFt 287 fb287 := .inr ⟨_, Proofs.Tryz.func287, rfl⟩
theorem fbo288 : pFt 288 fb288 := .inr ⟨_, Proofs.Tryz.func288, rfl⟩
theorem fbo289 : pFt 289 fb289 := .inr ⟨_, Proofs.Tryz.func289, rfl⟩
theorem fbo290 : pFt 290 fb290 := .inr ⟨_, Proofs.Tryz.func290, rfl⟩
theorem fbo291 : pFt 291 fb291 := .inr ⟨_, Proofs.Tryz.func291, rfl⟩
theorem fbo292 : pFt 292 fb292 := .inr ⟨_, Proofs.Tryz.func292, rfl⟩
theorem fbo293 : pFt 293 fb293 := .inr ⟨_, Proofs.Tryz.func293, rfl⟩
theorem fbo294 : pFt 294 fb294 := .inr ⟨_, Proofs.Tryz.func294, rfl⟩
theorem fbo295 : pFt 295 fb295 := .inr ⟨_, Proofs.Tryz.func295, rfl⟩
theorem fbo296 : pFt 296 fb296 := .inr ⟨_, Proofs.Tryz.func296, rfl⟩
theorem fbo297 : pFt 297 fb297 := .inr ⟨_, Proofs.Tryz.func297, rfl⟩
theorem fbo298 : pFt 298 fb298 := .inr ⟨_, Proofs.Tryz.func298, rfl⟩
theorem fbo299 : pFt 299 fb299 := .inr ⟨_, Proofs.Tryz.func299, rfl⟩
theorem fbo300 : pFt 300 fb300 := .inr ⟨_, Proofs.Tryz.func300, rfl⟩
theorem fbo301 : pFt 301 fb301 := .inr ⟨_, Proofs.Tryz.func301, rfl⟩
theorem fbo302 : pFt 302 fb302 := .inr ⟨_, Proofs.Tryz.func302, rfl⟩
theorem fbo303 : pFt 303 fb303 := .inr ⟨_, Proofs.Tryz.func303, rfl⟩
theorem fbo305 : pFt 305 fb305 := .inr ⟨_, Proofs.Tryz.func305, rfl⟩
theorem fbo306 : pFt 306 fb306 := .inr ⟨_, Proofs.Tryz.func306, rfl⟩
theorem fbo307 : pFt 307 fb307 := .inr ⟨_, Proofs.Tryz.func307, rfl⟩
theorem fbo308 : pFt 308 fb308 := .inr ⟨_, Proofs.Tryz.func308, rfl⟩
theorem fbo309 : pFt 309 fb309 := .inr ⟨_, Proofs.Tryz.func309, rfl⟩
theorem fbo310 : pFt 310 fb310 := .inr ⟨_, Proofs.Tryz.func310, rfl⟩
theorem fbo311 : pFt 311 fb311 := .inr ⟨_, Proofs.Tryz.func311, rfl⟩
theorem fbo312 : pFt 312 fb312 := .inr ⟨_, Proofs.Tryz.func312, rfl⟩
theorem fbo313 : pFt 313 fb313 := .inr ⟨_, Proofs.Tryz.func313, rfl⟩
theorem fbo314 : pFt 314 fb314 := .inr ⟨_, Proofs.Tryz.func314, rfl⟩
theorem fbo315 : pFt 315 fb315 := .inr ⟨_, Proofs.Tryz.func315, rfl⟩
theorem fbo316 : pFt 316 fb316 := .inr ⟨_, Proofs.Tryz.func316, rfl⟩
theorem fbo317 : pFt 317 fb317 := .inr ⟨_, Proofs.Tryz.func317, rfl⟩
theorem fbo318 : pFt 318 fb318 := .inr ⟨_, Proofs.Tryz.func318, rfl⟩
theorem ftT_ok : ftT.ok pFt 1 0 := ⟨nb_ok _, ⟨nb_ok _, ⟨fbo3, ⟨fbo7, ⟨fbo15, ⟨fbo31, ⟨fbo63, ⟨fbo127, ⟨fbo255, trivial⟩, trivial⟩, ⟨fbo191, trivial, trivial⟩⟩, ⟨fbo95, ⟨fbo159, ⟨fbo287, trivial⟩, trivial⟩, ⟨fbo223, trivial, trivial⟩⟩⟩, ⟨fbo47, ⟨fbo79, ⟨fbo143, ⟨fbo271, trivial⟩, trivial⟩, ⟨fbo207, trivial, trivial⟩⟩, ⟨fbo111, ⟨fbo175, ⟨fbo303, trivial⟩, trivial⟩, ⟨fbo239, trivial, trivial⟩⟩⟩⟩, ⟨fbo23, ⟨fbo39, ⟨fbo71, ⟨fbo135, ⟨fbo263, trivial⟩, trivial⟩, ⟨fbo199, trivial, trivial⟩⟩, ⟨fbo103, ⟨fbo167, ⟨fbo295, trivial⟩, trivial⟩, ⟨fbo231, trivial, trivial⟩⟩⟩, ⟨fbo55, ⟨fbo87, ⟨fbo151, ⟨fbo279, trivial⟩, trivial⟩, ⟨fbo215, trivial, trivial⟩⟩, ⟨fbo119, ⟨fbo183, ⟨fbo311, trivial⟩, trivial⟩, ⟨fbo247, trivial, trivial⟩⟩⟩⟩⟩, ⟨fbo11, ⟨fbo19, ⟨fbo35, ⟨fbo67, ⟨fbo131, ⟨fbo259, trivial⟩, trivial⟩, ⟨fbo195, trivial, trivial⟩⟩, ⟨fbo99, ⟨fbo163, ⟨fbo291, trivial⟩, trivial⟩, ⟨fbo227, trivial, trivial⟩⟩⟩, ⟨fbo51, ⟨fbo83, ⟨fbo147, ⟨fbo275, trivial⟩, trivial⟩, ⟨fbo211, trivial, trivial⟩⟩, ⟨fbo115, ⟨fbo179, ⟨fbo307, trivial⟩, trivial⟩, ⟨fbo243, trivial, trivial⟩⟩⟩⟩, ⟨fbo27, ⟨fbo43, ⟨fbo75, ⟨fbo139, ⟨fbo267, trivial⟩, trivial⟩, ⟨fbo203, trivial, trivial⟩⟩, ⟨fbo107, ⟨fbo171, ⟨fbo299, trivial⟩, trivial⟩, ⟨fbo235, trivial, trivial⟩⟩⟩, ⟨fbo59, ⟨fbo91, ⟨fbo155, ⟨fbo283, trivial⟩, trivial⟩, ⟨fbo219, trivial, trivial⟩⟩, ⟨fbo123, ⟨fbo187, ⟨fbo315, trivial⟩, trivial⟩, trivial⟩⟩⟩⟩⟩, ⟨fbo5, ⟨fbo9, ⟨fbo17, ⟨fbo33, ⟨fbo65, ⟨fbo129, ⟨fbo257, trivial⟩, trivial⟩, ⟨fbo193, trivial, trivial⟩⟩, ⟨fbo97, ⟨fbo161, ⟨fbo289, trivial⟩, trivial⟩, ⟨fbo225, trivial, trivial⟩⟩⟩, ⟨fbo49, ⟨fbo81, ⟨fbo145, ⟨fbo273, trivial⟩, trivial⟩, ⟨fbo209, trivial, trivial⟩⟩, ⟨fbo113, ⟨fbo177, ⟨fbo305, trivial⟩, trivial⟩, ⟨fbo241, trivial, trivial⟩⟩⟩⟩, ⟨fbo25, ⟨fbo41, ⟨fbo73, ⟨fbo137, ⟨fbo265, trivial⟩, trivial⟩, ⟨fbo201, trivial, trivial⟩⟩, ⟨fbo105, ⟨fbo169, ⟨fbo297, trivial⟩, trivial⟩, ⟨fbo233, trivial, trivial⟩⟩⟩, ⟨fbo57, ⟨fbo89, ⟨fbo153, ⟨fbo281, trivial⟩, trivial⟩, ⟨fbo217, trivial, trivial⟩⟩, ⟨fbo121, ⟨fbo185, ⟨fbo313, trivial⟩, trivial⟩, trivial⟩⟩⟩⟩, ⟨fbo13, ⟨fbo21, ⟨fbo37, ⟨fbo69, ⟨fbo133, ⟨fbo261, trivial⟩, trivial⟩, ⟨fbo197, trivial, trivial⟩⟩, ⟨fbo101, ⟨fbo165, ⟨fbo293, trivial⟩, trivial⟩, ⟨fbo229, trivial, trivial⟩⟩⟩, ⟨fbo53, ⟨fbo85, ⟨fbo149, ⟨fbo277, trivial⟩, trivial⟩, ⟨fbo213, trivial, trivial⟩⟩, ⟨fbo117, ⟨fbo181, ⟨fbo309, trivial⟩, trivial⟩, ⟨fbo245, trivial, trivial⟩⟩⟩⟩, ⟨fbo29, ⟨fbo45, ⟨fbo77, ⟨fbo141, ⟨fbo269, trivial⟩, trivial⟩, ⟨fbo205, trivial, trivial⟩⟩, ⟨fbo109, ⟨fbo173, ⟨fbo301, trivial⟩, trivial⟩, ⟨fbo237, trivial, trivial⟩⟩⟩, ⟨fbo61, ⟨fbo93, ⟨fbo157, ⟨fbo285, trivial⟩, trivial⟩, ⟨fbo221, trivial, trivial⟩⟩, ⟨fbo125, ⟨fbo189, ⟨fbo317, trivial⟩, trivial⟩, ⟨fbo253, trivial, trivial⟩⟩⟩⟩⟩⟩⟩, ⟨nb_ok _, ⟨fbo4, ⟨fbo8, ⟨fbo16, ⟨fbo32, ⟨fbo64, ⟨fbo128, ⟨fbo256, trivial⟩, trivial⟩, ⟨fbo192, trivial, trivial⟩⟩, ⟨fbo96, ⟨fbo160, ⟨fbo288, trivial⟩, trivial⟩, ⟨fbo224, trivial, trivial⟩⟩⟩, ⟨fbo48, ⟨fbo80, ⟨fbo144, ⟨fbo272, trivial⟩, trivial⟩, ⟨fbo208, trivial, trivial⟩⟩, ⟨fbo112, ⟨fbo176, trivial, trivial⟩, ⟨fbo240, trivial, trivial⟩⟩⟩⟩, ⟨fbo24, ⟨fbo40, ⟨fbo72, ⟨fbo136, ⟨fbo264, trivial⟩, trivial⟩, ⟨fbo200, trivial, trivial⟩⟩, ⟨fbo104, ⟨fbo168, ⟨fbo296, trivial⟩, trivial⟩, ⟨fbo232, trivial, trivial⟩⟩⟩, ⟨fbo56, ⟨fbo88, ⟨fbo152, ⟨fbo280, trivial⟩, trivial⟩, ⟨fbo216, trivial, trivial⟩⟩, ⟨fbo120, ⟨fbo184, ⟨fbo312, trivial⟩, trivial⟩, ⟨fbo248, trivial, trivial⟩⟩⟩⟩⟩, ⟨fbo12, ⟨fbo20, ⟨fbo36, ⟨fbo68, ⟨fbo132, ⟨fbo260, trivial⟩, trivial⟩, ⟨fbo196, trivial, trivial⟩⟩, ⟨fbo100, ⟨fbo164, ⟨fbo292, trivial⟩, trivial⟩, ⟨fbo228, trivial, trivial⟩⟩⟩, ⟨fbo52, ⟨fbo84, ⟨fbo148, ⟨fbo276, trivial⟩, trivial⟩, ⟨fbo212, trivial, trivial⟩⟩, ⟨fbo116, ⟨fbo180, ⟨fbo308, trivial⟩, trivial⟩, ⟨fbo244, trivial, trivial⟩⟩⟩⟩, ⟨fbo28, ⟨fbo44, ⟨fbo76, ⟨fbo140, ⟨fbo268, trivial⟩, trivial⟩, ⟨fbo204, trivial, trivial⟩⟩, ⟨fbo108, ⟨fbo172, ⟨fbo300, trivial⟩, trivial⟩, ⟨fbo236, trivial, trivial⟩⟩⟩, ⟨fbo60, ⟨fbo92, ⟨fbo156, ⟨fbo284, trivial⟩, trivial⟩, ⟨fbo220, trivial, trivial⟩⟩, ⟨fbo124, ⟨fbo188, ⟨fbo316, trivial⟩, trivial⟩, ⟨fbo252, trivial, trivial⟩⟩⟩⟩⟩⟩, ⟨fbo6, ⟨fbo10, ⟨fbo18, ⟨fbo34, ⟨fbo66, ⟨fbo130, ⟨fbo258, trivial⟩, trivial⟩, ⟨fbo194, trivial, trivial⟩⟩, ⟨fbo98, ⟨fbo162, ⟨fbo290, trivial⟩, trivial⟩, ⟨fbo226, trivial, trivial⟩⟩⟩, ⟨fbo50, ⟨fbo82, ⟨fbo146, ⟨fbo274, trivial⟩, trivial⟩, ⟨fbo210, trivial, trivial⟩⟩, ⟨fbo114, ⟨fbo178, ⟨fbo306, trivial⟩, trivial⟩, ⟨fbo242, trivial, trivial⟩⟩⟩⟩, ⟨fbo26, ⟨fbo42, ⟨fbo74, ⟨fbo138, ⟨fbo266, trivial⟩, trivial⟩, ⟨fbo202, trivial, trivial⟩⟩, ⟨fbo106, ⟨fbo170, ⟨fbo298, trivial⟩, trivial⟩, ⟨fbo234, trivial, trivial⟩⟩⟩, ⟨fbo58, ⟨fbo90, ⟨fbo154, ⟨fbo282, trivial⟩, trivial⟩, ⟨fbo218, trivial, trivial⟩⟩, ⟨fbo122, ⟨fbo186, ⟨fbo314, trivial⟩, trivial⟩, ⟨fbo250, trivial, trivial⟩⟩⟩⟩⟩, ⟨fbo14, ⟨fbo22, ⟨fbo38, ⟨fbo70, ⟨fbo134, ⟨fbo262, trivial⟩, trivial⟩, ⟨fbo198, trivial, trivial⟩⟩, ⟨fbo102, ⟨fbo166, ⟨fbo294, trivial⟩, trivial⟩, ⟨fbo230, trivial, trivial⟩⟩⟩, ⟨fbo54, ⟨fbo86, ⟨fbo150, ⟨fbo278, trivial⟩, trivial⟩, ⟨fbo214, trivial, trivial⟩⟩, ⟨fbo118, ⟨fbo182, ⟨fbo310, trivial⟩, trivial⟩, ⟨fbo246, trivial, trivial⟩⟩⟩⟩, ⟨fbo30, ⟨fbo46, ⟨fbo78, ⟨fbo142, ⟨fbo270, trivial⟩, trivial⟩, ⟨fbo206, trivial, trivial⟩⟩, ⟨fbo110, ⟨fbo174, ⟨fbo302, trivial⟩, trivial⟩, ⟨fbo238, trivial, trivial⟩⟩⟩, ⟨fbo62, ⟨fbo94, ⟨fbo158, ⟨fbo286, trivial⟩, trivial⟩, ⟨fbo222, trivial, trivial⟩⟩, ⟨fbo126, ⟨fbo190, ⟨fbo318, trivial⟩, trivial⟩, ⟨fbo254, trivial, trivial⟩⟩⟩⟩⟩⟩⟩⟩
theorem ftG_ok {Γ : Cx} (hP : Γ.P = Proofs.Tryz.prog) (D : Rg) : FtOK Γ D odG dsG tt (ftG D) := by
  intro f nt rs code h
  rw [hP]
  have key : pFt f (ftT.get nbD f) := by
    rcases Tr.get_ok ftT 1 0 f ftT_ok (d := nbD) with h' | h'
    · rw [h']; exact nb_ok f
    · rwa [Nat.one_mul, Nat.add_zero] at h'
  rcases key with h' | ⟨fn, h1, h2⟩
  · have h : ftT.get nbD f D = .fb nt rs code := h
    rw [h'] at h; cases h
  · have h : ftT.get nbD f D = .fb nt rs code := h
    rw [h2] at h
    have h : fbG D fn = .fb nt rs code := h
    refine ⟨fn, h1, ?_, ?_⟩
    · unfold fbG at h
      split at h
      · rename_i x hx; subst h; exact hx
      · cases h
    · have := List.all_eq_true.1 names_ok fn (Array.mem_toList_iff.2 (Array.mem_of_getElem? h1))
      simpa using this

end Go.Sy

namespace Go.Sy
open Go

def nms : List (List Nat) := [[97], [97, 112, 112], [98, 97, 110, 107], [99, 111, 100, 101], [100, 97, 116, 97], [105, 110, 100, 101, 120], [110, 101, 119, 115], [110, 111, 116, 101, 115], [115, 104, 111, 112], [115, 116, 121, 108, 101]]
noncomputable def inN (l : List Nat) (L : List (List Nat)) : Bool := List.rec (motive := fun _ => Bool) false (fun x _ ih => ifL (sEq l x) true ih) L
noncomputable def mmN (f : Nat) (xs : List SV) : Option SV :=
  ifL (Nat.beq f 64 || Nat.beq f 102) (match xs with | [.s l] => ifL (inN l nms) (some (.b true)) none | _ => none) none
/-- bg: what laws.big says; mv: what laws.at says of 1. -/
noncomputable def mmR (bg : Bool) (mv : SV) (f : Nat) (xs : List SV) : Option SV :=
  ifL (Nat.beq f 4) (match xs with | [.x 0] => some (.b bg) | _ => none)
    (ifL (Nat.beq f 7) (match xs with | [.x 0, .i 3 (.ofNat k)] => ifL (Nat.beq k 0) (some (.y 3 1 0 0)) (ifL (Nat.beq k 1) (some mv) none) | _ => none) (mmN f xs))
def isB (r : CR) : Bool := match r with | .ok (.b v) _ _ => v | _ => false
theorem isB_ok {r : CR} (h : isB r = true) : ∃ H' c', r = .ok (.b true) H' c' := by
  unfold isB at h
  split at h
  · subst h; exact ⟨_, _, rfl⟩
  · cases h
def D0 : Rg := ⟨0, 255, 0, 0⟩
def D1 : Rg := ⟨0, 255, 1, 255⟩
end Go.Sy
