/- The settings of the interpreter for this seat. -/
import Derived.Test.YtlapgjmmlbnehaaProg
import Derived.Test.YtlapgjmmlbnehaaAAbWS
set_option maxRecDepth 100000
namespace Go.Ab
open Go.Proofs.Try
def mkMask : Nat → Nat → List Bool
  | 0, _ => []
  | n + 1, x => Nat.beq (x % 2) 1 :: mkMask n (x / 2)
def opsOf : Code → Array Oper
  | .region _ ops _ => ops
  | _ => #[]
def masksOf : List (Nat × Nat × Masks) := [(4, 5, ⟨(mkMask 75 105), (mkMask 75 41), (mkMask 75 4)⟩),
  (11, 3, ⟨(mkMask 113 7516192776), (mkMask 113 0), (mkMask 113 16)⟩),
  (13, 3, ⟨(mkMask 92 14680118), (mkMask 92 54), (mkMask 92 16)⟩),
  (13, 11, ⟨(mkMask 92 820), (mkMask 92 272), (mkMask 92 16)⟩),
  (20, 4, ⟨(mkMask 45 240518168576), (mkMask 45 0), (mkMask 45 4)⟩),
  (21, 4, ⟨(mkMask 45 240518168576), (mkMask 45 0), (mkMask 45 4)⟩),
  (30, 10, ⟨(mkMask 51 210), (mkMask 51 80), (mkMask 51 48)⟩),
  (34, 7, ⟨(mkMask 60 1649267441756), (mkMask 60 80), (mkMask 60 48)⟩),
  (36, 5, ⟨(mkMask 41 50331740), (mkMask 41 80), (mkMask 41 48)⟩),
  (38, 5, ⟨(mkMask 48 54), (mkMask 48 20), (mkMask 48 12)⟩),
  (38, 8, ⟨(mkMask 48 118), (mkMask 48 54), (mkMask 48 12)⟩),
  (39, 4, ⟨(mkMask 46 1610612748), (mkMask 46 0), (mkMask 46 16)⟩),
  (40, 4, ⟨(mkMask 46 1610612748), (mkMask 46 0), (mkMask 46 16)⟩),
  (44, 11, ⟨(mkMask 40 214), (mkMask 40 80), (mkMask 40 48)⟩),
  (46, 4, ⟨(mkMask 40 1835008), (mkMask 40 0), (mkMask 40 4)⟩),
  (46, 7, ⟨(mkMask 40 119275536), (mkMask 40 1835024), (mkMask 40 4)⟩),
  (51, 6, ⟨(mkMask 32 7340096), (mkMask 32 64), (mkMask 32 12)⟩),
  (53, 7, ⟨(mkMask 90 15393162788956), (mkMask 90 92), (mkMask 90 48)⟩),
  (53, 16, ⟨(mkMask 90 132226261520350065985556), (mkMask 90 2064), (mkMask 90 48)⟩),
  (56, 3, ⟨(mkMask 27 28684), (mkMask 27 12), (mkMask 27 4)⟩),
  (58, 3, ⟨(mkMask 33 24774), (mkMask 33 192), (mkMask 33 64)⟩),
  (58, 6, ⟨(mkMask 33 418246), (mkMask 33 24774), (mkMask 33 64)⟩),
  (61, 3, ⟨(mkMask 24 115), (mkMask 24 48), (mkMask 24 16)⟩),
  (63, 3, ⟨(mkMask 23 29), (mkMask 23 12), (mkMask 23 4)⟩),
  (72, 4, ⟨(mkMask 73 99), (mkMask 73 32), (mkMask 73 16)⟩),
  (72, 8, ⟨(mkMask 73 483), (mkMask 73 227), (mkMask 73 16)⟩),
  (81, 3, ⟨(mkMask 74 124), (mkMask 74 48), (mkMask 74 16)⟩),
  (81, 6, ⟨(mkMask 74 252), (mkMask 74 124), (mkMask 74 16)⟩),
  (81, 9, ⟨(mkMask 74 508), (mkMask 74 252), (mkMask 74 16)⟩),
  (83, 3, ⟨(mkMask 18 908), (mkMask 18 12), (mkMask 18 4)⟩),
  (85, 3, ⟨(mkMask 32 1546), (mkMask 32 8), (mkMask 32 4)⟩),
  (87, 3, ⟨(mkMask 19 29), (mkMask 19 12), (mkMask 19 4)⟩),
  (88, 3, ⟨(mkMask 54 454), (mkMask 54 192), (mkMask 54 48)⟩),
  (88, 11, ⟨(mkMask 54 1478), (mkMask 54 454), (mkMask 54 48)⟩),
  (90, 5, ⟨(mkMask 84 1942), (mkMask 84 768), (mkMask 84 256)⟩),
  (90, 10, ⟨(mkMask 84 8086), (mkMask 84 3990), (mkMask 84 256)⟩),
  (91, 5, ⟨(mkMask 173 995), (mkMask 173 224), (mkMask 173 48)⟩),
  (91, 9, ⟨(mkMask 173 2019), (mkMask 173 2019), (mkMask 173 48)⟩),
  (91, 19, ⟨(mkMask 173 29014219670751100192951267), (mkMask 173 995), (mkMask 173 48)⟩),
  (91, 24, ⟨(mkMask 173 486777830487640090174734030865379), (mkMask 173 995), (mkMask 173 48)⟩),
  (91, 29, ⟨(mkMask 173 261336858282058570427511788682332017288163), (mkMask 173 486777830487640090174734030865379), (mkMask 173 48)⟩),
  (92, 7, ⟨(mkMask 52 1240), (mkMask 52 216), (mkMask 52 48)⟩),
  (92, 10, ⟨(mkMask 52 412316861656), (mkMask 52 1240), (mkMask 52 48)⟩),
  (96, 2, ⟨(mkMask 26 3), (mkMask 26 1), (mkMask 26 16)⟩),
  (98, 7, ⟨(mkMask 45 35), (mkMask 45 0), (mkMask 45 16)⟩),
  (99, 5, ⟨(mkMask 84 160), (mkMask 84 32), (mkMask 84 16)⟩),
  (99, 13, ⟨(mkMask 84 515), (mkMask 84 515), (mkMask 84 16)⟩),
  (99, 15, ⟨(mkMask 84 515), (mkMask 84 513), (mkMask 84 16)⟩),
  (99, 16, ⟨(mkMask 84 515), (mkMask 84 515), (mkMask 84 16)⟩),
  (99, 18, ⟨(mkMask 84 515), (mkMask 84 515), (mkMask 84 16)⟩),
  (101, 6, ⟨(mkMask 27 24), (mkMask 27 8), (mkMask 27 4)⟩),
  (102, 11, ⟨(mkMask 98 1539), (mkMask 98 513), (mkMask 98 112)⟩),
  (102, 14, ⟨(mkMask 98 7683), (mkMask 98 3587), (mkMask 98 112)⟩),
  (103, 2, ⟨(mkMask 22 9), (mkMask 22 9), (mkMask 22 4)⟩),
  (104, 3, ⟨(mkMask 54 24783), (mkMask 54 192), (mkMask 54 64)⟩),
  (107, 4, ⟨(mkMask 71 14680098), (mkMask 71 32), (mkMask 71 16)⟩),
  (107, 8, ⟨(mkMask 71 1893728738), (mkMask 71 14680418), (mkMask 71 16)⟩),
  (108, 7, ⟨(mkMask 60 117440610), (mkMask 60 96), (mkMask 60 16)⟩),
  (109, 7, ⟨(mkMask 49 35), (mkMask 49 0), (mkMask 49 16)⟩),
  (110, 7, ⟨(mkMask 59 29360322), (mkMask 59 64), (mkMask 59 48)⟩),
  (111, 4, ⟨(mkMask 44 227), (mkMask 44 32), (mkMask 44 16)⟩),
  (112, 6, ⟨(mkMask 44 451), (mkMask 44 64), (mkMask 44 48)⟩),
  (114, 1, ⟨(mkMask 26 99), (mkMask 26 0), (mkMask 26 0)⟩),
  (115, 3, ⟨(mkMask 53 396), (mkMask 53 128), (mkMask 53 64)⟩),
  (116, 2, ⟨(mkMask 51 782), (mkMask 51 0), (mkMask 51 0)⟩),
  (117, 4, ⟨(mkMask 83 6597069766934), (mkMask 83 0), (mkMask 83 0)⟩),
  (124, 2, ⟨(mkMask 21 9), (mkMask 21 9), (mkMask 21 4)⟩),
  (125, 14, ⟨(mkMask 315 32256), (mkMask 315 13824), (mkMask 315 112)⟩),
  (125, 18, ⟨(mkMask 315 228864), (mkMask 315 97792), (mkMask 315 112)⟩),
  (125, 24, ⟨(mkMask 315 1096126227998177188652763624537212264741950291456), (mkMask 315 884224), (mkMask 315 112)⟩),
  (125, 41, ⟨(mkMask 315 165641912322973530898434140694648610858826615332089277323900581371805184), (mkMask 315 622080), (mkMask 315 112)⟩),
  (125, 51, ⟨(mkMask 315 11656013353354374425516771440941113439854441034312837127510874458433425711231284553216), (mkMask 315 33562624), (mkMask 315 112)⟩),
  (129, 4, ⟨(mkMask 41 451), (mkMask 41 192), (mkMask 41 48)⟩),
  (131, 4, ⟨(mkMask 42 899), (mkMask 42 384), (mkMask 42 64)⟩),
  (136, 4, ⟨(mkMask 43 451), (mkMask 43 192), (mkMask 43 48)⟩),
  (138, 3, ⟨(mkMask 40 28706), (mkMask 40 32), (mkMask 40 16)⟩)]
def ordsOf : List (Nat × Nat × List Nat) := [(48, 1, [0, 1, 2, 4, 3, 5, 6]), (67, 1, [0, 1, 2, 3, 5, 6, 4, 7, 8, 9]), (104, 5, [0, 1, 2, 3, 4, 5, 6, 7, 8, 9, 10, 11, 12, 13, 14, 15, 16, 17, 18, 19, 20, 21, 22, 23]), (116, 4, [0, 1, 2, 3, 4, 5, 6, 7, 8, 9, 10, 11, 12, 13, 14, 15, 16, 17, 18, 19, 20, 21, 22, 23, 24, 25, 26, 27, 28, 29, 30, 31, 32, 33, 34, 35, 36, 37, 38, 39])]
def ahsOf : List (Nat × Nat × List Nat) := [(3, 8, [0, 1, 0, 7, 15, 31, 63, 63, 63, 63, 1023, 2047, 4095, 8191, 8191, 8191, 8191, 131071, 262143, 524287, 1048575, 1048575, 1048575, 1048575, 16777215, 33554431, 67108863, 134217727, 134217727, 134217727, 1073741823, 134217727, 134217727, 134217727, 17179869183, 34359738367, 68719476735, 137438953471, 274877906943, 549755813887, 1099511627775]),
  (4, 11, [0, 0, 0, 4, 12, 31, 63, 127, 127, 127, 127, 639, 2687, 7807, 15999, 32767, 65535, 131071, 262143, 524287, 1048575]),
  (5, 1, [0, 1, 0, 7, 15, 31]),
  (5, 2, [0, 1, 0, 4, 12, 0, 32, 124, 255, 511]),
  (5, 9, [0, 0, 0, 0, 15, 31, 63, 63, 63, 63, 1023, 2047, 4095, 8191, 8191, 8191, 8191, 131071, 262143, 524287, 1048575, 1048575, 4194303, 1048575, 1048575, 33554431, 67108863, 134217727, 268435455, 536870911, 1073741823, 2147483647]),
  (6, 1, [0, 1, 0, 7, 15, 31]),
  (8, 1, [0, 1, 0, 7, 15, 31]),
  (8, 2, [0, 1, 0, 7, 15, 31, 63, 127, 63, 511, 1023, 2047]),
  (9, 5, [0, 1, 3, 7, 7, 23, 63, 127, 255, 511, 1023, 2047]),
  (10, 1, [0, 1, 0, 7, 15, 31]),
  (10, 5, [0, 0, 3, 0, 0, 31, 63, 127]),
  (10, 12, [0, 1, 3, 7, 15, 31, 63, 127, 255, 511, 1023, 2047, 2047, 2047, 14335, 32767, 65535, 131071, 262143, 262143, 1048575, 2097151, 4194303, 8388607, 16777215, 33554431]),
  (11, 1, [0, 1, 0, 7, 15, 31]),
  (11, 2, [0, 0, 2, 7, 15, 0]),
  (12, 1, [0, 1, 0, 7, 15, 31]),
  (12, 5, [0, 0, 3, 0, 0, 16, 0, 64, 0, 0, 512, 1792, 4032, 8184, 16383, 32767, 65535]),
  (13, 5, [0, 1, 0, 4, 0, 16, 48, 0, 128, 496, 1020, 2044, 4095, 8191, 16383]),
  (13, 13, [0, 1, 0, 4, 0, 0, 32, 112, 0, 0, 512, 1792, 0, 4096, 16128, 32764, 65535, 131071, 262143]),
  (29, 1, [0, 1, 0, 7, 15, 31]),
  (29, 2, [0, 1, 0, 4, 15, 0, 32, 0, 128, 480, 0, 1024, 0, 4096, 16352, 32767, 65535, 131071, 131071, 0, 786431, 2097151]),
  (30, 9, [0, 1, 0, 4, 15, 0, 63, 0, 0, 511, 1023]),
  (34, 9, [0, 1, 0, 0, 8, 0, 56, 120, 0, 256, 0, 1792, 3840, 8184, 16383, 32767]),
  (36, 7, [0, 1, 0, 0, 8, 0, 56, 120, 0, 504, 1023, 2047]),
  (38, 10, [0, 1, 0, 0, 8, 28, 0, 124, 0, 256, 0, 0, 2048, 7168, 0, 31744, 65280, 130816, 262143, 524287]),
  (39, 6, [0, 1, 0, 7, 15, 0, 32, 0, 224, 480, 1023, 2047]),
  (40, 6, [0, 1, 0, 7, 15, 0, 32, 0, 224, 480, 1023, 2047]),
  (48, 1, [0, 0, 2, 6, 0, 31, 63]),
  (49, 5, [0, 1, 0, 4, 15, 31, 63, 63, 0, 383, 1023]),
  (50, 3, [0, 1, 0, 4, 15, 31, 63, 63, 127, 511]),
  (51, 3, [0, 1, 0, 4, 15, 31, 63, 63, 0, 383, 1023]),
  (53, 18, [0, 1, 0, 0, 8, 28, 63, 127, 255]),
  (54, 3, [0, 0, 2, 0, 8, 30, 63, 127, 127, 511, 1023]),
  (55, 5, [0, 0, 2, 6, 15, 31, 31, 127, 255]),
  (56, 5, [0, 1, 0, 4, 12, 31, 63, 127]),
  (58, 8, [0, 1, 0, 0, 0, 28, 60, 127, 255, 511]),
  (61, 5, [0, 1, 0, 4, 15, 31, 63]),
  (63, 5, [0, 1, 0, 0, 12, 0, 60, 0, 255, 511]),
  (65, 4, [0, 1, 3, 7, 15, 31, 15, 127, 255, 511, 1023]),
  (67, 1, [0, 1, 0, 4, 12, 0, 32, 124, 255, 511]),
  (72, 10, [0, 0, 3, 7, 15, 0, 0, 96, 224, 480, 1023, 0, 0, 0, 12288, 30720, 63488, 129024, 262143, 0, 1048575, 2097151]),
  (74, 1, [0, 1, 0, 0, 8, 28, 0, 124, 255, 511, 0, 1024, 0, 0, 8192, 28672, 0, 126976, 261120, 523264, 1048575, 2097151]),
  (75, 5, [0, 1, 0, 4, 15, 0, 32, 0, 128, 511, 0, 1024, 0, 4096, 16383, 32767, 65535, 131071]),
  (75, 7, [0, 1, 0, 0, 12, 0, 63, 127]),
  (76, 1, [0, 1, 0, 7, 15, 31]),
  (76, 2, [0, 1, 0, 4, 15, 0, 32, 0, 128, 511, 0, 1024, 0, 4096, 16383, 32767, 65535, 131071]),
  (76, 3, [0, 1, 0, 0, 12, 31, 63]),
  (77, 1, [0, 1, 0, 0, 8, 28, 0, 124, 255, 511, 0, 2047, 4095]),
  (78, 1, [0, 1, 0, 4, 15, 0, 32, 0, 128, 480, 0, 1024, 0, 4096, 16352, 32767, 65535]),
  (81, 11, [0, 1, 0, 0, 8, 28, 0, 124, 0, 256, 0, 0, 2048, 7168, 0, 31744, 65280, 130816, 0, 262144, 0, 0, 2097152, 7340032, 0, 32505856, 66846720, 133955584, 0, 268435456, 0, 0, 2147483648, 7516192768, 0, 33285996544, 68451041280, 137170518016, 274877644800, 549755813632, 1099511627775, 2199023255551]),
  (87, 5, [0, 0, 0, 6, 14, 31, 63]),
  (90, 8, [0, 0, 2, 0, 0, 16, 56, 0, 248, 510, 1022, 2047, 0, 8191]),
  (90, 15, [0, 0, 0, 4, 0, 0, 62, 127, 255]),
  (91, 14, [0, 0, 0, 0, 0, 0, 48, 112, 0, 0, 768, 1792, 4083, 8179, 16383, 32767]),
  (91, 21, [0, 0, 3, 7, 0, 0, 0, 96, 224, 0, 992, 2016, 0, 8160, 16352, 32736, 32736, 65535, 196607]),
  (91, 31, [0, 0, 3, 7, 0, 0, 0, 96, 224, 0, 992, 2016, 0, 0, 0, 24576, 57344, 0, 253952, 516096, 1044480, 2097120, 4194303, 8388607]),
  (91, 36, [0, 0, 1, 7]),
  (95, 8, [0, 1, 3, 7, 0, 16, 48, 112, 240, 511, 1023, 2047]),
  (98, 9, [0, 0, 3, 7, 0, 0, 48, 112, 255]),
  (98, 10, [0, 0, 3, 7, 0, 0, 48, 112, 255]),
  (99, 6, [0, 0, 0, 6, 3, 31]),
  (100, 1, [0, 0, 2, 7, 15]),
  (104, 5, [0, 1, 0, 0, 8, 28, 0, 124, 255, 511, 0, 1024, 0, 0, 8192, 28672, 0, 126976, 261120, 523264, 0, 0, 3146751, 8388607]),
  (104, 7, [0, 0, 0, 6, 15, 31]),
  (109, 9, [0, 0, 3, 7, 0, 0, 48, 112, 255, 511]),
  (109, 11, [0, 0, 3, 7, 0, 0, 48, 112, 255, 511]),
  (113, 1, [0, 1, 0, 7, 15, 31]),
  (113, 6, [0, 0, 2, 0, 8, 30, 0, 64, 0, 256, 1022, 2046, 4095, 8191]),
  (115, 6, [0, 1, 3, 7, 15, 31, 63, 127, 255, 511, 255, 1279, 255, 255, 8447, 28927, 255, 127231, 261375, 523519, 1048575, 2097151, 4194303, 8388607]),
  (116, 4, [0, 1, 0, 0, 8, 28, 0, 124, 0, 256, 0, 0, 2048, 7168, 0, 31744, 0, 65536, 0, 0, 524288, 1835008, 0, 8126464, 16711680, 33488896, 0, 67108864, 0, 0, 536870912, 1879048192, 0, 8321499136, 17112760320, 34292629504, 68719411455, 137438888191, 274877906943, 549755813887]),
  (117, 1, [0, 1, 0, 0, 8, 28, 0, 124, 255, 511, 0, 1024, 0, 0, 8192, 28672, 0, 126976, 261120, 523264, 1048575, 2097151, 4194303, 4194303, 0, 25165823, 67108863]),
  (117, 8, [0, 1, 0, 0, 8, 28, 0, 124, 0, 256, 0, 0, 2048, 7168, 0, 31744, 65280, 130816, 0, 0, 786432, 2096896, 4194303, 8388607]),
  (119, 1, [0, 1, 0, 7, 15, 31]),
  (119, 2, [0, 1, 0, 4, 15, 0, 32, 0, 128, 480, 0, 1024, 0, 4096, 16352, 32767, 65535, 65535, 262143, 524287]),
  (121, 1, [0, 1, 0, 0, 8, 28, 0, 124, 0, 508, 1023, 2047, 0, 4096, 0, 0, 32768, 114688, 0, 507904, 1044480, 2093056, 4194303, 8388607, 16777215, 16777215, 0, 100663295, 268435455]),
  (122, 3, [0, 1, 0, 4, 15, 0, 32, 0, 128, 480, 0, 1024, 0, 4096, 16352, 32767, 65535, 131071]),
  (125, 16, [0, 0, 0, 6, 15, 31, 63, 127, 0, 0, 0, 1536, 3584, 7936, 16128, 32512, 65535, 131071]),
  (125, 17, [0, 0, 0, 4, 14, 30, 62, 127, 0, 0, 0, 1024, 3584, 7680, 15872, 32512, 255, 131071]),
  (125, 18, [0, 1, 3, 7, 7, 7, 39, 119, 247, 503, 1023, 7, 2055, 7, 7, 7, 49159, 114695, 253959, 516103, 1040391, 2095111, 4194303, 8388607]),
  (125, 43, [0, 0, 0, 0, 12, 30, 62, 126, 0, 0, 768, 1792, 3840, 8190, 16383, 32767]),
  (125, 55, [0, 0, 3, 7, 0, 0, 32, 112, 240, 0, 512, 2032, 4095, 8191, 16383]),
  (126, 8, [0, 1, 3, 7, 15, 0, 32, 96, 224, 511, 1023, 2047]),
  (130, 2, [0, 0, 0, 6, 15, 31, 0, 0, 0, 384, 896, 2015, 4095, 0, 0, 16384, 57344, 122880, 253952, 8191, 1048575]),
  (134, 1, [0, 1, 3, 0, 8, 31, 63, 127]),
  (135, 1, [0, 0, 2, 7, 15])]
def ahdGet : List (Nat × Nat × List Nat) → Nat → Nat → List Nat
  | [], _, _ => []
  | (f, k, m) :: l, f', k' => match Nat.beq f f' && Nat.beq k k' with
    | true => m
    | false => ahdGet l f' k'
def inlOf : List (Nat × Nat) := [(34, 61), (36, 61), (38, 61), (63, 61), (81, 61), (125, 138)]
def inlGet : List (Nat × Nat) → Nat → Nat → Bool
  | [], _, _ => false
  | (a, b) :: l, f, g => match Nat.beq a f && Nat.beq b g with
    | true => true
    | false => inlGet l f g
def thawOf : List (Nat × Nat) := [(34, 61), (36, 61), (38, 61), (63, 61), (81, 61)]
def tokOf : List Nat := [131]
def tokGet : List Nat → Nat → Bool
  | [], _ => false
  | a :: l, f => match Nat.beq a f with
    | true => true
    | false => tokGet l f
def twoOf : List (Nat × Nat × List (Nat × Nat)) := [(104, 5, [(11, 22), (14, 22), (19, 22)]), (116, 4, [(9, 37), (12, 37)])]
def twoGet : List (Nat × Nat × List (Nat × Nat)) → Nat → Nat → List (Nat × Nat)
  | [], _, _ => []
  | (a, b, p) :: l, f, k => match Nat.beq a f && Nat.beq b k with
    | true => p
    | false => twoGet l f k
noncomputable def cfg : Cfg where
  P := prog
  inl := inlGet inlOf
  arrm := fun _ => false
  tokm := tokGet tokOf
  two := twoGet twoOf
  thaw := inlGet thawOf
  mask := maskGet masksOf
  ord := ordGet ordsOf
  ahd := ahdGet ahsOf
  lib := fun _ => none
theorem at3 : cfg.P.funcs[3]? = some f3 := by kernel_rfl
theorem at13 : cfg.P.funcs[13]? = some f13 := by kernel_rfl
theorem at14 : cfg.P.funcs[14]? = some f14 := by kernel_rfl
theorem at15 : cfg.P.funcs[15]? = some f15 := by kernel_rfl
theorem at16 : cfg.P.funcs[16]? = some f16 := by kernel_rfl
theorem at17 : cfg.P.funcs[17]? = some f17 := by kernel_rfl
theorem at18 : cfg.P.funcs[18]? = some f18 := by kernel_rfl
theorem at19 : cfg.P.funcs[19]? = some f19 := by kernel_rfl
theorem at20 : cfg.P.funcs[20]? = some f20 := by kernel_rfl
theorem at21 : cfg.P.funcs[21]? = some f21 := by kernel_rfl
theorem at22 : cfg.P.funcs[22]? = some f22 := by kernel_rfl
theorem at23 : cfg.P.funcs[23]? = some f23 := by kernel_rfl
theorem at24 : cfg.P.funcs[24]? = some f24 := by kernel_rfl
theorem at25 : cfg.P.funcs[25]? = some f25 := by kernel_rfl
theorem at26 : cfg.P.funcs[26]? = some f26 := by kernel_rfl
theorem at28 : cfg.P.funcs[28]? = some f28 := by kernel_rfl
theorem at31 : cfg.P.funcs[31]? = some f31 := by kernel_rfl
theorem at32 : cfg.P.funcs[32]? = some f32 := by kernel_rfl
theorem at40 : cfg.P.funcs[40]? = some f40 := by kernel_rfl
theorem at56 : cfg.P.funcs[56]? = some f56 := by kernel_rfl
theorem at57 : cfg.P.funcs[57]? = some f57 := by kernel_rfl
theorem at58 : cfg.P.funcs[58]? = some f58 := by kernel_rfl
theorem at59 : cfg.P.funcs[59]? = some f59 := by kernel_rfl
theorem at60 : cfg.P.funcs[60]? = some f60 := by kernel_rfl
theorem at61 : cfg.P.funcs[61]? = some f61 := by kernel_rfl
theorem at62 : cfg.P.funcs[62]? = some f62 := by kernel_rfl
theorem at63 : cfg.P.funcs[63]? = some f63 := by kernel_rfl
theorem at64 : cfg.P.funcs[64]? = some f64 := by kernel_rfl
theorem at65 : cfg.P.funcs[65]? = some f65 := by kernel_rfl
theorem at66 : cfg.P.funcs[66]? = some f66 := by kernel_rfl
theorem at67 : cfg.P.funcs[67]? = some f67 := by kernel_rfl
theorem at69 : cfg.P.funcs[69]? = some f69 := by kernel_rfl
theorem at70 : cfg.P.funcs[70]? = some f70 := by kernel_rfl
theorem at71 : cfg.P.funcs[71]? = some f71 := by kernel_rfl
theorem at72 : cfg.P.funcs[72]? = some f72 := by kernel_rfl
theorem at76 : cfg.P.funcs[76]? = some f76 := by kernel_rfl
theorem at84 : cfg.P.funcs[84]? = some f84 := by kernel_rfl
theorem at86 : cfg.P.funcs[86]? = some f86 := by kernel_rfl
theorem at93 : cfg.P.funcs[93]? = some f93 := by kernel_rfl
theorem at94 : cfg.P.funcs[94]? = some f94 := by kernel_rfl
theorem at95 : cfg.P.funcs[95]? = some f95 := by kernel_rfl
theorem at96 : cfg.P.funcs[96]? = some f96 := by kernel_rfl
theorem at97 : cfg.P.funcs[97]? = some f97 := by kernel_rfl
theorem at98 : cfg.P.funcs[98]? = some f98 := by kernel_rfl
theorem at99 : cfg.P.funcs[99]? = some f99 := by kernel_rfl
theorem at100 : cfg.P.funcs[100]? = some f100 := by kernel_rfl
theorem at101 : cfg.P.funcs[101]? = some f101 := by kernel_rfl
theorem at102 : cfg.P.funcs[102]? = some f102 := by kernel_rfl
theorem at103 : cfg.P.funcs[103]? = some f103 := by kernel_rfl
theorem at109 : cfg.P.funcs[109]? = some f109 := by kernel_rfl
theorem at111 : cfg.P.funcs[111]? = some f111 := by kernel_rfl
theorem at112 : cfg.P.funcs[112]? = some f112 := by kernel_rfl
theorem at118 : cfg.P.funcs[118]? = some f118 := by kernel_rfl
theorem at123 : cfg.P.funcs[123]? = some f123 := by kernel_rfl
theorem at124 : cfg.P.funcs[124]? = some f124 := by kernel_rfl
theorem at125 : cfg.P.funcs[125]? = some f125 := by kernel_rfl
theorem at126 : cfg.P.funcs[126]? = some f126 := by kernel_rfl
theorem at127 : cfg.P.funcs[127]? = some f127 := by kernel_rfl
theorem at128 : cfg.P.funcs[128]? = some f128 := by kernel_rfl
theorem at129 : cfg.P.funcs[129]? = some f129 := by kernel_rfl
theorem at130 : cfg.P.funcs[130]? = some f130 := by kernel_rfl
theorem at131 : cfg.P.funcs[131]? = some f131 := by kernel_rfl
theorem at133 : cfg.P.funcs[133]? = some f133 := by kernel_rfl
theorem at136 : cfg.P.funcs[136]? = some f136 := by kernel_rfl
theorem at137 : cfg.P.funcs[137]? = some f137 := by kernel_rfl
theorem at138 : cfg.P.funcs[138]? = some f138 := by kernel_rfl
theorem at140 : cfg.P.funcs[140]? = some f140 := by kernel_rfl
end Go.Ab
