/- The settings of the interpreter for this seat. -/
import Derived.Test.YtiipgpkgcdhbfaaGreatDoorProg
import Derived.Test.YtiipgpkgcdhbfaaGreatDoorCP1
set_option maxRecDepth 100000
set_option linter.unusedVariables false
set_option linter.unusedSimpArgs false
set_option linter.unusedSectionVars false
namespace Go.Ab
abbrev qqZ:ByteArray:=⟨⟨[0,1,2,2,3,3,3,3,4,4,4,4,4,4,4,4,5,5,5,5,5,5,5,5,5,5,5,5,5,5,5,5,6,6,6,6,6,6,6,6,6,6,6,6,6,6,6,6,6,6,6,6,6,6,6,6,6,6,6,6,6,6,6,6,7,7,7,7,7,7,7,7,7,7,7,7,7,7,7,7,7,7,7,7,7,7,7,7,7,7,7,7,7,7,7,7,7,7,7,7,7,7,7,7,7,7,7,7,7,7,7,7,7,7,7,7,7,7,7,7,7,7,7,7,7,7,7,7,8,8,8,8,8,8,8,8,8,8,8,8,8,8,8,8,8,8,8,8,8,8,8,8,8,8,8,8,8,8,8,8,8,8,8,8,8,8,8,8,8,8,8,8,8,8,8,8,8,8,8,8,8,8,8,8,8,8,8,8,8,8,8,8,8,8,8,8,8,8,8,8,8,8,8,8,8,8,8,8,8,8,8,8,8,8,8,8,8,8,8,8,8,8,8,8,8,8,8,8,8,8,8,8,8,8,8,8,8,8,8,8,8,8,8,8,8,8,8,8,8,8,8,8,8,8,8,8]⟩⟩
open Go.Proofs.Tryz
def au:Nat->Nat->List Bool
 | 0,_=>[]
 | n+1,x=>Nat.beq (x % 2) 1::au n (x / 2)
def mM3 (n a b c:Nat):Masks:=⟨au n a,au n b,au n c⟩
def qn2:List (Nat×Nat×Masks):=[(3,17,⟨(au 122 1813388729421943762112512),(au 122 32768),(au 122 64)⟩),
 (4,19,⟨(au 186 72692156019487586799426948609895424),(au 186 814080),(au 186 256)⟩),
 (4,28,⟨(au 186 137015778499772148581595453067151533092764647424),(au 186 0),(au 186 256)⟩),
 (5,9,⟨(au 196 2115620184325601055735810),(au 196 0),(au 196 16)⟩),
 (5,25,⟨(au 196 670466799128826375531776824380375888017523967011062274),(au 196 2115620184325601055736322),(au 196 16)⟩),
 (7,15,⟨(au 105 2066035336255470798344),(au 105 1015808),(au 105 256)⟩),
 (9,13,⟨(au 152 252201579132804104),(au 152 49160),(au 152 256)⟩),
 (10,4,⟨(au 29 8),(au 29 8),(au 29 4)⟩),
 (11,4,⟨(au 21 1792),(au 21 0),(au 21 4)⟩),
 (12,3,⟨(au 22 1826),(au 22 32),(au 22 16)⟩),
 (14,3,⟨(au 32 99),(au 32 32),(au 32 16)⟩),
 (16,4,⟨(au 45 28770),(au 45 32),(au 45 16)⟩),
 (16,8,⟨(au 45 30562),(au 45 29282),(au 45 16)⟩),
 (17,11,⟨(au 123 31525197391598860),(au 123 4352),(au 123 192)⟩),
 (17,17,⟨(au 123 528905077606597655631116),(au 123 31525197391598860),(au 123 192)⟩),
 (17,28,⟨(au 123 1135814937804493543741046076215296),(au 123 4194304),(au 123 192)⟩),
 (18,4,⟨(au 50 229377),(au 50 0),(au 50 16)⟩),
 (18,8,⟨(au 50 29589729),(au 50 229601),(au 50 16)⟩),
 (19,3,⟨(au 49 114823),(au 49 128),(au 49 64)⟩),
 (19,7,⟨(au 49 29476487),(au 49 116359),(au 49 64)⟩),
 (24,7,⟨(au 72 481036337713),(au 72 561),(au 72 448)⟩),
 (25,5,⟨(au 37 114722),(au 37 0),(au 37 16)⟩),
 (26,3,⟨(au 68 918279),(au 68 775),(au 68 192)⟩),
 (26,8,⟨(au 68 30064771847),(au 68 768),(au 68 192)⟩),
 (26,12,⟨(au 68 15423227585287),(au 68 30064788231),(au 68 192)⟩),
 (27,4,⟨(au 26 12291),(au 26 0),(au 26 16)⟩),
 (36,6,⟨(au 85 469762055),(au 85 7),(au 85 192)⟩),
 (36,11,⟨(au 85 7),(au 85 3),(au 85 192)⟩),
 (43,8,⟨(au 77 29360321),(au 77 128),(au 77 48)⟩),
 (43,13,⟨(au 77 504403158294856897),(au 77 29361345),(au 77 48)⟩),
 (45,4,⟨(au 29 8),(au 29 8),(au 29 4)⟩),
 (47,3,⟨(au 32 99),(au 32 32),(au 32 16)⟩),
 (48,4,⟨(au 45 28770),(au 45 32),(au 45 16)⟩),
 (48,8,⟨(au 45 30562),(au 45 29282),(au 45 16)⟩),
 (49,6,⟨(au 44 58720896),(au 44 640),(au 44 112)⟩),
 (50,9,⟨(au 65 246290604626184),(au 65 4352),(au 65 768)⟩),
 (51,3,⟨(au 119 28716),(au 119 44),(au 119 16)⟩),
 (51,10,⟨(au 119 108086391056891916),(au 119 12),(au 119 16)⟩),
 (51,16,⟨(au 119 56668397794435742564364),(au 119 0),(au 119 16)⟩),
 (51,21,⟨(au 119 237684544211190807216374415884),(au 119 56668397794435742564364),(au 119 16)⟩),
 (52,3,⟨(au 33 49344),(au 33 192),(au 33 64)⟩),
 (53,4,⟨(au 47 28678),(au 47 6),(au 47 28)⟩),
 (54,3,⟨(au 18 25),(au 18 8),(au 18 4)⟩),
 (55,3,⟨(au 48 114738),(au 48 48),(au 48 16)⟩),
 (55,7,⟨(au 48 14795250),(au 48 115186),(au 48 16)⟩),
 (58,2,⟨(au 45 9),(au 45 0),(au 45 4)⟩),
 (58,4,⟨(au 45 1849),(au 45 57),(au 45 4)⟩),
 (59,3,⟨(au 88 234881054),(au 88 30),(au 88 12)⟩),
 (59,8,⟨(au 88 123145302310942),(au 88 30),(au 88 12)⟩),
 (60,3,⟨(au 57 7177),(au 57 8),(au 57 4)⟩),
 (61,3,⟨(au 67 7177),(au 67 8),(au 67 4)⟩),
 (62,6,⟨(au 71 7183),(au 71 1033),(au 71 768)⟩),
 (63,4,⟨(au 50 229377),(au 50 0),(au 50 16)⟩),
 (63,8,⟨(au 50 29589729),(au 50 229601),(au 50 16)⟩),
 (70,3,⟨(au 30 7219),(au 30 51),(au 30 16)⟩),
 (75,4,⟨(au 73 99),(au 73 32),(au 73 16)⟩),
 (75,8,⟨(au 73 483),(au 73 227),(au 73 16)⟩),
 (76,4,⟨(au 44 227),(au 44 32),(au 44 16)⟩),
 (77,7,⟨(au 45 35),(au 45 0),(au 45 16)⟩),
 (78,6,⟨(au 44 451),(au 44 64),(au 44 48)⟩),
 (82,5,⟨(au 37 114722),(au 37 0),(au 37 16)⟩),
 (83,3,⟨(au 25 114696),(au 25 8),(au 25 4)⟩),
 (86,8,⟨(au 87 27021597764255807),(au 87 32813),(au 87 4096)⟩),
 (87,3,⟨(au 25 803),(au 25 32),(au 25 16)⟩),
 (89,4,⟨(au 27 12291),(au 27 0),(au 27 16)⟩),
 (90,3,⟨(au 18 456),(au 18 8),(au 18 4)⟩),
 (91,7,⟨(au 128 3975),(au 128 1927),(au 128 64)⟩),
 (91,14,⟨(au 128 4487),(au 128 129),(au 128 64)⟩),
 (91,18,⟨(au 128 8873554201597605810476922437761),(au 128 129),(au 128 64)⟩),
 (99,2,⟨(au 29 3591),(au 29 4),(au 29 64)⟩),
 (101,13,⟨(au 106 56668397794435742638111),(au 106 73751),(au 106 1024)⟩),
 (103,10,⟨(au 85 126100789566382111),(au 85 8211),(au 85 1024)⟩),
 (104,7,⟨(au 49 14680325),(au 49 256),(au 49 192)⟩),
 (107,2,⟨(au 92 3587),(au 92 2),(au 92 16)⟩),
 (107,10,⟨(au 92 504403158265499235),(au 92 3587),(au 92 16)⟩),
 (108,3,⟨(au 64 28683),(au 64 9),(au 64 4)⟩),
 (108,9,⟨(au 64 120259113083),(au 64 28795),(au 64 4)⟩),
 (109,3,⟨(au 23 3592),(au 23 8),(au 23 4)⟩),
 (110,7,⟨(au 46 58721065),(au 46 768),(au 46 256)⟩),
 (111,8,⟨(au 78 240518168820),(au 78 244),(au 78 16)⟩),
 (111,13,⟨(au 78 492581209243892),(au 78 144),(au 78 16)⟩),
 (112,5,⟨(au 72 481036337162),(au 72 10),(au 72 4)⟩),
 (115,3,⟨(au 33 99),(au 33 32),(au 33 16)⟩),
 (119,5,⟨(au 84 160),(au 84 32),(au 84 16)⟩),
 (119,13,⟨(au 84 515),(au 84 515),(au 84 16)⟩),
 (119,15,⟨(au 84 515),(au 84 513),(au 84 16)⟩),
 (119,16,⟨(au 84 515),(au 84 515),(au 84 16)⟩),
 (119,18,⟨(au 84 515),(au 84 515),(au 84 16)⟩),
 (121,4,⟨(au 37 12294),(au 37 6),(au 37 28)⟩),
 (122,4,⟨(au 53 24579),(au 53 0),(au 53 16)⟩),
 (122,9,⟨(au 53 12884926499),(au 53 24579),(au 53 16)⟩),
 (124,3,⟨(au 36 29360153),(au 36 17),(au 36 0)⟩),
 (125,2,⟨(au 63 455),(au 63 199),(au 63 0)⟩),
 (125,7,⟨(au 63 71),(au 63 0),(au 63 0)⟩),
 (125,9,⟨(au 63 455),(au 63 199),(au 63 0)⟩),
 (127,4,⟨(au 71 14680098),(au 71 32),(au 71 16)⟩),
 (127,8,⟨(au 71 1893728738),(au 71 14680418),(au 71 16)⟩),
 (130,7,⟨(au 60 117440610),(au 60 96),(au 60 16)⟩),
 (131,7,⟨(au 49 35),(au 49 0),(au 49 16)⟩),
 (132,7,⟨(au 59 29360322),(au 59 64),(au 59 48)⟩),
 (133,2,⟨(au 22 9),(au 22 9),(au 22 4)⟩),
 (136,6,⟨(au 27 24),(au 27 8),(au 27 4)⟩),
 (137,11,⟨(au 98 1539),(au 98 513),(au 98 112)⟩),
 (137,14,⟨(au 98 7683),(au 98 3587),(au 98 112)⟩),
 (141,6,⟨(au 30 1835016),(au 30 8),(au 30 4)⟩),
 (142,4,⟨(au 45 1610612748),(au 45 0),(au 45 16)⟩),
 (143,2,⟨(au 17 225),(au 17 0),(au 17 4)⟩),
 (144,4,⟨(au 26 12291),(au 26 0),(au 26 16)⟩),
 (145,2,⟨(au 19 387),(au 19 0),(au 19 16)⟩),
 (158,4,⟨(au 32 229382),(au 32 0),(au 32 64)⟩),
 (159,4,⟨(au 26 12291),(au 26 0),(au 26 16)⟩),
 (160,4,⟨(au 32 229382),(au 32 0),(au 32 64)⟩),
 (162,5,⟨(au 62 31525197391593472),(au 62 0),(au 62 4)⟩),
 (164,2,⟨(au 21 9),(au 21 9),(au 21 4)⟩),
 (165,1,⟨(au 53 271),(au 53 0),(au 53 0)⟩),
 (165,4,⟨(au 53 783),(au 53 271),(au 53 0)⟩),
 (166,3,⟨(au 220 3091),(au 220 1027),(au 220 0)⟩),
 (166,9,⟨(au 220 9217),(au 220 0),(au 220 0)⟩),
 (166,15,⟨(au 220 49173),(au 220 16389),(au 220 0)⟩),
 (166,21,⟨(au 220 147457),(au 220 0),(au 220 0)⟩),
 (166,33,⟨(au 220 8126495),(au 220 1835039),(au 220 0)⟩),
 (170,4,⟨(au 41 451),(au 41 192),(au 41 48)⟩),
 (172,4,⟨(au 42 899),(au 42 384),(au 42 64)⟩),
 (178,2,⟨(au 134 783),(au 134 0),(au 134 0)⟩),
 (180,2,⟨(au 19 387),(au 19 0),(au 19 16)⟩),
 (183,2,⟨(au 26 3),(au 26 1),(au 26 16)⟩),
 (184,3,⟨(au 19 456),(au 19 8),(au 19 4)⟩),
 (185,2,⟨(au 96 3587),(au 96 2),(au 96 16)⟩),
 (185,10,⟨(au 96 8070450532247932515),(au 96 3587),(au 96 16)⟩),
 (186,2,⟨(au 58 3093),(au 58 1045),(au 58 0)⟩),
 (187,14,⟨(au 315 32256),(au 315 13824),(au 315 112)⟩),
 (187,18,⟨(au 315 228864),(au 315 97792),(au 315 112)⟩),
 (187,24,⟨(au 315 1096126227998177188652763624537212264741950291456),(au 315 884224),(au 315 112)⟩),
 (187,41,⟨(au 315 165641912322973530898434140694648610858826615332089277323900581371805184),(au 315 622080),(au 315 112)⟩),
 (187,51,⟨(au 315 11656013353354374425516771440941113439854441034312837127510874458433425711231284553216),(au 315 33562624),(au 315 112)⟩),
 (190,1,⟨(au 49 71),(au 49 0),(au 49 0)⟩),
 (190,4,⟨(au 49 199),(au 49 71),(au 49 0)⟩),
 (191,4,⟨(au 56 961),(au 56 449),(au 56 0)⟩),
 (191,8,⟨(au 56 1217),(au 56 0),(au 56 0)⟩),
 (192,5,⟨(au 65 963),(au 65 0),(au 65 0)⟩),
 (194,2,⟨(au 32 193),(au 32 0),(au 32 0)⟩),
 (195,3,⟨(au 133 391),(au 133 0),(au 133 64)⟩),
 (195,5,⟨(au 133 391),(au 133 391),(au 133 64)⟩),
 (195,14,⟨(au 133 903),(au 133 391),(au 133 64)⟩),
 (195,20,⟨(au 133 1415),(au 133 391),(au 133 64)⟩),
 (197,3,⟨(au 84 1539),(au 84 1539),(au 84 256)⟩),
 (197,5,⟨(au 84 1539),(au 84 1539),(au 84 256)⟩),
 (198,3,⟨(au 168 3075),(au 168 3075),(au 168 768)⟩),
 (198,5,⟨(au 168 3075),(au 168 3075),(au 168 768)⟩),
 (198,13,⟨(au 168 3075),(au 168 3075),(au 168 768)⟩),
 (198,15,⟨(au 168 3075),(au 168 3075),(au 168 768)⟩),
 (201,1,⟨(au 38 1039),(au 38 0),(au 38 0)⟩),
 (202,4,⟨(au 43 451),(au 43 192),(au 43 48)⟩),
 (204,3,⟨(au 40 28706),(au 40 32),(au 40 16)⟩),
 (207,1,⟨(au 76 269),(au 76 0),(au 76 0)⟩),
 (215,1,⟨(au 167 19),(au 167 19),(au 167 0)⟩)]
def qoA:List (Nat×Nat×List Nat):=[(6,13,[0,1,2,3,4,5,6,8,7,9,10,11,12,13,14,15,16,17,18,19,20,21,22,23]),(9,19,[0,1,2,4,5,6,3,7,8,9]),(9,29,[0,1,2,4,5,6,7,3,8,9]),(59,12,[0,1,2,3,4,5,6,7,8,9,10,11,12,13,14,15,16]),(67,1,[0,1,3,4,2,5,6,7]),(97,1,[0,1,2,3,4,5,6,8,7,9,10,11])]
def qii:List (Nat×Nat×List Nat):=[(3,19,[0,0,3,7,15,0,0,96,224,480,1023,2047,4095,4095,16383,32767,65535,4095,4095,397311,921599,1970175,4194303,8388607,16777215]),
 (3,21,[0,0,0,6,14,30,63,127]),
 (3,23,[0,0,3,7,15,31,63]),
 (4,30,[0,0,3,7,15,0,0,96,224,480,1023,2047,4095,4095,16383,32767,65535,4095,4095,397311,921599,1970175,4194303,8388607,16777215]),
 (6,13,[0,1,3,7,7,7,7,103,7,503,1023,2047,4095,8191,16383,32767,65535,131071,262143,524287,1048575,2097151,4194303,8388607]),
 (7,18,[0,0,0,6,15,31]),
 (8,2,[0,1,0,4,0,16,48,112,252,0,512,0,2048,6144,14336,32256,65535,131071]),
 (8,14,[0,0,2,6,15,0,32,96,255,0,512,1536,4095,8191]),
 (8,15,[0,1,0,0,8,0,56,120,0,504,1023,2047]),
 (9,19,[0,0,2,7,0,0,32,127,255,511]),
 (9,24,[0,0,0,6,15,0,0,64,224,511,1023]),
 (9,26,[0,1,0,7,15,31,63,127,255,511,1023]),
 (9,29,[0,0,2,7,0,16,48,112,255,511]),
 (17,13,[0,1,3,7,0,31,63,0,0,384,0,0,3199,8191]),
 (17,19,[0,0,0,4,14,30,0,126,255,0,1023]),
 (19,10,[0,0,0,6,15,31]),
 (22,1,[0,1,0,7,15,31]),
 (22,2,[0,1,0,4,15,0,32,0,128,511,0,1024,0,4096,16383,32767,65535,131071]),
 (22,3,[0,1,0,0,12,31,63]),
 (24,3,[0,0,3,7,15,31,31,95,223,479,991,2047,4095,8191]),
 (27,6,[0,0,3,7,0,0,48,112,255]),
 (34,3,[0,1,3,7,7,23,55,119,247,511,1023,2047,4095,8191,4095,20479,53247,118783,4095,511999,1036287,2097151,4194303,8388607,16777215,16777215,67108863,134217727]),
 (36,12,[0,1,3,7,0,31,63,127,0,0,512,1536,3584,0,15872,32256,65024,130816,261888,524287,1048575,2097151]),
 (39,3,[0,0,3,7,15,31,63,127,255,511,511,1535,3583,7679,15871,32767,65535,131071,262143,524287,1048575,2097151,4194303,4194303,12582911,29360127,62914559,4194303,264241151,532676607,1073741823,2147483647]),
 (43,11,[0,1,3,7,0,31,63,127,0,256,768,1792,0,7936,16128,32512,65535,0,262143]),
 (44,3,[0,1,3,7,0,31,63]),
 (46,3,[0,1,3,7,7,31,63,127]),
 (50,11,[0,1,0,4,0,0,0,64,252,508,1023,2047,4095]),
 (51,12,[0,1,0,7,15,0,32,0,224,480,1023,2047]),
 (51,18,[0,1,0,7,15,31,0,64,0,448,960,1984,4095]),
 (51,23,[0,1,0,7,15,0,63,127,0,256,0,1792,3840,0,16128,32512,65535]),
 (52,5,[0,1,0,4,15,31,63]),
 (52,6,[0,1,0,0,0,24,63,127]),
 (53,6,[0,1,0,7,15,0,32,0,0,256,0,1024,4064,8191,16383]),
 (53,9,[0,1,0,4,12,28,63,127,0,511,1023,2047,4095]),
 (56,4,[0,1,3,7,15,31,15,127,255,511,1023]),
 (59,1,[0,1,0,4,12,28,63,0,128,511,0,2047]),
 (59,10,[0,1,0,4,0,16,0,64,192,448,1008,0,2048,0,8192,24576,57344,129024,262140,524284,1048575,2097151,4194303]),
 (59,12,[0,1,0,4,0,16,48,112,252,0,512,0,2048,8191,0,16383,65535]),
 (60,6,[0,1,3,7,15,31,63,63,191,511,1023,63,4095,8191,16383,32767,32767,98303,262143,524287,1048575,32767,2129919,8388607,16777215,33554431,67108863]),
 (60,10,[0,0,3,7]),
 (61,6,[0,1,3,7,15,31,63,127,63,319,831,1855,4095,8191,16383,32767,65535,32767,163839,425983,950271,2097151,4194303,8388607,16777215,33554431,67108863,33554431,33554431,301989887,973078527,2046820351,4194303999,8589934591,17179869183,34359738367,68719476735]),
 (61,10,[0,0,3,7]),
 (67,1,[0,0,3,0,0,31,63,127]),
 (69,1,[0,1,0,4,15,0,32,0,128,480,0,1024,0,4096,16352,32767,65535]),
 (71,5,[0,1,0,4,15,0,32,0,128,511,0,1024,0,4096,16383,32767,65535,131071]),
 (71,7,[0,1,0,0,12,0,63,127]),
 (75,10,[0,0,3,7,15,0,0,96,224,480,1023,0,0,0,12288,30720,63488,129024,262143,0,1048575,2097151]),
 (77,9,[0,0,3,7,0,0,48,112,255]),
 (77,10,[0,0,3,7,0,0,48,112,255]),
 (87,5,[0,0,0,6,14,31,0,0,192,448,1023,2047]),
 (89,6,[0,0,3,7,0,0,48,112,255,511]),
 (91,16,[0,1,0,0,8,0,0,0,192,0,512,0,3584,8160,16380,32764,65535,131071,262143]),
 (91,23,[0,0,2,6,14,0,32,126,255,511,1023]),
 (97,1,[0,0,3,7,15,31,31,127,31,511,1023,2047]),
 (98,1,[0,0,0,4,15,31]),
 (101,7,[0,0,2,6,14,0,62,126,254,0,512,1536,3584,0,15872,32256,65024,131071,262143]),
 (105,1,[0,1,0,4,12,3,63]),
 (106,1,[0,1,0,4,12,3,63]),
 (107,7,[0,1,3,7,15,31,15,79,255,511,1023,2047,4095,8191,16383,32767,65535,131071,262143,65535,65535,1114111,3735551,7929855,16777215,33554431]),
 (107,12,[0,1,3,7,7,31,63,127,255,255,1023,2047,4095,8191,16383,32767,32767,131071,262143,524287,32767,1081343,4194303,8388607,16777215]),
 (110,9,[0,0,0,4,14,30,0,126,0,0,768,1792,4094,8191,16383]),
 (111,16,[0,0,0,4,0,28,60,126,255,511]),
 (117,1,[0,1,0,7,15,31]),
 (117,2,[0,1,0,4,15,0,32,0,128,480,0,1024,0,4096,16352,32767,65535,131071,131071,0,786431,2097151]),
 (119,6,[0,0,0,6,3,31]),
 (121,6,[0,1,0,7,15,0,0,96,255,511]),
 (122,6,[0,0,3,7,15,0,0,96,224,480,1023]),
 (122,11,[0,0,3,7,0,31,63,0,0,384,896,0,3968,8064,16383]),
 (131,9,[0,0,3,7,0,0,48,112,255,511]),
 (131,11,[0,0,3,7,0,0,48,112,255,511]),
 (134,1,[0,0,2,7,15]),
 (139,5,[0,1,3,7,15,0,32,96,224,511]),
 (139,7,[0,0,2,6,14,0,32,126,255,511,1023]),
 (139,8,[0,1,3,7,0,0,32,96,224,480,992,2047]),
 (142,6,[0,1,0,7,15,0,32,0,224,480,1023]),
 (144,6,[0,0,3,7,0,0,48,112,255]),
 (153,1,[0,1,0,7,15,31]),
 (153,6,[0,0,2,0,8,30,0,64,0,256,1022,2046,4095,8191]),
 (155,8,[0,1,3,7,15,0,32,96,224,511,1023,2047]),
 (159,6,[0,0,3,7,0,0,48,112,255]),
 (165,4,[0,0,3,7,15,15,15,111,239,15,15,1039,3599,7695,16383,32767,65535]),
 (165,6,[0,0,0,0,8,0,0,64,224,480,0,0,3072,7168,16355,32739,65535,131071]),
 (166,5,[0,0,0,6,14,0,0,96,224,511,1023]),
 (166,11,[0,0,0,0,8,0,0,64,224,480,0,0,3072,7168,16355,32739,65535,131071]),
 (166,17,[0,0,0,6,14,0,0,96,224,511,1023,2047]),
 (166,23,[0,0,0,0,8,0,0,64,224,480,0,0,3072,7168,16355,32739,65535,131071]),
 (166,35,[0,0,0,0,12,30,62,0,0,384,896,2047,4095,8191]),
 (171,2,[0,0,0,6,15,31,0,0,0,384,896,2015,4095,0,0,16384,57344,122880,253952,8191,1048575]),
 (178,17,[0,1,3,7,7,23,63,127,7,7,775,1799,4095,8191,16383]),
 (182,8,[0,1,3,7,0,16,48,112,240,511,1023,2047]),
 (185,7,[0,1,3,7,15,31,15,79,255,511,1023,2047,4095,8191,16383,32767,65535,131071,262143,65535,65535,1114111,3735551,7929855,16777215,33554431]),
 (185,12,[0,1,3,7,7,31,63,127,255,255,1023,2047,4095,8191,16383,32767,32767,131071,262143,524287,32767,1081343,4194303,8388607,16777215]),
 (187,16,[0,0,0,6,15,31,63,127,0,0,0,1536,3584,7936,16128,32512,65535,131071]),
 (187,17,[0,0,0,4,14,30,62,127,0,0,0,1024,3584,7680,15872,32512,255,131071]),
 (187,18,[0,1,3,7,7,7,39,119,247,503,1023,7,2055,7,7,7,49159,114695,253959,516103,1040391,2095111,4194303,8388607]),
 (187,43,[0,0,0,0,12,30,62,126,0,0,768,1792,3840,8190,16383,32767]),
 (187,55,[0,0,3,7,0,0,32,112,240,0,512,2032,4095,8191,16383]),
 (190,4,[0,0,3,7,15,15,63,127,15,15,527,1807,3855,8191,16383]),
 (190,6,[0,0,0,0,8,0,0,64,224,480,0,0,3072,7168,16355,32739,65535,131071]),
 (191,10,[0,0,0,0,0,24,0,0,0,384,960,1984,0,0,12288,28672,65475,131011,262143,524287]),
 (192,10,[0,0,0,0,0,24,0,0,0,384,960,1984,0,0,12288,28672,65475,131011,262143,524287]),
 (194,3,[0,0,0,0,0,0,48,112,0,0,768,1792,4083,8179,16383,32767]),
 (195,5,[0,0,3,7,15,15,63,127,15,15,527,1807,3855,8191,16383,32767]),
 (195,11,[0,0,0,0,8,0,0,64,224,480,0,0,3072,7168,16355,32739,65535,131071]),
 (195,16,[0,0,3,7,0,0,32,112,240,511,1023]),
 (195,17,[0,0,0,0,8,0,0,64,224,480,0,0,3072,7168,16355,32739,65535,131071]),
 (195,22,[0,0,3,7,0,0,32,112,240,511,1023]),
 (195,23,[0,0,0,0,8,0,0,64,224,480,0,0,3072,7168,16355,32739,65535,131071]),
 (197,1,[0,0,0,0,0,0,48,112,0,0,768,1792,4083,8179,16383,32767]),
 (197,3,[0,0,3,7,15,15,63,127,15,15,783,1807,4095,8191,16383]),
 (197,5,[0,0,3,7,15,15,63,127,15,15,783,1807,4095,8191]),
 (197,8,[0,0,0,0,0,0,48,112,0,0,768,1792,4083,8179,16383,32767]),
 (198,1,[0,0,0,0,0,0,48,112,0,0,768,1792,4083,8179,16383,32767]),
 (198,3,[0,0,3,7,15,15,63,127,15,15,783,1807,4095,8191]),
 (198,5,[0,0,3,7,15,15,63,127,15,15,783,1807,4095,8191,16383]),
 (198,8,[0,0,0,0,0,0,48,112,0,0,768,1792,4083,8179,16383,32767]),
 (198,10,[0,0,0,0,0,0,48,112,0,0,768,1792,4083,8179,16383,32767]),
 (198,13,[0,0,3,7,15,15,63,127,15,15,783,1807,4095,8191]),
 (198,15,[0,0,3,7,15,15,63,127,15,15,783,1807,4095,8191,16383]),
 (198,18,[0,0,0,0,0,0,48,112,0,0,768,1792,4083,8179,16383,32767]),
 (198,21,[0,0,0,0,0,0,48,112,0,0,768,1792,4083,8179,16383,32767]),
 (201,3,[0,0,0,6,0,0,0,96,0,0,0,1536,3840,7936,0,0,0,98304,245760,507904,1048335,2096911,4194303,8388607]),
 (207,3,[0,1,0,7,15,31,31,31,223,511,1023,31,31,31,12319,28703,63519,129055,262143,524287]),
 (207,5,[0,0,0,6,15,31,0,0,0,384,960,1984,4095,8191]),
 (207,6,[0,0,0,6,0,0,0,96,0,0,0,1536,3840,7936,0,0,0,98304,245760,507904,1048335,2096911,4194303,8388607]),
 (209,1,[0,1,3,0,8,24,56,127,255,511]),
 (209,2,[0,1,3,0,8,24,56,127,255,511]),
 (209,3,[0,1,3,0,8,24,56,127,255,511]),
 (215,7,[0,0,2,0,0,16,0,64,192,0,512,455,2503,8191,16383]),
 (215,8,[0,0,2,0,0,16,0,64,192,0,512,455,2503,8191,16383]),
 (215,9,[0,0,2,0,0,16,0,64,192,0,512,455,2503,8191,16383]),
 (215,10,[0,0,2,0,0,16,0,64,192,0,512,455,2503,8191,16383]),
 (215,17,[0,0,2,0,0,16,0,64,192,0,512,455,2503,8191,16383]),
 (215,18,[0,0,2,0,0,16,0,64,192,0,512,455,2503,8191,16383]),
 (215,23,[0,0,2,0,0,16,0,64,192,0,512,455,2503,8191,16383]),
 (217,1,[0,0,3,7,0,0,48,112,255])]
def TS:List (Nat×Nat×List Nat)->Nat->Nat->List Nat
 | [],_,_=>[]
 | (f,k,m)::l,f',k'=>match Nat.beq f f' && Nat.beq k k' with
  | true=>m
  | false=>TS l f' k'
def qns:List (Nat×Nat):=[(50,110),(52,111),(108,99),(187,204)]
def BE:List (Nat×Nat)->Nat->Nat->Bool
 | [],_,_=>false
 | (a,b)::l,f,g=>match Nat.beq a f && Nat.beq b g with
  | true=>true
  | false=>BE l f g
def qqd:List (Nat×Nat):=[]
def qlB:List (Nat×Nat):=[(108,99)]
def qqf:List Nat:=[172]
def zT:List Nat->Nat->Bool
 | [],_=>false
 | a::l,f=>match Nat.beq a f with
  | true=>true
  | false=>zT l f
def qqm:List (Nat×Nat×List (Nat×Nat)):=[(59,12,[(14,15)])]
def Z7:List (Nat×Nat×List (Nat×Nat))->Nat->Nat->List (Nat×Nat)
 | [],_,_=>[]
 | (a,b,p)::l,f,k=>match Nat.beq a f && Nat.beq b k with
  | true=>p
  | false=>Z7 l f k
def qnF:List (Nat×Nat×List (Nat×List Nat)):=[(6,13,[(7,[3]),(9,[3])]),(50,11,[(8,[1])]),(52,5,[(2,[1])]),(52,6,[(5,[1])]),(67,1,[(2,[3])]),(91,16,[(14,[1])]),(97,1,[(7,[8])]),(98,1,[(3,[0,1])])]
def Xj:List (Nat×Nat×List (Nat×List Nat))->Nat->Nat->List (Nat×List Nat)
 | [],_,_=>[]
 | (a,b,p)::l,f,k=>match Nat.beq a f && Nat.beq b k with
  | true=>p
  | false=>Xj l f k
def qpx:List (Nat×Nat):=[(6,13),(24,3),(34,3),(39,3),(50,11),(52,5),(52,6),(67,1),(91,16),(97,1),(98,1),(101,7),(165,4),(166,5),(166,17),(166,35)]
def qnt:List Nat:=[15,17,24,28,29,30,32,33,34,35,36,37,38,39,40,41,42,43,44,49,50,62,65,66,67,68,80,81,84,91,92,93,95,96,97,98,99,100,101,102,103,104,105,106,108,115,124,125,139,145,146,147,165,166,186,201]
def qoh:List (Nat×Nat):=[]
def Mv:List Nat:=[140,177]
noncomputable def ae:Cfg where
 P:=prog
 inl:=fun f g=>match zT qnt g with | true=>(match BE qoh f g with | true=>false | false=>true) | false=>BE qns f g
 ben:=zT Mv
 seqm:=BE qpx
 late:=Xj qnF
 frzc:=BE qlB
 arrm:=zT [50,52,54,65,104,124]
 tokm:=zT qqf
 two:=Z7 qqm
 thaw:=BE qqd
 mask:=XV qn2
 ord:=Yr qoA
 ahd:=TS qii
 lib:=fun g=>match Nat.beq g 141 with | true=>some zz | false=>none
 libm:=fun g=>match Nat.beq g 148 with | true=>some zQ | false=>match Nat.beq g 149 with | true=>some yx | false=>none
theorem at3:ae.P.funcs[3]?=some f3:=by kernel_rfl
theorem at6:ae.P.funcs[6]?=some f6:=by kernel_rfl
theorem qiG:ae.P.funcs[11]?=some f11:=by kernel_rfl
theorem qiP:ae.P.funcs[12]?=some f12:=by kernel_rfl
theorem qjc:ae.P.funcs[15]?=some f15:=by kernel_rfl
theorem qjs:ae.P.funcs[17]?=some f17:=by kernel_rfl
theorem qjw:ae.P.funcs[18]?=some f18:=by kernel_rfl
theorem qjE:ae.P.funcs[20]?=some f20:=by kernel_rfl
theorem qjJ:ae.P.funcs[21]?=some f21:=by kernel_rfl
theorem qjK:ae.P.funcs[22]?=some f22:=by kernel_rfl
theorem qjL:ae.P.funcs[23]?=some f23:=by kernel_rfl
theorem qjM:ae.P.funcs[30]?=some f30:=by kernel_rfl
theorem qjN:ae.P.funcs[31]?=some f31:=by kernel_rfl
theorem qjO:ae.P.funcs[32]?=some f32:=by kernel_rfl
theorem qjP:ae.P.funcs[33]?=some f33:=by kernel_rfl
theorem qjQ:ae.P.funcs[34]?=some f34:=by kernel_rfl
theorem qjR:ae.P.funcs[41]?=some f41:=by kernel_rfl
theorem qjS:ae.P.funcs[43]?=some f43:=by kernel_rfl
theorem qjT:ae.P.funcs[44]?=some f44:=by kernel_rfl
theorem qjU:ae.P.funcs[45]?=some f45:=by kernel_rfl
theorem qjV:ae.P.funcs[46]?=some f46:=by kernel_rfl
theorem qjW:ae.P.funcs[47]?=some f47:=by kernel_rfl
theorem qjX:ae.P.funcs[48]?=some f48:=by kernel_rfl
theorem qjY:ae.P.funcs[49]?=some f49:=by kernel_rfl
theorem qjZ:ae.P.funcs[50]?=some f50:=by kernel_rfl
theorem qj0:ae.P.funcs[51]?=some f51:=by kernel_rfl
theorem qj1:ae.P.funcs[52]?=some f52:=by kernel_rfl
theorem qj2:ae.P.funcs[53]?=some f53:=by kernel_rfl
theorem qj3:ae.P.funcs[57]?=some f57:=by kernel_rfl
theorem qj4:ae.P.funcs[62]?=some f62:=by kernel_rfl
theorem qj5:ae.P.funcs[63]?=some f63:=by kernel_rfl
theorem qj6:ae.P.funcs[64]?=some f64:=by kernel_rfl
theorem qj7:ae.P.funcs[65]?=some f65:=by kernel_rfl
theorem qj8:ae.P.funcs[66]?=some f66:=by kernel_rfl
theorem qj9:ae.P.funcs[67]?=some f67:=by kernel_rfl
theorem qka:ae.P.funcs[68]?=some f68:=by kernel_rfl
theorem qkb:ae.P.funcs[69]?=some f69:=by kernel_rfl
theorem qkc:ae.P.funcs[70]?=some f70:=by kernel_rfl
theorem qkd:ae.P.funcs[71]?=some f71:=by kernel_rfl
theorem qke:ae.P.funcs[72]?=some f72:=by kernel_rfl
theorem qkf:ae.P.funcs[73]?=some f73:=by kernel_rfl
theorem qkg:ae.P.funcs[74]?=some f74:=by kernel_rfl
theorem qkh:ae.P.funcs[75]?=some f75:=by kernel_rfl
theorem qki:ae.P.funcs[76]?=some f76:=by kernel_rfl
theorem qkj:ae.P.funcs[77]?=some f77:=by kernel_rfl
theorem qkk:ae.P.funcs[78]?=some f78:=by kernel_rfl
theorem qkl:ae.P.funcs[79]?=some f79:=by kernel_rfl
theorem qkm:ae.P.funcs[80]?=some f80:=by kernel_rfl
theorem qkn:ae.P.funcs[81]?=some f81:=by kernel_rfl
theorem qko:ae.P.funcs[84]?=some f84:=by kernel_rfl
theorem qkp:ae.P.funcs[88]?=some f88:=by kernel_rfl
theorem qkq:ae.P.funcs[89]?=some f89:=by kernel_rfl
theorem qkr:ae.P.funcs[91]?=some f91:=by kernel_rfl
theorem qks:ae.P.funcs[92]?=some f92:=by kernel_rfl
theorem qkt:ae.P.funcs[93]?=some f93:=by kernel_rfl
theorem qku:ae.P.funcs[94]?=some f94:=by kernel_rfl
theorem qkv:ae.P.funcs[95]?=some f95:=by kernel_rfl
theorem qkw:ae.P.funcs[96]?=some f96:=by kernel_rfl
theorem qkx:ae.P.funcs[97]?=some f97:=by kernel_rfl
theorem qky:ae.P.funcs[98]?=some f98:=by kernel_rfl
theorem qkz:ae.P.funcs[99]?=some f99:=by kernel_rfl
theorem qiB:ae.P.funcs[104]?=some f104:=by kernel_rfl
theorem qiC:ae.P.funcs[106]?=some f106:=by kernel_rfl
theorem qiD:ae.P.funcs[107]?=some f107:=by kernel_rfl
theorem qiE:ae.P.funcs[108]?=some f108:=by kernel_rfl
theorem qiF:ae.P.funcs[109]?=some f109:=by kernel_rfl
theorem qiH:ae.P.funcs[110]?=some f110:=by kernel_rfl
theorem qiI:ae.P.funcs[111]?=some f111:=by kernel_rfl
theorem qiJ:ae.P.funcs[112]?=some f112:=by kernel_rfl
theorem qiK:ae.P.funcs[113]?=some f113:=by kernel_rfl
theorem qiL:ae.P.funcs[114]?=some f114:=by kernel_rfl
theorem qiM:ae.P.funcs[116]?=some f116:=by kernel_rfl
theorem qiN:ae.P.funcs[117]?=some f117:=by kernel_rfl
theorem qiO:ae.P.funcs[119]?=some f119:=by kernel_rfl
theorem qiQ:ae.P.funcs[123]?=some f123:=by kernel_rfl
theorem qiR:ae.P.funcs[124]?=some f124:=by kernel_rfl
theorem qiS:ae.P.funcs[125]?=some f125:=by kernel_rfl
theorem qiT:ae.P.funcs[126]?=some f126:=by kernel_rfl
theorem qiU:ae.P.funcs[127]?=some f127:=by kernel_rfl
theorem qiV:ae.P.funcs[128]?=some f128:=by kernel_rfl
theorem qiW:ae.P.funcs[129]?=some f129:=by kernel_rfl
theorem qiX:ae.P.funcs[130]?=some f130:=by kernel_rfl
theorem qiY:ae.P.funcs[131]?=some f131:=by kernel_rfl
theorem qiZ:ae.P.funcs[132]?=some f132:=by kernel_rfl
theorem qi0:ae.P.funcs[133]?=some f133:=by kernel_rfl
theorem qi1:ae.P.funcs[134]?=some f134:=by kernel_rfl
theorem qi2:ae.P.funcs[135]?=some f135:=by kernel_rfl
theorem qi3:ae.P.funcs[136]?=some f136:=by kernel_rfl
theorem qi4:ae.P.funcs[137]?=some f137:=by kernel_rfl
theorem qi5:ae.P.funcs[139]?=some f139:=by kernel_rfl
theorem qi6:ae.P.funcs[141]?=some f141:=by kernel_rfl
theorem qi7:ae.P.funcs[142]?=some f142:=by kernel_rfl
theorem qi8:ae.P.funcs[143]?=some f143:=by kernel_rfl
theorem qi9:ae.P.funcs[144]?=some f144:=by kernel_rfl
theorem qja:ae.P.funcs[145]?=some f145:=by kernel_rfl
theorem qjb:ae.P.funcs[148]?=some f148:=by kernel_rfl
theorem qjd:ae.P.funcs[150]?=some f150:=by kernel_rfl
theorem qje:ae.P.funcs[151]?=some f151:=by kernel_rfl
theorem qjf:ae.P.funcs[152]?=some f152:=by kernel_rfl
theorem qjg:ae.P.funcs[153]?=some f153:=by kernel_rfl
theorem qjh:ae.P.funcs[154]?=some f154:=by kernel_rfl
theorem qji:ae.P.funcs[155]?=some f155:=by kernel_rfl
theorem qjj:ae.P.funcs[156]?=some f156:=by kernel_rfl
theorem qjk:ae.P.funcs[157]?=some f157:=by kernel_rfl
theorem qjl:ae.P.funcs[163]?=some f163:=by kernel_rfl
theorem qjm:ae.P.funcs[164]?=some f164:=by kernel_rfl
theorem qjn:ae.P.funcs[165]?=some f165:=by kernel_rfl
theorem qjo:ae.P.funcs[166]?=some f166:=by kernel_rfl
theorem qjp:ae.P.funcs[167]?=some f167:=by kernel_rfl
theorem qjq:ae.P.funcs[168]?=some f168:=by kernel_rfl
theorem qjr:ae.P.funcs[169]?=some f169:=by kernel_rfl
theorem qjt:ae.P.funcs[170]?=some f170:=by kernel_rfl
theorem qju:ae.P.funcs[171]?=some f171:=by kernel_rfl
theorem qjv:ae.P.funcs[172]?=some f172:=by kernel_rfl
theorem qjx:ae.P.funcs[180]?=some f180:=by kernel_rfl
theorem qjy:ae.P.funcs[181]?=some f181:=by kernel_rfl
theorem qjz:ae.P.funcs[182]?=some f182:=by kernel_rfl
theorem qjA:ae.P.funcs[183]?=some f183:=by kernel_rfl
theorem qjB:ae.P.funcs[186]?=some f186:=by kernel_rfl
theorem qjC:ae.P.funcs[187]?=some f187:=by kernel_rfl
theorem qjD:ae.P.funcs[199]?=some f199:=by kernel_rfl
theorem qjF:ae.P.funcs[201]?=some f201:=by kernel_rfl
theorem qjG:ae.P.funcs[202]?=some f202:=by kernel_rfl
theorem qjH:ae.P.funcs[203]?=some f203:=by kernel_rfl
theorem qjI:ae.P.funcs[204]?=some f204:=by kernel_rfl
noncomputable def bX (f:Nat) (c:Code) (i:Nat) (l:List AV) (m:af) (K:KT):OM:=qO (cq ae f (AP ae) (AC ae) c) (ae.mask f (some i)) ⟨l,m⟩ K
noncomputable abbrev nY (f:Nat) (c:Code) (i:Nat) (K:KT):KT:=qq (fun st=>qO (cq ae f (AP ae) (AC ae) c) (ae.mask f (some i)) st K) (ae.mask f (some i)) K
noncomputable abbrev bF (f:Nat) (c:Code) (X:KT):KT:=xE (fun st=>cq ae f (AP ae) (AC ae) c st X) X
abbrev UL (c:Code):Code:=c1 (c1 (c1 (c1 c)))
abbrev nM (c:Code):Code:=c1 (c1 (c1 (c2 c)))
abbrev b6 (c:Code):Code:=c1 (c1 (c2 (c1 c)))
abbrev tO (c:Code):Code:=c1 (c1 (c2 (c2 c)))
abbrev H8 (c:Code):Code:=c1 (c2 (c1 (c1 c)))
abbrev np (c:Code):Code:=c1 (c2 (c1 (c2 c)))
abbrev A4 (c:Code):Code:=c1 (c2 (c2 (c1 c)))
abbrev A5 (c:Code):Code:=c1 (c2 (c2 (c2 c)))
abbrev qlb (c:Code):Code:=c2 (c1 (c1 (c1 c)))
abbrev tP (c:Code):Code:=c2 (c1 (c1 (c2 c)))
abbrev DQ (c:Code):Code:=c2 (c1 (c2 (c1 c)))
abbrev p7 (c:Code):Code:=c2 (c1 (c2 (c2 c)))
abbrev l9 (c:Code):Code:=c2 (c2 (c1 (c1 c)))
abbrev MG (c:Code):Code:=c2 (c2 (c1 (c2 c)))
abbrev lE (c:Code):Code:=c2 (c2 (c2 (c1 c)))
abbrev bm (c:Code):Code:=c2 (c2 (c2 (c2 c)))
end Go.Ab
namespace Go.Ab
noncomputable section
open Go.Proofs.Tryz
theorem T32 (a0:AV) (m:af):AC ae 32 [a0] m=(aK false a0).bind fun v1=>(ag .other .gtr v1 (.int .i64 16)).bind fun v2=>aw v2 (some ((.tup [.nilp,(.int .i64 2)]),m)) ((AC ae 92 [a0,(.fn 93 [])] m).bind fun r3=>aw r3.1 (some ((.tup [.nilp,(.int .i64 1)]),r3.2)) ((aC (AP ae) none r3.2 88 [a0]).bind fun r4=>(fU (.agg [aq,aq,.nilm,(.int .i64 0)]) [(0,none,r4.1),(2,none,(.mref (az none r4.2 .resv).1)),(3,none,(.int .i64 4000))]).bind fun v5=>(cS none (some 4) (az none r4.2 (.mp .str [])).2 v5).bind fun r6=>some ((.tup [r6.1,(.int .i64 0)]),r6.2))):=
(bj ae 32 [a0] m (fn:=f32) (c:=aB f32) qjO rfl).trans (by kernel_rfl)
theorem T92 (a0 a1:AV) (m:af):AC ae 92 [a0,a1] m=(AC ae 145 [a0,a1] m).bind fun r1=>(ag .other .geq r1.1 (.int .i64 0)).bind fun v2=>some (v2,r1.2):=
(bj ae 92 [a0,a1] m (fn:=f92) (c:=aB f92) qks rfl).trans (by kernel_rfl)
def Sc (m:af):St:=⟨(bw (aJ (aG []))),m⟩
def Sv (x4:AV) (m:af):St:=⟨(aO (x4::aX (aO (aJ [])))),m⟩
def Aq (x0 x1 x7 x8:AV) (m:af) (K:KT):OM:=bX 145 (b6 (c2 (aB f145))) 2 (x0::x1::aO (aG (x7::x8::aX (aJ [])))) m K
abbrev qcy (K:KT):KT:=bF 145 (c2 (c2 (aB f145))) K
abbrev qcz (K:KT):KT:=bu 0 (qcy K)
abbrev Al (K:KT):KT:=(qcz K)
theorem qgI (a0 a1:AV) (m:af):AC ae 145 [a0,a1] m=(aK false a0).bind fun v1=>Aq a0 a1 v1 (.int .i64 0) m (Al (aE ae.P f145.results.toList)):=
(bj ae 145 [a0,a1] m (fn:=f145) (c:=aB f145) qja rfl).trans (by kernel_rfl)
theorem Rb (x0 x1 x7 x8:AV) (m:af) (K:KT):Aq x0 x1 x7 x8 m K=(ag .other .lss x8 x7).bind fun v1=>aw v1 ((aF none x0 x8).bind fun v2=>(ai none m v2).bind fun v3=>(lH x1).bind fun g4=>j7 ae 145 (AP ae) (AC ae) none g4.1 ([v3]++g4.2) m fun v5 m6=>aw v5 (K .ret (Sv x8 m6)) ((ag .other .add x8 (.int .i64 1)).bind fun v7=>Aq x0 x1 x7 v7 m6 K)) (K (.exit 0) (Sc m)):=
(bW (bP _) _ _ _).trans (by kernel_rfl)
theorem qcB (m:af):Al (aE ae.P f145.results.toList) (.exit 0) (Sc  m)=some ((.int .i64 (-1)),m):=by kernel_rfl
theorem qcA (x4:AV) (m:af):Al (aE ae.P f145.results.toList) .ret (Sv x4 m)=some (x4,m):=by kernel_rfl
theorem T93 (a0:AV) (m:af):AC ae 93 [a0] m=(ag .other .lss a0 (.int .i64 1)).bind fun v1=>aw v1 (some ((.bool true),m)) ((ag .other .gtr a0 (.int .i64 64)).bind fun v2=>some (v2,m)):=
(bj ae 93 [a0] m (fn:=f93) (c:=aB f93) qkt rfl).trans (by kernel_rfl)
theorem Mb (a0:AV) (m:af):AC ae 88 [a0] m=(ag .sl .eql a0 aq).bind fun v1=>aw v1 (some (aq,m)) ((dH none []).bind fun v2=>(ck none false 3 none 8 m v2 a0).bind fun r3=>some (r3.1,r3.2)):=
(bj ae 88 [a0] m (fn:=f88) (c:=aB f88) qkp rfl).trans (by kernel_rfl)
theorem Ma (a0:AV) (m:af):AC ae 80 [a0] m=(ag .pt .eql a0 .nilp).bind fun v1=>aw v1 (some ((.bool true),m)) ((iB a0).bind fun v2=>(aP 3 v2).bind fun v3=>(ai none m v3).bind fun v4=>(ag .other .eql v4 (.int .i64 0)).bind fun v5=>some (v5,m)):=
(bj ae 80 [a0] m (fn:=f80) (c:=aB f80) qkm rfl).trans (by kernel_rfl)
theorem SQ (a0:AV) (m:af):AC ae 94 [a0] m=(ag .other .geq a0 (.int .i64 0)).bind fun v1=>aw v1 ((ag .other .leq a0 (.int .i64 2147483647)).bind fun v2=>some (v2,m)) (some ((.bool false),m)):=
(bj ae 94 [a0] m (fn:=f94) (c:=aB f94) qku rfl).trans (by kernel_rfl)
theorem SP (a0 a1:AV) (m:af):AC ae 84 [a0,a1] m=(cS none none m a0).bind fun r1=>(ai none (az none (az none r1.2 (.obj true [(.int .i64 0)])).2 (.obj true [(.int .i64 0)])).2 r1.1).bind fun v2=>(iB v2).bind fun v3=>(aP 1 v3).bind fun v4=>(ai none (az none (az none r1.2 (.obj true [(.int .i64 0)])).2 (.obj true [(.int .i64 0)])).2 v4).bind fun v5=>(aK false v5).bind fun v6=>(aM none (az none (az none (az none r1.2 (.obj true [(.int .i64 0)])).2 (.obj true [(.int .i64 0)])).2 (.obj true [(.int .i64 0)])).2 (.ptr (az none (az none (az none r1.2 (.obj true [(.int .i64 0)])).2 (.obj true [(.int .i64 0)])).2 .resv).1 0) v6).bind fun m7=>(lH a1).bind fun g8=>j7 ae 84 (AP ae) (AC ae) none g8.1 ([]++g8.2) m7 fun v9 m10=>(aM none m10 (.ptr (az none r1.2 .resv).1 0) v9).bind fun m11=>(aM none m11 (.ptr (az none (az none r1.2 (.obj true [(.int .i64 0)])).2 .resv).1 0) (.int .i64 0)).bind fun m12=>(ai none m12 (.ptr (az none r1.2 .resv).1 0)).bind fun bh=>(ai none m12 (.ptr (az none (az none r1.2 (.obj true [(.int .i64 0)])).2 .resv).1 0)).bind fun bg=>some ((.tup [bh,bg]),m12):=
(bj ae 84 [a0,a1] m (fn:=f84) (c:=aB f84) qko rfl).trans (by kernel_rfl)
theorem T95 (a0 a1:AV) (m:af):AC ae 95 [a0,a1] m=(ai none m a0).bind fun v1=>(ai none m a1).bind fun v2=>(AC ae 96 [v1,v2] m).bind fun r3=>some (r3.1,r3.2):=
(bj ae 95 [a0,a1] m (fn:=f95) (c:=aB f95) qkv rfl).trans (by kernel_rfl)
theorem T96 (a0 a1:AV) (m:af):AC ae 96 [a0,a1] m=(fU (.agg [(.int .i64 0),aq,(.int .i64 0)]) [(0,none,(.int .i64 (-1))),(2,none,a1)]).bind fun v1=>(AC ae 139 [a0,v1] m).bind fun r2=>some (r2.1,r2.2):=
(bj ae 96 [a0,a1] m (fn:=f96) (c:=aB f96) qkw rfl).trans (by kernel_rfl)
theorem T81 (a0 a1:AV) (m:af):AC ae 81 [a0,a1] m=(ag .other .geq a1 (.int .i64 0)).bind fun v1=>aw v1 ((iB a0).bind fun v2=>(aP 1 v2).bind fun v3=>(ai none m v3).bind fun v4=>(aK false v4).bind fun v5=>(ag .other .lss a1 v5).bind fun v6=>some (v6,m)) (some ((.bool false),m)):=
(bj ae 81 [a0,a1] m (fn:=f81) (c:=aB f81) qkn rfl).trans (by kernel_rfl)
theorem T68 (a0 a1:AV) (m:af):AC ae 68 [a0,a1] m=(iB a0).bind fun v1=>(aP 1 v1).bind fun v2=>(ai none m v2).bind fun v3=>(aF (some 3) v3 a1).bind fun v4=>(ai (some 3) m v4).bind fun v5=>(aM (some 3) (az none m (.obj true [(.int .i64 0),aq,(.int .i64 0)])).2 (.ptr (az none m .resv).1 0) v5).bind fun m6=>(aP 0 (.ptr (az none m .resv).1 0)).bind fun v7=>(ai none m6 v7).bind fun v8=>(ag .other .geq v8 (.int .i64 0)).bind fun v9=>aw v9 ((aP 0 (.ptr (az none m .resv).1 0)).bind fun v10=>(ai none m6 v10).bind fun v11=>some (v11,m6)) ((iB a0).bind fun v12=>(aP 0 v12).bind fun bh=>(ai none m6 bh).bind fun bg=>(aK false bg).bind fun bo=>some (bo,m6)):=
(bj ae 68 [a0,a1] m (fn:=f68) (c:=aB f68) qka rfl).trans (by kernel_rfl)
def LZ (x2:AV) (m:af):St:=⟨(aJ (x2::bw (aX (aJ [])))),m⟩
def L0 (x6:AV) (m:af):St:=⟨(aO (aJ (x6::bw (aO (aJ []))))),m⟩
def Hb (x0 x1 x2 x9 aH aY:AV) (m:af) (K:KT):OM:=bX 99 (b6 (c2 (aB f99))) 2 (x0::x1::x2::aO (aJ (x9::aH::aY::bw (aG [])))) m K
abbrev qfH (K:KT):KT:=bF 99 (c2 (c2 (aB f99))) K
abbrev qfI (K:KT):KT:=bu 0 (qfH K)
abbrev Gq (K:KT):KT:=(qfI K)
theorem T99 (a0 a1 a2:AV) (m:af):AC ae 99 [a0,a1,a2] m=(aK false a2).bind fun v1=>Hb a0 a1 a2 a2 v1 (.int .i64 0) m (Gq (aE ae.P f99.results.toList)):=
(bj ae 99 [a0,a1,a2] m (fn:=f99) (c:=aB f99) qkz rfl).trans (by kernel_rfl)
theorem R3 (x0 x1 x2 x9 aH aY:AV) (m:af) (K:KT):Hb x0 x1 x2 x9 aH aY m K=(ag .other .lss aY aH).bind fun v1=>aw v1 ((aF none x9 aY).bind fun v2=>(ai none m v2).bind fun v3=>(aF none x2 (.int .i64 0)).bind fun v4=>(ai none m v4).bind fun v5=>(ag .other .neq v3 v5).bind fun v6=>aw v6 ((fU (.agg [(.int .i64 0),aq,(.int .i64 0)]) [(0,none,x1),(1,none,x2)]).bind fun v7=>(AC ae 139 [x0,v7] m).bind fun r8=>K .ret (L0 r8.1 r8.2)) ((ag .other .add aY (.int .i64 1)).bind fun v9=>Hb x0 x1 x2 x9 aH v9 m K)) (K (.exit 0) (LZ x2 m)):=
(bW (bP _) _ _ _).trans (by kernel_rfl)
theorem qfK (x2:AV) (m:af):Gq (aE ae.P f99.results.toList) (.exit 0) (LZ x2 m)=(aF none x2 (.int .i64 0)).bind fun v1=>(ai none m v1).bind fun v2=>some (v2,m):=by kernel_rfl
theorem qfJ (x6:AV) (m:af):Gq (aE ae.P f99.results.toList) .ret (L0 x6 m)=some (x6,m):=by kernel_rfl
theorem L5 (a0 a1:AV) (m:af):AC ae 139 [a0,a1] m=(cS none (some 3) m a1).bind fun r1=>(ai (some 3) r1.2 r1.1).bind fun v2=>(zz [v2]).bind fun v3=>(iB a0).bind fun v4=>(aP 2 v4).bind fun v5=>(ai none r1.2 v5).bind fun v6=>(po .str (.int .i64 0) r1.2 v6 v3).bind fun q7=>(aZ (.tup [q7.1,.bool q7.2]) 0).bind fun v8=>(aZ (.tup [q7.1,.bool q7.2]) 1).bind fun v9=>aw v9 (some (v8,r1.2)) ((iB a0).bind fun v10=>(aP 1 v10).bind fun v11=>(ai none r1.2 v11).bind fun v12=>(aK false v12).bind fun bh=>(iB a0).bind fun bg=>(aP 3 bg).bind fun bo=>(ai none r1.2 bo).bind fun bL=>(ag .other .geq bh bL).bind fun bD=>aw bD ((fU (.agg []) []).bind fun dQ=>none) ((iB a0).bind fun c8=>(aP 1 c8).bind fun v20=>(ai none (cQ r1.2 1) v20).bind fun v21=>(ai (some 3) (cQ r1.2 1) r1.1).bind fun v22=>(dH (some 3) [v22]).bind fun v23=>(ck (some r1.2.length) false 74 (some 3) 40 (cQ r1.2 1) v21 v23).bind fun mE=>(iB a0).bind fun v25=>(aP 1 v25).bind fun v26=>(aM none mE.2 v26 mE.1).bind fun m27=>(iB a0).bind fun v28=>(aP 2 v28).bind fun jS=>(ai none m27 jS).bind fun v30=>(iB a0).bind fun v31=>(aP 1 v31).bind fun lW=>(ai none m27 lW).bind fun oV=>(aK false oV).bind fun pW=>(ag .other .sub pW (.int .i64 1)).bind fun mG=>(kU .str m27 v30 v3 mG).bind fun m36=>(iB a0).bind fun v37=>(aP 1 v37).bind fun tm=>(ai none m36 tm).bind fun uC=>(aK false uC).bind fun v40=>(ag .other .sub v40 (.int .i64 1)).bind fun zW=>some (zW,m36))):=
(bj ae 139 [a0,a1] m (fn:=f139) (c:=aB f139) qi5 rfl).trans (by kernel_rfl)
theorem SK (a0 a1:AV) (m:af):AC ae 33 [a0,a1] m=(cS none none m a0).bind fun r1=>(cS none none r1.2 a1).bind fun r2=>(ai none r2.2 r1.1).bind fun v3=>(AC ae 80 [v3] r2.2).bind fun r4=>aw r4.1 (some ((.tup [(.int .i64 0),(.int .i64 4)]),r4.2)) ((ai none r4.2 r2.1).bind fun v5=>(aC (AP ae) none r4.2 94 [v5]).bind fun r6=>(jn .not r6.1).bind fun v7=>aw v7 (some ((.tup [(.int .i64 0),(.int .i64 1)]),r6.2)) ((ai none r6.2 r1.1).bind fun v8=>(AC ae 84 [v8,(.fn 95 [r1.1,r2.1])] r6.2).bind fun r9=>(aZ r9.1 0).bind fun v10=>(aZ r9.1 1).bind fun v11=>some ((.tup [v10,v11]),r9.2))):=
(bj ae 33 [a0,a1] m (fn:=f33) (c:=aB f33) qjP rfl).trans (by kernel_rfl)
theorem T30 (a0:AV) (m:af):AC ae 30 [a0] m=(AC ae 80 [a0] m).bind fun r1=>aw r1.1 (some ((.int .i64 0),r1.2)) ((iB a0).bind fun v2=>(aP 1 v2).bind fun v3=>(ai none r1.2 v3).bind fun v4=>(aK false v4).bind fun v5=>some (v5,r1.2)):=
(bj ae 30 [a0] m (fn:=f30) (c:=aB f30) qjM rfl).trans (by kernel_rfl)
end
end Go.Ab
namespace Go.Ab
theorem qqD (x:Int):IntKind.wrap .i64 x=if x % 18446744073709551616≥9223372036854775808 then x % 18446744073709551616 - 18446744073709551616 else x % 18446744073709551616:=by
 show (if (true && decide (x % 18446744073709551616≥9223372036854775808))=true then x % 18446744073709551616 - 18446744073709551616 else x % 18446744073709551616)=_
 simp
theorem qaq (x:Int):IntKind.wrap .u64 x=x % 18446744073709551616:=by
 rfl
theorem xP (x:Int):IntKind.wrap .u32 x=x % 4294967296:=by
 rfl
theorem iQ {x:Int} (h:-9223372036854775808<=x) (h':x < 9223372036854775808):IntKind.wrap .i64 x=x:=by
 rw[qqD];split<;>omega
theorem ju {x:Int} (h:0<=x) (h':x < 18446744073709551616):IntKind.wrap .u64 x=x:=by
 rw[qaq];omega
theorem z8 {x:Int} (h:0<=x) (h':x < 4294967296):IntKind.wrap .u32 x=x:=by
 rw[xP];omega
structure NV where
 z:Bool
 o:Own
 ds:List Nat
def dg (d:Nat):AV:=.int .u32 d
def NV.av (x:NV):AV:=.lst none x.z x.o (x.ds.map dg)
section
variable {R:Type}
theorem gY (tk:TK) (k:IntKind) (a b:Int):ag tk .gtr (.int k a) (.int k b)=some (.bool (decide (a > b))):=by cases tk<;>simp[ag,rv]
theorem bc (tk:TK) (k:IntKind) (a b:Int):ag tk .lss (.int k a) (.int k b)=some (.bool (decide (a < b))):=by cases tk<;>simp[ag,rv]
theorem kK (tk:TK) (k:IntKind) (a b:Int):ag tk .geq (.int k a) (.int k b)=some (.bool (decide (a≥b))):=by cases tk<;>simp[ag,rv]
theorem sr (tk:TK) (k:IntKind) (a b:Int):ag tk .leq (.int k a) (.int k b)=some (.bool (decide (a<=b))):=by cases tk<;>simp[ag,rv]
theorem iM (tk:TK) (k:IntKind) (a b:Int):ag tk .eql (.int k a) (.int k b)=some (.bool (decide (a=b))):=by cases tk<;>simp[ag,rv]<;>rfl
theorem gZ (tk:TK) (k:IntKind) (a b:Int):ag tk .neq (.int k a) (.int k b)=some (.bool (decide (a≠b))):=by cases tk<;>simp[ag,rv]<;>by_cases h:a=b<;>simp[h]
theorem lD (tk:TK) (k:IntKind) (a b:Int):ag tk .add (.int k a) (.int k b)=some (.int k (k.wrap (a+b))):=by cases tk<;>simp[ag,rv]
theorem pH (tk:TK) (k:IntKind) (a b:Int):ag tk .sub (.int k a) (.int k b)=some (.int k (k.wrap (a - b))):=by cases tk<;>simp[ag,rv]
theorem wC (tk:TK) (k:IntKind) (a b:Int):ag tk .mul (.int k a) (.int k b)=some (.int k (k.wrap (a * b))):=by cases tk<;>simp[ag,rv]
theorem pn (sh:Sh) (z:Bool) (o:Own) (es:List AV):aK false (.lst sh z o es)=some (.int .i64 es.length):=rfl
theorem aA (p:Prop) [Decidable p] (x y:Option R):aw (.bool (decide p)) x y=if p then x else y:=by
 by_cases h:p<;>simp[aw,h]
theorem uh {z:Bool} {o:Own} {ds:List Nat} {k:IntKind} {i:Int} (h:0<=i) (h':i < ds.length):aF none (.lst none z o (ds.map dg)) (.int k i)=some (.vptr [dg (ds.getD i.toNat 0)]):=by
 have hi:i.toNat < ds.length:=by omega
 simp[aF,h,hi,AV.cells,dg,aT]
theorem gy (m:af) (x:AV):ai none m (.vptr [x])=some x:=rfl
theorem ZG {z:Bool} {o:Own} {ds:List Nat} {k:IntKind} {i:Int} (h:0<=i) (h':i<=ds.length):n5 none (.lst none z o (ds.map dg)) none (some (.int k i)) none=some (.lst none z .no ((ds.take i.toNat).map dg)):=by
 simp[n5,qW,jx,h,h',AI]
end
def Own.fr:Own->Own
 | .tok ..=>.no
 | o=>o
def NV.fr (x:NV):NV:=⟨x.z,x.o.fr,x.ds⟩
def Fz (v v':AV):Prop:=∀ m,bB m j8 v=some (v',[])
theorem cD (x:NV):Fz x.av x.fr.av:=by
 intro m;obtain ⟨z,o,ds⟩:=x;cases o<;>rfl
theorem fW (k:IntKind) (n:Int):Fz (.int k n) (.int k n):=fun _=>rfl
theorem qG (b:Bool):Fz (.bool b) (.bool b):=fun _=>rfl
section
variable {cp:Nat->List AV->Option AV} {d:Option Nat} {m:af} {g:Nat}
theorem xq:aC cp d m g []=(cp g []).map fun v=>(v,m):=by
 simp[aC,dU,jN]
theorem cG {a a':AV} (ha:Fz a a'):aC cp d m g [a]=(cp g [a']).map fun v=>(v,m):=by
 simp[aC,dU,jN,ha m]
theorem fe {a a' b b':AV} (ha:Fz a a') (hb:Fz b b'):aC cp d m g [a,b]=(cp g [a',b']).map fun v=>(v,m):=by
 simp[aC,dU,jN,ha m,hb m]
theorem E4 {a a' b b' c c':AV} (ha:Fz a a') (hb:Fz b b') (hc:Fz c c'):aC cp d m g [a,b,c]=(cp g [a',b',c']).map fun v=>(v,m):=by
 simp[aC,dU,jN,ha m,hb m,hc m]
theorem qoS {a a' b b' c c' e e':AV} (ha:Fz a a') (hb:Fz b b') (hc:Fz c c') (he:Fz e e'):aC cp d m g [a,b,c,e]=(cp g [a',b',c',e']).map fun v=>(v,m):=by
 simp[aC,dU,jN,ha m,hb m,hc m,he m]
end
theorem iw {C:Cfg} {f:Nat} {args:List AV} {v v':AV} {m:af} {l:List Nat} (h:AC C f args []=some (v,m)) (hf:bB m j8 v=some (v',l)) (hv:(mz args || jd v')=true):AP C f args=some v':=by
 unfold AP jK;rw[h];simp only[aa,hf,an hv]
theorem pU (x:NV):jd x.av=true:=rfl
def n7 (m:af) (n:Nat):af:=m++[some (.tok n 1)]
theorem XM {e b:Nat} {z:AV} {m:af} {c:Int} (h:0 < c) (h':c * b<=281474976710656) (h2:c<=9223372036854775807):jc none e none z b m (.int .i64 0) (.int .i64 c)=some (.lst none false (.tok m.length e) [],n7 m 0):=by
 have h3:¬ (0:Int)=c:=by omega
 have h4:0<=c:=by omega
 simp[jc,h3,h4,h',h2,az,n7,Sh.size]
theorem DG {e b:Nat} {m:af} {es:List AV} {z:Bool} {o:Own} {y:AV} (h:(es.length+1) * b<=gS):ck none false e none b (n7 m es.length) (.lst none false (.tok m.length e) es) (.lst none z o [y])=some (.lst none false (.tok m.length e) (es++[y]),n7 m (es.length+1)):=by
 simp[ck,n7,af.get,Sh.size,h]
theorem ry (k:IntKind) (n:Int):dH none [.int k n]=some (.lst none false .full [.int k n]):=rfl
theorem lZ (k k':IntKind) (n:Int):bq k (.int k' n)=some (.int k (k.wrap n)):=rfl
theorem Uh (tk:TK) (k k':IntKind) (a b:Int) (h:0<=b):ag tk .shr (.int k a) (.int k' b)=some (.int k (a.fdiv (2 ^ (min b.toNat k.bits)))):=by
 have:¬ b < 0:=by omega
 cases tk<;>simp[ag,tc,this]
theorem DI (tk:TK) (k':IntKind) (a:Int) (h:0<=a):ag tk .shr (.int .u64 a) (.int k' 32)=some (.int .u64 (a / 4294967296)):=by
 rw[Uh tk .u64 k' a 32 (by omega)];show some (AV.int .u64 (a.fdiv 4294967296))=_;rw[Int.fdiv_eq_ediv_of_nonneg _ (by omega)]
def nF (m:af) (ds:List Nat):af:=m++[some (.obj false (ds.map dg))]
theorem XL {e b:Nat} {m:af} {n:Nat} (h':n * b<=281474976710656) (h2:n<=9223372036854775807):jc none e none (.int .u32 0) b m (.int .i64 n) (.int .i64 n)=some (.arr m.length 0 n none,nF m (List.replicate n 0)):=by
 have h3:(n:Int) * b<=281474976710656:=by
  have:=Int.ofNat_le.2 h';rw[rX] at this;exact this
 have h4:(n:Int)<=9223372036854775807:=by omega
 have h5:(0:Int)<=n:=by omega
 simp only[jc,h3,h4,h5,az,nF,rU,q8,and_self,bz,cH,List.map_replicate]
 rfl
theorem Pe (m:af) (ds:List Nat):(nF m ds).obj? m.length=some (false,ds.map dg):=by
 simp[nF,af.obj?,af.get]
theorem ga {nm n:Nat} {k:IntKind} {i:Nat} (h:i < n):aF none (.arr nm 0 n none) (.int k i)=some (.ptr nm i):=by
 have:(i:Int) < n:=by omega
 simp[aF,this,Sh.size]
theorem qnP {m:af} {ds:List Nat} {i:Nat} (h:i < ds.length):ai none (nF m ds) (.ptr m.length i)=some (dg (ds.getD i 0)):=by
 simp[ai,Pe,kD,aT,h]
theorem Cb {m:af} {ds:List Nat} {i v:Nat} (h:i < ds.length):aM none (nF m ds) (.ptr m.length i) (.int .u32 v)=some (nF m (ds.set i v)):=by
 have h1:i+1<=ds.length:=h;simp only[aM,Pe,aa,Sh.size,cg,h1,bz,cU,dG,AV.cells];congr 1;simp only[nF,bJ,aL,aQ];rw[sg _ _ (aR _)];simp only[oY,cY];congr 4;rw[List.map_set,De];simp[h,dg,AI,List.map_drop]
theorem OV (m:af) (k:Nat):∀ ds:List Nat,dU (bB m (k+1)) (ds.map dg)=some (ds.map dg,[])
 | []=>rfl
 | d::ds=>by
  have:bB m (k+1) (dg d)=some (dg d,[]):=rfl;simp[dU,this,OV m k ds]
theorem Pr:∀ ds:List Nat,mC (ds.map dg)=true
 | []=>rfl
 | d::ds=>by
  have:pl (dg d)=true:=rfl;simp[mC,this,Pr ds]
theorem qlD (m:af) (ds:List Nat):bB (nF m ds) j8 (.arr m.length 0 ds.length none)=some (.lst none false .no (ds.map dg),[m.length]):=by
 have h1:((ds.map dg).all dG)=true:=by simp[List.all_map,dg,dG]
 show ((nF m ds).obj? m.length).bind _=_;rw[Pe];simp only[aa,Sh.size,cg,br,mI,aR,decide_true,nH,pB,bz,jI,kW (by simp:(ds.map dg).length<=ds.length)];rw[OV];simp only[aa,h1,Pr,pB,bz,me];rw[kW (by simp)]
theorem qoT {cp:Nat->List AV->Option AV} {m:af} {g:Nat} {ds:List Nat}:aC cp none (nF m ds) g [.arr m.length 0 ds.length none]=(cp g [.lst none false .no (ds.map dg)]).map fun v=>(v,m++[none]):=by
 simp only[aC,dU,qlD,aa,jN,Option.isSome_none,lY,bY,uJ,List.foldl_nil];simp[nF]
theorem Ug (tk:TK) (k':IntKind) (a:Nat) (h:a < 4294967296):ag tk .shl (.int .u64 a) (.int k' 32)=some (.int .u64 (a * 4294967296:Nat)):=by
 have e:ag tk .shl (.int .u64 a) (.int k' 32)=some (.int .u64 (IntKind.wrap .u64 ((a:Int) * 4294967296))):=by cases tk<;>rfl
 rw[e,ju (by omega) (by omega)]
 rfl
theorem qkE (tk:TK) (lo hi:Nat) (h:lo < 4294967296) (h':hi < 4294967296):ag tk .or (.int .u64 lo) (.int .u64 (hi * 4294967296:Nat))=some (.int .u64 (lo+hi * 4294967296:Nat)):=by
 have e:ag tk .or (.int .u64 lo) (.int .u64 (hi * 4294967296:Nat))=some (.int .u64 (IntKind.wrap .u64 ((BitVec.ofInt 64 lo ||| BitVec.ofInt 64 (hi * 4294967296:Nat)).toNat:Nat))):=by cases tk<;>rfl
 have e2:(BitVec.ofInt 64 (lo:Int) ||| BitVec.ofInt 64 ((hi * 4294967296:Nat):Int)).toNat=lo+hi * 4294967296:=by
  rw[BitVec.toNat_or,xT,xT];have h1:(((lo:Nat):Int) % ((2 ^ 64:Nat):Int)).toNat=lo:=by omega
  have h2:(((hi * 4294967296:Nat):Int) % ((2 ^ 64:Nat):Int)).toNat=hi * 4294967296:=by omega
  rw[h1,h2,Nat.or_comm];have:=Nat.two_pow_add_eq_or_of_lt (i:=32) (b:=lo) (by omega) hi;rw[show hi * 4294967296=2 ^ 32 * hi by omega,<- this];omega
 rw[e,e2,ju (by omega) (by omega)]
end Go.Ab
namespace Go.Ab
def lV (ds:List Nat):Nat->Nat
 | 0=>0
 | n+1=>if ds.getD n 0=0 then lV ds n else n+1
theorem Ff (ds:List Nat):∀ n,lV ds n<=n
 | 0=>aR _
 | n+1=>by
  rw[lV]
  split
  ·exact Nat.le_succ_of_le (Ff ds n)
  ·exact aR _
def tr (ds:List Nat):List Nat:=ds.take (lV ds ds.length)
theorem Cg (a:List Nat):(tr a).length<=a.length:=by simp only[tr,jV];omega
def Dg (a:List Nat):Prop:=∀ i,a.getD i 0 < 4294967296
theorem Dg.take {a:List Nat} (h:Dg a) (n:Nat):Dg (a.take n):=by
 intro i;have:=h i;simp only[aT,qA] at this ⊢
 split
 ·exact this
 ·simp
theorem Dg.set {a:List Nat} (h:Dg a) (n v:Nat) (hv:v < 4294967296):Dg (a.set n v):=by
 intro i;have:=h i;simp only[aT,List.getElem?_set] at this ⊢
 split
 ·split
  ·exact hv
  ·simp
 ·exact this
theorem th {a:List Nat} (h:Dg a):Dg (tr a):=h.take _
theorem yI {l:List Nat} {i:Nat} (h:¬ (i:Int) < (l.length:Int)):l.getD i 0=0:=by
 rw[aT,ow (by omega)];rfl
theorem yB:Dg []:=by intro i;simp
theorem mM {d:Nat} {ds:List Nat}:Dg (d::ds)↔d < 4294967296/\Dg ds:=by
 constructor
 ·intro h;exact ⟨h 0,fun i=>h (i+1)⟩
 ·intro h i
  cases i with
  | zero=>exact h.1
  | succ i=>exact h.2 i
theorem yA {a b:List Nat} (ha:Dg a) (hb:Dg b):Dg (a++b):=by
 induction a with
 | nil=>exact hb
 | cons d a ih=>exact mM.2 ⟨(mM.1 ha).1,ih (mM.1 ha).2⟩
theorem u6 {d:Nat} (h:d < 4294967296):Dg [d]:=mM.2 ⟨h,yB⟩
theorem yC (n:Nat):Dg (List.replicate n 0):=by
 induction n with
 | zero=>exact yB
 | succ n ih=>exact mM.2 ⟨by decide,ih⟩
theorem vd {l:List Nat} {i j v:Nat} (h:i≠j):(l.set i v).getD j 0=l.getD j 0:=by
 simp only[aT];rw[Hd h]
theorem rz {l:List Nat} {i v:Nat} (h:i < l.length):(l.set i v).getD i 0=v:=by
 simp only[aT];rw[Da h];rfl
theorem Io (n i:Nat):(List.replicate n 0).getD i 0=0:=by
 simp only[aT,AF];split<;>rfl
theorem B1 (p b c:Nat):p * c=p * (c % b)+p * b * (c / b):=by
 rw[fF,<- gB,Nat.mod_add_div]
theorem YP (p b x s:Nat) (h:s<=x+b):p * (x+b - s)+p * s=p * x+p * b:=by
 rw[<- gB,Nat.sub_add_cancel h,gB]
theorem Jv (p x s:Nat) (h:s<=x):p * (x - s)+p * s=p * x:=by
 rw[<- gB,Nat.sub_add_cancel h]
def val:List Nat->Nat
 | []=>0
 | d::ds=>d+4294967296 * val ds
def aD (n:Nat):List Nat:=if h:n=0 then [] else n % 4294967296::aD (n / 4294967296)
termination_by n
decreasing_by exact Nat.div_lt_self (by omega) (by omega)
theorem lF:aD 0=[]:=by rw[aD];rfl
theorem yD {n:Nat} (h:n≠0):aD n=n % 4294967296::aD (n / 4294967296):=by rw[aD,dif_neg h]
theorem gz (n:Nat):val (aD n)=n:=by
 induction n using Nat.strongRecOn with
 | ind n ih=>
  by_cases h:n=0
  ·subst h;rw[lF];rfl
  ·rw[yD h,val,ih _ (Nat.div_lt_self (by omega) (by omega))];omega
theorem gm (n:Nat):Dg (aD n):=by
 induction n using Nat.strongRecOn with
 | ind n ih=>
  by_cases h:n=0
  ·subst h;rw[lF];exact yB
  ·rw[yD h];exact mM.2 ⟨kA _ (by omega),ih _ (Nat.div_lt_self (by omega) (by omega))⟩
theorem nN {k:Nat}:∀ {n:Nat},n < 4294967296 ^ k->(aD n).length<=k:=by
 induction k with
 | zero=>
   intro n h;have:n=0:=by simpa using h
   subst this;rw[lF];exact aR _
 | succ k ih=>
  intro n h
  by_cases h0:n=0
  ·subst h0;rw[lF];exact lC _
  ·rw[yD h0,aL];refine Nat.succ_le_succ (ih ?_);rw[jW] at h;exact Nat.div_lt_of_lt_mul (by rw[cO];exact h)
theorem nc {ds:List Nat} (h:Dg ds):val ds < 4294967296 ^ ds.length:=by
 induction ds with
 | nil=>exact Nat.one_pos
 | cons d ds ih=>
  have ih:=ih (mM.1 h).2;have hd:=(mM.1 h).1;rw[val,aL,jW];omega
theorem UQ {ds:List Nat} (h:Dg ds):(aD (val ds)).length<=ds.length:=nN (nc h)
theorem Fp {n:Nat}:aD n=[]↔n=0:=by
 constructor
 ·intro h;have:=gz n;rw[h] at this;exact this.symm
 ·intro h;subst h;exact lF
theorem qlh {a b:Nat} (h:aD a=aD b):a=b:=by
 have:=cI val h
 rwa [gz,gz] at this
theorem Z6 (d:Nat) (ds:List Nat):∀ n,lV (d::ds) (n+1)=if lV ds n=0 then (if d=0 then 0 else 1) else lV ds n+1
 | 0=>by
  simp only[lV,pE,bz]
 | n+1=>by
  rw[lV,Z6 d ds n];simp only[yd];rw[lV]
  by_cases h:ds.getD n 0=0
  ·rw[an h,an h]
  ·rw[aj h,aj h,aj (by omega)]
theorem qqj (d:Nat) (ds:List Nat):tr (d::ds)=if tr ds=[] then (if d=0 then [] else [d]) else d::tr ds:=by
 have h0:tr ds=[]↔lV ds ds.length=0:=by
  have:=Ff ds ds.length;rw[tr,<- List.length_eq_zero_iff,jV];omega
 rw[tr,aL,Z6]
 by_cases h:lV ds ds.length=0
 ·rw[an h,an (h0.2 h)];split<;>rfl
 ·rw[aj h,aj (fun e=>h (h0.1 e))]
  rfl
theorem lp {ds:List Nat} (h:Dg ds):tr ds=aD (val ds):=by
 induction ds with
 | nil=>rw[val,lF];rfl
 | cons d ds ih=>
  have hd:=(mM.1 h).1;rw[qqj,ih (mM.1 h).2,val]
  by_cases h0:val ds=0
  ·rw[an (Fp.2 h0),h0]
   split
   ·subst d;exact lF.symm
   ·rw[yD (by omega),show (d+4294967296 * 0) % 4294967296=d by omega,show (d+4294967296 * 0) / 4294967296=0 by omega,lF]
  ·rw[aj (fun e=>h0 (Fp.1 e)),yD (n:=d+4294967296 * val ds) (by omega),show (d+4294967296 * val ds) % 4294967296=d by omega,show (d+4294967296 * val ds) / 4294967296=val ds by omega]
theorem xM {ds:List Nat} (h:Dg ds):val (tr ds)=val ds:=by rw[lp h,gz]
theorem xL (a b:List Nat):val (a++b)=val a+4294967296 ^ a.length * val b:=by
 induction a with
 | nil=>simp[val]
 | cons d a ih=>
  rw[b8,val,val,ih,aL,jW,gB,mH,cO (4294967296 ^ a.length) 4294967296,fF]
theorem Fq:∀ (l:List Nat) (i v:Nat),i < l.length->val (l.set i v)+4294967296 ^ i * l.getD i 0=val l+4294967296 ^ i * v
 | [],i,v,h=>by simp at h
 | d::l,0,v,h=>by simp[val];omega
 | d::l,i+1,v,h=>by
  have ih:=Fq l i v (by simpa using h);simp only[dX,val,yd,jW];rw[cO (4294967296 ^ i) 4294967296,fF,fF];omega
def vs (a:List Nat) (i:Nat):Nat:=val (a.take i)
theorem rN (a:List Nat):vs a 0=0:=rfl
theorem jo {a:List Nat} {i:Nat} (h:a.length<=i):vs a i=val a:=by rw[vs,kW h]
theorem jT (a:List Nat) (i:Nat):vs a (i+1)=vs a i+4294967296 ^ i * a.getD i 0:=by
 by_cases h:i < a.length
 ·rw[vs,oC h,xL,jV,Nat.min_eq_left (by omega),aT,bM h,vs];simp[val]
 ·rw[jo (by omega),jo (by omega),aT,ow (by omega)];simp
theorem xO {a:List Nat} (h:Dg a) (i:Nat):vs a i < 4294967296 ^ i:=by
 have h1:=nc (h.take i);refine rj h1 (pY (by omega) ?_);rw[jV];omega
theorem J5 (n:Nat):val (List.replicate n 0)=0:=by
 induction n with
 | zero=>rfl
 | succ n ih=>rw[yf,val,ih]
def mL (a b:List Nat):Nat->Int
 | 0=>0
 | n+1=>if a.getD n 0 < b.getD n 0 then -1 else if a.getD n 0 > b.getD n 0 then 1 else mL a b n
def uY (a b:List Nat):Int:=if a.length < b.length then -1 else if a.length > b.length then 1 else mL a b a.length
def gW (a b:Nat):Int:=if a < b then -1 else if a > b then 1 else 0
theorem UJ {a b:List Nat} (ha:Dg a) (hb:Dg b):∀ n,mL a b n=gW (vs a n) (vs b n)
 | 0=>by simp[mL,rN,gW]
 | n+1=>by
  have ih:=UJ ha hb n;have h1:=xO ha n;have h2:=xO hb n;rw[mL,jT,jT,ih];generalize 4294967296 ^ n=p at *;generalize a.getD n 0=x;generalize b.getD n 0=y;unfold gW
  by_cases h:x < y
  ·have:p * (x+1)<=p * y:=kJ _ h;rw[gB] at this;rw[an h,an (by omega)]
  ·by_cases h':x > y
   ·have:p * (y+1)<=p * x:=kJ _ h';rw[gB] at this;rw[aj h,an h',aj (by omega),an (by omega)]
   ·have:x=y:=by omega
    subst this;rw[aj h,aj h'];simp only[Nat.add_lt_add_iff_right,gt_iff_lt]
theorem Ib {n k:Nat} (h:k < (aD n).length):4294967296 ^ k<=n:=by
 apply qw;intro hn;have:=nN (Nat.lt_of_not_le hn);omega
theorem UI (a b:Nat):uY (aD a) (aD b)=gW a b:=by
 have ha:=nc (gm a);have hb:=nc (gm b);rw[gz] at ha hb;unfold uY
 by_cases h:(aD a).length < (aD b).length
 ·have:=Ib h;rw[an h,gW,an (by omega)]
 ·rw[aj h]
  by_cases h':(aD a).length > (aD b).length
  ·have:=Ib h';rw[an h',gW,aj (by omega),an (by omega)]
  ·rw[aj h',UJ (gm a) (gm b),jo (aR _),jo (by omega),gz,gz]
theorem qk3 {a b:List Nat} (ha:Dg a) (hb:Dg b):uY (tr a) (tr b)=gW (val a) (val b):=by rw[lp ha,lp hb,UI]
def cF (a b:List Nat):Nat->List Nat×Nat
 | 0=>([],0)
 | i+1=>((cF a b i).1++[((cF a b i).2+a.getD i 0+b.getD i 0) % 4294967296],((cF a b i).2+a.getD i 0+b.getD i 0) / 4294967296)
theorem wA (a b:List Nat):∀ i,(cF a b i).1.length=i
 | 0=>rfl
 | i+1=>by simp[cF,wA a b i]
theorem yp {a b:List Nat} (ha:Dg a) (hb:Dg b):∀ i,(cF a b i).2<=1
 | 0=>by simp[cF]
 | i+1=>by
  have:=yp ha hb i;have h1:=ha i;have h2:=hb i;simp only[cF];omega
theorem Mn (a b:List Nat):∀ i,Dg (cF a b i).1
 | 0=>yB
 | i+1=>yA (Mn a b i) (u6 (kA _ (by omega)))
theorem Mo (a b:List Nat):∀ i,val (cF a b i).1+4294967296 ^ i * (cF a b i).2=vs a i+vs b i
 | 0=>by simp[cF,val,rN]
 | i+1=>by
  have ih:=Mo a b i;simp only[cF,xL,wA,val,jT,jW];have h1:=B1 (4294967296 ^ i) 4294967296 ((cF a b i).2+a.getD i 0+b.getD i 0);generalize hs:(cF a b i).2+a.getD i 0+b.getD i 0=s at *;rw[<- hs,gB,gB,hs] at h1;rw[oD,ku];omega
def DD (a b:List Nat):List Nat:=tr ((cF a b a.length).1++[(cF a b a.length).2])
def AT (a b:List Nat):List Nat:=if a.length < b.length then DD b a else DD a b
theorem TR {a b:List Nat} (ha:Dg a) (hb:Dg b) (h:b.length<=a.length):DD a b=aD (val a+val b):=by
 have hc:=yp ha hb a.length;rw[DD,lp (yA (Mn _ _ _) (u6 (by omega))),xL,wA];have:=Mo a b a.length;rw[jo (aR _),jo h] at this;simp only[val,oD,ku,this]
theorem qie {a b:List Nat} (ha:Dg a) (hb:Dg b):AT a b=aD (val a+val b):=by
 unfold AT
 split
 ·rw[TR hb ha (by omega),si]
 ·rw[TR ha hb (by omega)]
theorem qif {a b:List Nat} (ha:Dg a) (hb:Dg b):AT (tr a) (tr b)=aD (val a+val b):=by
 rw[qie (th ha) (th hb),xM ha,xM hb]
def gX (b:List Nat) (x i:Nat):Nat->List Nat×Nat->List Nat×Nat
 | 0,s=>s
 | k+1,s=>let t:=gX b x i k s
  (t.1.set (i+k) ((t.2+(t.1.getD (i+k) 0+x * b.getD k 0)) % 4294967296),(t.2+(t.1.getD (i+k) 0+x * b.getD k 0)) / 4294967296)
theorem xn (b:List Nat) (x i:Nat) (s:List Nat×Nat):∀ k,(gX b x i k s).1.length=s.1.length
 | 0=>rfl
 | k+1=>by simp[gX,xn b x i s k]
theorem BO {b:List Nat} {x i:Nat} {s:List Nat×Nat} (hb:Dg b) (hx:x < 4294967296) (hs:Dg s.1) (hc:s.2 < 4294967296):∀ k,Dg (gX b x i k s).1/\(gX b x i k s).2 < 4294967296
 | 0=>⟨hs,hc⟩
 | k+1=>by
  obtain ⟨h1,h2⟩:=BO hb hx hs hc k;have h3:=h1 (i+k);have h4:=hb k;have h5:x * b.getD k 0<=4294967295 * 4294967295:=sj (by omega) (by omega);refine ⟨h1.set _ _ (kA _ (by omega)),?_⟩;simp only[gX];omega
theorem X3 (b:List Nat) (x i:Nat) (s:List Nat×Nat):∀ k,i+k<=s.1.length->val (gX b x i k s).1+4294967296 ^ (i+k) * (gX b x i k s).2=val s.1+4294967296 ^ i * (s.2+x * vs b k)
 | 0,_=>by simp[gX,rN]
 | k+1,h=>by
  have ih:=X3 b x i s k (by omega);have hl:=xn b x i s k;simp only[gX,jT];generalize gX b x i k s=t at *;have h1:=Fq t.1 (i+k) ((t.2+(t.1.getD (i+k) 0+x * b.getD k 0)) % 4294967296) (by omega);have h2:=B1 (4294967296 ^ (i+k)) 4294967296 (t.2+(t.1.getD (i+k) 0+x * b.getD k 0))
  have h3:4294967296 ^ i * (s.2+x * (vs b k+4294967296 ^ k * b.getD k 0))=4294967296 ^ i * (s.2+x * vs b k)+4294967296 ^ (i+k) * (x * b.getD k 0):=by
   rw[rm];simp only[gB,mH];congr 2;simp only[<- fF];congr 1;rw[Nat.mul_right_comm]
  rw[h3];generalize hw:t.2+(t.1.getD (i+k) 0+x * b.getD k 0)=w at *;rw[<- hw,gB,gB,hw] at h2;rw[<- mH,jW];omega
def iO (a b:List Nat):Nat->List Nat
 | 0=>List.replicate (a.length+b.length) 0
 | i+1=>(gX b (a.getD i 0) i b.length (iO a b i,0)).1.set (i+b.length) (gX b (a.getD i 0) i b.length (iO a b i,0)).2
def ET (a b:List Nat):List Nat:=tr (iO a b a.length)
theorem xm (a b:List Nat):∀ i,(iO a b i).length=a.length+b.length
 | 0=>by simp[iO]
 | i+1=>by simp[iO,xn,xm a b i]
theorem zx {a b:List Nat} (ha:Dg a) (hb:Dg b):∀ i,Dg (iO a b i)
 | 0=>yC _
 | i+1=>by
  have ih:=zx ha hb i;obtain ⟨h1,h2⟩:=BO (i:=i) (s:=(iO a b i,0)) hb (ha i) ih (by simp) b.length;exact h1.set _ _ h2
theorem O2 (b:List Nat) (x i:Nat) (s:List Nat×Nat) (j:Nat):∀ k,i+k<=j->(gX b x i k s).1.getD j 0=s.1.getD j 0
 | 0,_=>rfl
 | k+1,h=>by
  have ih:=O2 b x i s j k (by omega);rw[<- ih];simp only[gX,aT];rw[Hd (by omega)]
theorem X0 (a b:List Nat) (j:Nat):∀ i,i+b.length<=j->(iO a b i).getD j 0=0
 | 0,h=>by
  simp only[iO,aT,AF];split<;>rfl
 | i+1,h=>by
  have ih:=X0 a b j i (by omega);rw[iO,vd (by omega),O2 b (a.getD i 0) i (iO a b i,0) j b.length (by omega)];exact ih
theorem O1 (a b:List Nat):∀ i,i<=a.length->val (iO a b i)=vs a i * val b
 | 0,_=>by simp[iO,J5,rN]
 | i+1,h=>by
  have ih:=O1 a b i (by omega);have hl:=xm a b i;have h1:=X3 b (a.getD i 0) i (iO a b i,0) b.length (by simp only[hl];omega)
  have h0:(gX b (a.getD i 0) i b.length (iO a b i,0)).1.getD (i+b.length) 0=0:=by
   rw[O2 _ _ _ _ _ _ (aR _)];exact X0 a b _ i (aR _)
  have h2:=Fq (gX b (a.getD i 0) i b.length (iO a b i,0)).1 (i+b.length) (gX b (a.getD i 0) i b.length (iO a b i,0)).2 (by rw[xn];simp only[hl];omega);rw[h0,oD,ku] at h2;rw[iO,h2,h1,ih,jo (aR _),jT,im,br,fF]
theorem qn7 {a b:List Nat} (ha:Dg a) (hb:Dg b):ET a b=aD (val a * val b):=by
 rw[ET,lp (zx ha hb _),O1 _ _ _ (aR _),jo (aR _)]
theorem qn8 {a b:List Nat} (ha:Dg a) (hb:Dg b):ET (tr a) (tr b)=aD (val a * val b):=by
 rw[qn7 (th ha) (th hb),xM ha,xM hb]
def gI (a b:List Nat):Nat->List Nat×Nat
 | 0=>(List.replicate a.length 0,0)
 | i+1=>if a.getD i 0 < (gI a b i).2+b.getD i 0 then ((gI a b i).1.set i (a.getD i 0+4294967296 - ((gI a b i).2+b.getD i 0)),1)
  else ((gI a b i).1.set i (a.getD i 0 - ((gI a b i).2+b.getD i 0)),0)
def JW (a b:List Nat):List Nat:=tr (gI a b a.length).1
theorem Ce (a b:List Nat):∀ i,(gI a b i).1.length=a.length
 | 0=>by simp[gI]
 | i+1=>by simp only[gI];split<;>simp[Ce a b i]
theorem JX (a b:List Nat):∀ i,(gI a b i).2<=1
 | 0=>by simp[gI]
 | i+1=>by simp only[gI];split<;>simp
theorem Cd {a b:List Nat} (ha:Dg a) (hb:Dg b):∀ i,Dg (gI a b i).1
 | 0=>yC _
 | i+1=>by
  have:=JX a b i;have h1:=ha i;have h2:=hb i;simp only[gI]
  split
  ·exact (Cd ha hb i).set _ _ (by omega)
  ·exact (Cd ha hb i).set _ _ (by omega)
theorem ZR (a b:List Nat) (j:Nat):∀ i,i<=j->(gI a b i).1.getD j 0=0
 | 0,_=>by
  simp only[gI,aT,AF];split<;>rfl
 | i+1,h=>by
  have ih:=ZR a b j i (by omega);simp only[gI];split<;>simp only[]<;>rw[vd (by omega),ih]
theorem ZS {p x y b v1:Nat} {va vb r:Nat} (ih:r+vb=va+p * b) :
  (x < b+y->b+y<=x+v1->r+p * (x+v1 - (b+y))+(vb+p * y)=va+p * x+p * v1 * 1)/\(¬ x < b+y->r+p * (x - (b+y))+(vb+p * y)=va+p * x+p * v1 * 0):=by
 constructor
 ·intro h h';have e:=YP p v1 x (b+y) h';rw[gB _ b] at e;rw[mI];omega
 ·intro h;have e:=Jv p x (b+y) (by omega);rw[gB _ b] at e;rw[oD];omega
theorem qpX {a b:List Nat} (ha:Dg a) (hb:Dg b) (i:Nat):i<=a.length->val (gI a b i).1+vs b i=vs a i+4294967296 ^ i * (gI a b i).2:=by
 induction i with
 | zero=>
  intro _;rw[gI,J5,rN,rN]
  rfl
 | succ i ih=>
  intro h;have ih:=ih (by omega);have hl:=Ce a b i;have h0:=ZR a b i i (aR _);have hc:=JX a b i;have h1:=ha i;have h2:=hb i;rw[jT,jT,jW,gI];obtain ⟨s1,s2⟩:=ZS (x:=a.getD i 0) (y:=b.getD i 0) (v1:=4294967296) ih
  have hs:∀ v,val ((gI a b i).1.set i v)=val (gI a b i).1+4294967296 ^ i * v:=by
   intro v;have:=Fq (gI a b i).1 i v (by omega)
   rwa [h0,oD,ku] at this
  split
  ·rename_i hlt;rw[hs];exact s1 hlt (by omega)
  ·rename_i hlt;rw[hs];exact s2 hlt
theorem qal (a:List Nat) (i:Nat):∀ k,vs a i<=vs a (i+k)
 | 0=>aR _
 | k+1=>by rw[<- mH,jT];exact ef (qal a i k) (Nat.le_add_right _ _)
theorem qak (a:List Nat) (i:Nat):vs a i<=val a:=by
 have:=qal a i a.length
 rwa [jo (by omega:a.length<=i+a.length)] at this
theorem qaj {a b:List Nat} (ha:Dg a) (h:val b<=val a):vs b a.length=val b:=by
 have h1:=nc ha;apply qw;intro hn;have hlt:vs b a.length < val b:=Nat.lt_of_le_of_ne (qak _ _) hn
 have:∀ k,vs b a.length < vs b (a.length+k)->4294967296 ^ a.length<=vs b (a.length+k):=by
  intro k
  induction k with
  | zero=>intro h;exact absurd h (wm _)
  | succ k ih=>
   intro hk;rw[<- mH,jT] at hk ⊢
   by_cases h0:vs b a.length < vs b (a.length+k)
   ·exact ef (ih h0) (Nat.le_add_right _ _)
   ·have:b.getD (a.length+k) 0≠0:=by
     intro e;rw[e] at hk;omega
    have h3:4294967296 ^ a.length<=4294967296 ^ (a.length+k):=pY (by omega) (by omega);have h4:4294967296 ^ (a.length+k) * 1<=4294967296 ^ (a.length+k) * b.getD (a.length+k) 0:=kJ _ (by omega);omega
 have:=this b.length (by rwa [jo (by omega:b.length<=a.length+b.length)]);rw[jo (by omega:b.length<=a.length+b.length)] at this;omega
theorem qpV {a b:List Nat} (ha:Dg a) (hb:Dg b) (h:val b<=val a):JW a b=aD (val a - val b):=by
 rw[JW,lp (Cd ha hb _)];have h1:=qpX ha hb a.length (aR _);rw[jo (aR _),qaj ha h] at h1;have h2:=nc (Cd ha hb a.length);rw[Ce] at h2;have h3:=nc ha;have hc:=JX a b a.length;congr 1
 have:(gI a b a.length).2=0:=by
  apply qw;intro hn;have e:(gI a b a.length).2=1:=by omega
  rw[e,mI] at h1;omega
 rw[this,oD,ku] at h1;omega
theorem qpW {a b:List Nat} (ha:Dg a) (hb:Dg b) (h:val b<=val a):JW (tr a) (tr b)=aD (val a - val b):=by
 rw[qpV (th ha) (th hb) (by rwa [xM ha,xM hb]),xM ha,xM hb]
end Go.Ab
namespace Go.Ab
section
variable {tk:TK} {k k':IntKind} {a b:Nat}
theorem BP:ag tk .gtr (.int k a) (.int k b)=some (.bool (decide (a > b))):=by rw[gY];congr 2;exact jL.2 (by omega)
theorem cW:ag tk .lss (.int k a) (.int k b)=some (.bool (decide (a < b))):=by rw[bc];congr 2;exact jL.2 (by omega)
theorem Jj:ag tk .geq (.int k a) (.int k b)=some (.bool (decide (a≥b))):=by rw[kK];congr 2;exact jL.2 (by omega)
theorem EU:ag tk .eql (.int k a) (.int k b)=some (.bool (decide (a=b))):=by rw[iM];congr 2;exact jL.2 (by omega)
theorem O3:ag tk .neq (.int k a) (.int k b)=some (.bool (decide (a≠b))):=by rw[gZ];congr 2;exact jL.2 (by omega)
theorem vJ:ag tk .gtr (.int k a) (.int k 0)=some (.bool (decide (a > 0))):=BP (b:=0)
theorem EW:ag tk .geq (.int k a) (.int k 0)=some (.bool true):=by rw[kK];congr 2
theorem Jk:ag tk .lss (.int k a) (.int k 0)=some (.bool false):=by rw[bc];congr 2
theorem nT:ag tk .eql (.int k a) (.int k 0)=some (.bool (decide (a=0))):=EU (b:=0)
theorem qob:ag tk .neq (.int k a) (.int k 0)=some (.bool (decide (a≠0))):=O3 (b:=0)
theorem vI:ag tk .eql (.int k a) (.int k 1)=some (.bool (decide (a=1))):=EU (b:=1)
theorem X5:ag tk .eql (.int k a) (.int k 2)=some (.bool (decide (a=2))):=EU (b:=2)
theorem qoa:ag tk .geq (.int k a) (.int k 4294967296)=some (.bool (decide (a≥4294967296))):=Jj (b:=4294967296)
theorem Jl:ag tk .lss (.int k a) (.int k 4294967296)=some (.bool (decide (a < 4294967296))):=cW (b:=4294967296)
theorem n8 (h:a+b < 18446744073709551616):ag tk .add (.int .u64 a) (.int .u64 b)=some (.int .u64 (a+b:Nat)):=by
 rw[lD,ju (by omega) (by omega)];rfl
theorem Fh (h:a * b < 18446744073709551616):ag tk .mul (.int .u64 a) (.int .u64 b)=some (.int .u64 (a * b:Nat)):=by
 rw[wC,<- rX,ju (by omega) (by omega)]
theorem zV (h:b<=a) (h':a < 18446744073709551616):ag tk .sub (.int .u64 a) (.int .u64 b)=some (.int .u64 (a - b:Nat)):=by
 rw[pH,ju (by omega) (by omega)];congr 2;omega
theorem J2 (h:1<=a) (h':a < 18446744073709551616):ag tk .sub (.int .u64 a) (.int .u64 1)=some (.int .u64 (a - 1:Nat)):=zV (b:=1) h h'
theorem zU (h:b≠0) (h':a < 18446744073709551616):ag tk .quo (.int .u64 a) (.int .u64 b)=some (.int .u64 (a / b:Nat)):=by
 have e:ag tk .quo (.int .u64 a) (.int .u64 b)=if (b:Int)=0 then none else some (.int .u64 (IntKind.wrap .u64 ((a:Int).tdiv b))):=by cases tk<;>rfl
 rw[e,aj (by omega)];have e2:(a:Int).tdiv b=((a / b:Nat):Int):=rfl;have:=AM a b;rw[e2];generalize a / b=q at *;rw[ju (by omega) (by omega)]
theorem Ch (h:b≠0) (h':a < 18446744073709551616):ag tk .rem (.int .u64 a) (.int .u64 b)=some (.int .u64 (a % b:Nat)):=by
 have e:ag tk .rem (.int .u64 a) (.int .u64 b)=if (b:Int)=0 then none else some (.int .u64 ((a:Int).tmod b)):=by cases tk<;>rfl
 rw[e,aj (by omega)]
 rfl
theorem qqt (h':a < 18446744073709551616):ag tk .and (.int .u64 a) (.int .u64 4294967295)=some (.int .u64 (a % 4294967296:Nat)):=by
 have e:ag tk .and (.int .u64 a) (.int .u64 4294967295)=some (.int .u64 (IntKind.wrap .u64 ((BitVec.ofInt 64 a &&& BitVec.ofInt 64 4294967295).toNat:Nat))):=by cases tk<;>rfl
 have e2:(BitVec.ofInt 64 (a:Int) &&& BitVec.ofInt 64 4294967295).toNat=a % 4294967296:=by
  rw[BitVec.toNat_and,xT,xT];have h1:(((a:Nat):Int) % ((2 ^ 64:Nat):Int)).toNat=a:=by omega
  have h2:((4294967295:Int) % ((2 ^ 64:Nat):Int)).toNat=2 ^ 32 - 1:=by omega
  rw[h1,h2,Nat.and_two_pow_sub_one_eq_mod]
 rw[e,e2,ju (by omega) (by omega)]
theorem Fj (h:a < 4294967296):ag tk .shl (.int .u64 a) (.int k' 32)=some (.int .u64 (a * 4294967296:Nat)):=Ug tk k' a h
theorem J1:ag tk .shr (.int .u64 a) (.int k' 32)=some (.int .u64 (a / 4294967296:Nat)):=by
 rw[DI tk k' a (by omega)];rfl
theorem Fi (h:a < 4294967296) (h':b < 4294967296):ag tk .or (.int .u64 (a * 4294967296:Nat)) (.int .u64 b)=some (.int .u64 (a * 4294967296+b:Nat)):=by
 have e:ag tk .or (.int .u64 (a * 4294967296:Nat)) (.int .u64 b)=some (.int .u64 (IntKind.wrap .u64 ((BitVec.ofInt 64 (a * 4294967296:Nat) ||| BitVec.ofInt 64 b).toNat:Nat))):=by cases tk<;>rfl
 have e2:(BitVec.ofInt 64 ((a * 4294967296:Nat):Int) ||| BitVec.ofInt 64 (b:Int)).toNat=a * 4294967296+b:=by
  rw[BitVec.toNat_or,xT,xT];have h1:(((b:Nat):Int) % ((2 ^ 64:Nat):Int)).toNat=b:=by omega
  have h2:(((a * 4294967296:Nat):Int) % ((2 ^ 64:Nat):Int)).toNat=a * 4294967296:=by omega
  rw[h1,h2];have:=Nat.two_pow_add_eq_or_of_lt (i:=32) (b:=b) (by omega) a;rw[show a * 4294967296=2 ^ 32 * a by omega,<- this]
 rw[e,e2,ju (by omega) (by omega)]
theorem kS (h:a+b < 9223372036854775808):ag tk .add (.int .i64 a) (.int .i64 b)=some (.int .i64 (a+b:Nat)):=by
 rw[lD,iQ (by omega) (by omega)];rfl
theorem cr (h:a+1 < 9223372036854775808):ag tk .add (.int .i64 a) (.int .i64 1)=some (.int .i64 (a+1:Nat)):=kS (b:=1) h
theorem nD (h:b<=a) (h':a < 9223372036854775808):ag tk .sub (.int .i64 a) (.int .i64 b)=some (.int .i64 (a - b:Nat)):=by
 rw[pH,iQ (by omega) (by omega)];congr 2;omega
theorem ph (h:1<=a) (h':a < 9223372036854775808):ag tk .sub (.int .i64 a) (.int .i64 1)=some (.int .i64 (a - 1:Nat)):=nD (b:=1) h h'
theorem WO (h:2<=a) (h':a < 9223372036854775808):ag tk .sub (.int .i64 a) (.int .i64 2)=some (.int .i64 (a - 2:Nat)):=nD (b:=2) h h'
theorem ug (h':a < 9223372036854775808):ag tk .sub (.int .i64 a) (.int .i64 1)=some (.int .i64 ((a:Int) - 1)):=by
 rw[pH,iQ (by omega) (by omega)]
theorem AZ (h:a < 18446744073709551616):bq .u64 (.int k a)=some (.int .u64 a):=by rw[lZ,ju (by omega) (by omega)]
theorem mK:bq .u32 (.int k a)=some (.int .u32 (a % 4294967296:Nat)):=by rw[lZ,xP];rfl
theorem mJ (d:Nat) (h:d < 4294967296):bq .u64 (dg d)=some (.int .u64 d):=AZ (by omega)
theorem qaa {s:Nat} (hs:s < 32) (h:a < 4294967296):ag tk .shl (.int .u32 a) (.int .u64 s)=some (.int .u32 (a * 2 ^ s % 4294967296:Nat)):=by
 have e:ag tk .shl (.int .u32 a) (.int .u64 s)=tc true .u32 a s:=by cases tk<;>rfl
 have e3:IntKind.bits .u32=32:=rfl;rw[e,tc,aj (by omega),an rfl,e3,cH,Nat.min_eq_left (by omega),xP];congr 2
theorem P2 {s:Nat} (hs:s < 32):ag tk .shr (.int .u32 a) (.int .u64 s)=some (.int .u32 (a / 2 ^ s:Nat)):=by
 have e:ag tk .shr (.int .u32 a) (.int .u64 s)=tc false .u32 a s:=by cases tk<;>rfl
 have e3:IntKind.bits .u32=32:=rfl;rw[e,tc,aj (by omega),aj (by decide),e3,cH,Nat.min_eq_left (by omega),Int.fdiv_eq_ediv_of_nonneg _ (by exact Int.le_of_lt (Int.pow_pos (by omega)))];congr 2
theorem qqs {s:Nat} (hs:s < 32) (h:a < 4294967296):ag tk .shl (.int .u64 a) (.int .u64 s)=some (.int .u64 (a * 2 ^ s:Nat)):=by
 have e:ag tk .shl (.int .u64 a) (.int .u64 s)=tc true .u64 a s:=by cases tk<;>rfl
 have e3:IntKind.bits .u64=64:=rfl;have h1:2 ^ s<=2 ^ 31:=pY (by omega) (by omega);have h2:a * 2 ^ s<=a * 2 ^ 31:=kJ _ h1;have h3:(a:Int) * 2 ^ s=((a * 2 ^ s:Nat):Int):=by rw[rX,Int.natCast_pow];rfl
 rw[e,tc,aj (by omega),an rfl,e3,cH,Nat.min_eq_left (by omega),h3,ju (by omega) (by omega)]
theorem qoz {x y s:Nat} (h:x < 2 ^ s) (hy:y % 2 ^ s=0):x ||| y=x+y:=by
 have e:y=2 ^ s * (y / 2 ^ s):=by have:=wj y (2 ^ s);omega
 rw[e,Nat.or_comm,<- Nat.two_pow_add_eq_or_of_lt h,si]
theorem Z9 {s:Nat} (h:a < 2 ^ s) (hb:b % 2 ^ s=0) (hs:a+b < 4294967296):ag tk .or (.int .u32 a) (.int .u32 b)=some (.int .u32 (a+b:Nat)):=by
 have e:ag tk .or (.int .u32 a) (.int .u32 b)=some (.int .u32 (IntKind.wrap .u32 ((BitVec.ofInt 32 a ||| BitVec.ofInt 32 b).toNat:Nat))):=by cases tk<;>rfl
 have e2:(BitVec.ofInt 32 (a:Int) ||| BitVec.ofInt 32 (b:Int)).toNat=a+b:=by
  rw[BitVec.toNat_or,xT,xT];have h1:(((a:Nat):Int) % ((2 ^ 32:Nat):Int)).toNat=a:=by omega
  have h2:(((b:Nat):Int) % ((2 ^ 32:Nat):Int)).toNat=b:=by omega
  rw[h1,h2,qoz h hb]
 rw[e,e2,z8 (by omega) (by omega)]
theorem qqp:ag tk .add (.int .u32 a) (.int .u32 b)=some (.int .u32 ((a+b) % 4294967296:Nat)):=by
 rw[lD,xP];rfl
end
theorem mV {x:NV} {k:IntKind} {i:Nat} (h:i < x.ds.length):aF none x.av (.int k i)=some (.vptr [dg (x.ds.getD i 0)]):=by
 rw[NV.av,uh (by omega) (by omega)];simp
theorem I6 {x:NV} {k:IntKind} (h:0 < x.ds.length):aF none x.av (.int k 0)=some (.vptr [dg (x.ds.getD 0 0)]):=mV (i:=0) h
theorem iJ (x:NV):aK false x.av=some (.int .i64 x.ds.length):=by simp[NV.av,aK]
theorem kT {m:af} {x:AV}:ai none m (.vptr [x])=some x:=rfl
def oc (ds:List Nat):Option Ent:=some (.obj false (ds.map dg))
theorem Pf {m:af} {n:Nat} {ds:List Nat} (h:m[n]?=some (oc ds)):m.obj? n=some (false,ds.map dg):=by
 simp[af.obj?,af.get,h,oc]
theorem sZ {m:af} {n:Nat} {ds:List Nat} {i:Nat} (h:m[n]?=some (oc ds)) (hi:i < ds.length):ai none m (.ptr n i)=some (dg (ds.getD i 0)):=by
 simp[ai,Pf h,kD,aT,hi]
theorem pz {m:af} {n:Nat} {ds:List Nat} {i v:Nat} (h:m[n]?=some (oc ds)) (hi:i < ds.length):aM none m (.ptr n i) (.int .u32 v)=some (m.set n (oc (ds.set i v))):=by
 have h1:i+1<=ds.length:=hi;simp only[aM,Pf h,aa,Sh.size,cg,h1,bz,cU,dG,AV.cells,oc];congr 4;simp only[bJ,aL,aQ];rw[List.map_set,De];simp[hi,dg,AI,List.map_drop]
theorem xj {e b:Nat} {m:af} {n:Nat} (h':n * b<=281474976710656) (h2:n<=9223372036854775807):jc none e none (.int .u32 0) b m (.int .i64 n) (.int .i64 n)=some (.arr m.length 0 n none,m++[oc (List.replicate n 0)]):=XL h' h2
theorem qnL (nm n:Nat):aK false (.arr nm 0 n none)=some (.int .i64 n):=rfl
theorem qlE {m:af} {nm:Nat} {ds:List Nat} (h:m[nm]?=some (oc ds)):bB m j8 (.arr nm 0 ds.length none)=some (.lst none false .no (ds.map dg),[nm]):=by
 have h1:((ds.map dg).all dG)=true:=by simp[List.all_map,dg,dG]
 show (m.obj? nm).bind _=_;rw[Pf h];simp only[aa,Sh.size,cg,br,mI,aR,decide_true,nH,pB,bz,jI,kW (by simp:(ds.map dg).length<=ds.length)];rw[OV];simp only[aa,h1,Pr,pB,bz,me];rw[kW (by simp)]
theorem xr {cp:Nat->List AV->Option AV} {m:af} {g nm:Nat} {ds:List Nat} (h:m[nm]?=some (oc ds)):aC cp none m g [.arr nm 0 ds.length none]=(cp g [(NV.mk false .no ds).av]).map fun v=>(v,m.set nm none):=by
 simp only[aC,dU,qlE h,aa,jN,Option.isSome_none,lY,bY,uJ,List.foldl_nil]
 rfl
end Go.Ab
namespace Go.Ab
open Go.Proofs
theorem bU {m:af} {e:Option Ent} {nm:Nat} (h:nm < m.length):af.get (m++[e]) nm=m.get nm:=by
 rw[Nj,an h]
theorem bG {m:af} {e:Option Ent} {nm:Nat} (h:nm=m.length):af.get (m++[e]) nm=e:=by
 subst h;simp[af.get]
theorem cw {m:af} {k nm:Nat} {e:Option Ent} (h:nm≠k):af.get (m.set k e) nm=m.get nm:=by rw[gH,aj h]
theorem cL {m:af} {k nm:Nat} {e:Option Ent} (h:nm=k) (hk:k < m.length):af.get (m.set k e) nm=e:=by
 subst h;rw[gH,an rfl,an hk]
def BV:Option Ent->Option (Bool×List AV)
 | some (.obj b cs)=>some (b,cs)
 | _=>none
theorem kh (b:Bool) (cs:List AV):BV (some (.obj b cs))=some (b,cs):=rfl
theorem qm (m:af) (nm:Nat):m.obj? nm=BV (m.get nm):=by
 unfold af.obj? BV
 cases h:m.get nm with
 | none=>rfl
 | some e=>cases e<;>rfl
theorem bV (sh:Sh) (m:af) (nm off:Nat):ai sh m (.ptr nm off)=(BV (m.get nm)).bind fun o=>kD sh o.2 off:=by
 rw[<- qm];rfl
def cK (sh:Sh) (m:af) (nm off:Nat) (v:AV) (o:Bool×List AV):Option af:=
 if off+sh.size<=o.2.length then if cU sh v then some (m.set nm (some (.obj o.1 (bJ o.2 off v.cells)))) else none else none
theorem qt (sh:Sh) (m:af) (nm off:Nat) (v:AV):aM sh m (.ptr nm off) v=(BV (m.get nm)).bind (cK sh m nm off v):=by
 rw[<- qm];rfl
theorem uZ (cs:List AV) (off:Nat):kD none cs off=cs[off]?:=rfl
theorem UN (a b c:AV):kD (some 3) [a,b,c] 0=some (.agg [a,b,c]):=rfl
theorem UO (a b c d:AV):kD (some 4) [a,b,c,d] 0=some (.agg [a,b,c,d]):=rfl
theorem nU (nm off:Nat):iB (.ptr nm off)=some (.ptr nm off):=rfl
theorem cJ (o nm off:Nat):aP o (.ptr nm off)=some (.ptr nm (off+o)):=rfl
theorem bs {α β:Type} {x:Option α} {v:α} {f:α->Option β} {r:Option β} (h:x=some v) (k:f v=r):x.bind f=r:=by rw[h];exact k
theorem dn {α:Type} {x:Option α} {v:α} {f:α->OM} (h:x=some v) (k:∃ m',f v=some (.bool true,m')):∃ m',x.bind f=some (.bool true,m'):=by rw[h];exact k
theorem kL (v w:AV):aZ (.tup [v,w]) 0=some v:=rfl
theorem kM (v w:AV):aZ (.tup [v,w]) 1=some w:=rfl
structure Fr (m m':af) (F:List Nat):Prop where
 len:m.length<=m'.length
 get:∀ x,x < m.length->x∉F->m'.get x=m.get x
theorem Fr.refl (m:af) (F:List Nat):Fr m m F:=⟨aR _,fun _ _ _=>rfl⟩
theorem Fr.trans {m m1 m2:af} {F F1:List Nat} (h:Fr m m1 F) (k:Fr m1 m2 F1) (hF:∀ x∈F1,x∈F\/m.length<=x):Fr m m2 F:=
 ⟨ef h.len k.len,fun x hx hn=>(k.get x (rj hx h.len) fun h1=>by rcases hF x h1 with h2 | h2<;>first | exact hn h2 | omega).trans (h.get x hx hn)⟩
theorem Fr.mono {m m':af} {F F':List Nat} (h:Fr m m' F) (hs:∀ x∈F,x∈F'):Fr m m' F':=⟨h.len,fun x hx hn=>h.get x hx fun h'=>hn (hs x h')⟩
theorem Fr.app (m:af) (e:Option Ent) (F:List Nat):Fr m (m++[e]) F:=⟨by simp,fun x hx _=>bU hx⟩
theorem Fr.snoc {m m':af} {F:List Nat} (h:Fr m m' F) (e:Option Ent):Fr m (m'++[e]) F:=h.trans (Fr.app m' e []) (fun _ h=>by cases h)
theorem Fr.set {m m':af} {F:List Nat} (h:Fr m m' F) {k:Nat} (e:Option Ent) (hk:k∈F\/m.length<=k):Fr m (m'.set k e) F:=
 ⟨by rw[a8];exact h.len,fun x hx hn=>by
  rw[cw (by rintro rfl;rcases hk with hk | hk;exact hn hk;omega)];exact h.get x hx hn⟩
def cE (n:ND):AV:=if n.var < 0 then aq else .lst none false .no (n.kids.map (AV.int .i64))
def ND.av (n:ND):AV:=.agg [.int .i64 n.var,cE n,.int .i64 n.leaf]
def mb:Nat->List ND->List (AV×AV)
 | _,[]=>[]
 | k,n::l=>(.str ⟨n.key.toArray⟩,.int .i64 k)::mb (k+1) l
theorem qny {a b:ND} (ha:a.ok) (hb:b.ok):jh (.str ⟨a.key.toArray⟩) (.str ⟨b.key.toArray⟩)=decide (a=b):=by
 simp only[jh,uV];refine jL.2 ⟨fun h=>qnz ha hb ?_,fun h=>by rw[h]⟩;have:=cI (fun s:ByteArray=>s.data.toList) h;simpa using this
theorem M5 {n:ND} (hn:n.ok):∀ (l:List ND) (k:Nat),(∀ x∈l,x.ok)->(mb k l).find? (fun p=>jh p.1 (.str ⟨n.key.toArray⟩))=if n∈l then some (.str ⟨n.key.toArray⟩,.int .i64 (k+l.idxOf n:Nat)) else none
 | [],k,_=>rfl
 | x::l,k,h=>by
  rw[mb,List.find?_cons,qny (h x fQ) hn]
  by_cases he:x=n
  ·subst he;simp
  ·rw[cT he];simp only[];rw[M5 hn l (k+1) fun y hy=>h y (fN _ hy)];have:n∈x::l↔n∈l:=⟨fun h=>(gA.1 h).resolve_left (fun e=>he e.symm),fN _⟩
   by_cases hm:n∈l
   ·rw[an hm,an (this.2 hm),List.idxOf_cons,cond_eq_ite,aj (by simpa using he)];congr 3;omega
   ·rw[aj hm,aj (fun h=>hm (this.1 h))]
theorem UU (n:ND):∀ (l:List ND) (k:Nat),mb k (l++[n])=mb k l++[(.str ⟨n.key.toArray⟩,.int .i64 (k+l.length:Nat))]
 | [],k=>rfl
 | x::l,k=>by
  rw[b8,mb,mb,UU n l (k+1)];simp only[b8,aL];congr 5;omega
theorem UW:∀ (l:List ND) (k:Nat),(mb k l).length=l.length
 | [],_=>rfl
 | _::l,k=>by rw[mb,aL,UW l,aL]
theorem qnA {n:ND} (h:n.ok):n.key.length<=10000:=by
 rcases h with ⟨h1,h2,h3,h4⟩ | ⟨h1,h2,h3,h4,h5⟩
 ·unfold ND.key Yd.nameB;rw[h1,an (by decide)];have:=Yd.itoa_len (n:=n.leaf) ⟨by omega,by omega⟩;simp;omega
 ·have:=Yd.part_len (var:=n.var) (ks:=n.kids) ⟨by omega,by omega⟩ (fun k hk=>by have:=h4 k hk;constructor<;>omega) n.kids.length (aR _);unfold Yd.part at this;rw[List.take_length] at this;unfold ND.key Yd.nameB;rw[aj (by omega)];omega
theorem Xb {n:ND} (h:n.ok):(⟨n.key.toArray⟩:ByteArray).size<=maxLen:=by
 have:=qnA h;simp only[ByteArray.size,List.size_toArray,maxLen];omega
theorem XG {m:af} {p:Nat} {l:List ND} {n:ND} (hp:m.get p=some (.mp .str (mb 0 l))) (hl:∀ x∈l,x.ok) (hn:n.ok) (z:AV) :
  po .str z m (.mref p) (.str ⟨n.key.toArray⟩)=some (if n∈l then (.int .i64 (l.idxOf n:Nat),true) else (z,false)):=by
 have h1:my m .str (.mref p)=some (p,mb 0 l):=by simp[my,hp]
 have h2:jZ .str (.str ⟨n.key.toArray⟩)=true:=eE (Xb hn);unfold po;rw[h1];simp only[aa,h2,bz,BM,M5 hn l 0 hl]
 by_cases hm:n∈l
 ·rw[an hm,an hm];simp
 ·rw[aj hm,aj hm]
theorem qqy {m:af} {p:Nat} {l:List ND} {n:ND} (hp:m.get p=some (.mp .str (mb 0 l))) (hl:∀ x∈l,x.ok) (hn:n.ok) (hne:n∉l) (hlen:l.length < 100000) :
  kU .str m (.mref p) (.str ⟨n.key.toArray⟩) (.int .i64 l.length)=some (m.set p (some (.mp .str (mb 0 (l++[n]))))):=by
 have h1:my m .str (.mref p)=some (p,mb 0 l):=by simp[my,hp]
 have h2:jZ .str (.str ⟨n.key.toArray⟩)=true:=eE (Xb hn)
 have h3:(mb 0 l).any (fun p=>jh p.1 (.str ⟨n.key.toArray⟩))=false:=by
  have:=M5 hn l 0 hl;rw[aj hne,List.find?_eq_none] at this;rw[List.any_eq_false];exact this
 unfold kU;rw[h1,aa,an ⟨h2,rfl,by rw[UW];unfold maxLen;omega⟩,UU];simp only[nX,h3,br]
inductive NA (m:af):AV->List ND->List Nat->Prop
 | none:NA m aq [] []
 | some (t:Nat) (l:List ND) (ht:m.get t=some (.tok l.length 3)):NA m (.lst (some 3) false (.tok t 74) (l.map ND.av)) l [t]
structure SAt (m:af) (s p:Nat) (arms na:AV) (most:Int) (l:List ND) (T:List Nat):Prop where
 hs:m.get s=some (.obj true [arms,na,.mref p,.int .i64 most])
 hp:m.get p=some (.mp .str (mb 0 l))
 hn:NA m na l T
 ok:∀ x∈l,x.ok
 ne:s≠p
 hT:∀ t∈T,t≠s/\t≠p
end Go.Ab
namespace Go.Ab
open Go.Proofs Go.Proofs.Tryz
theorem mX (m:af) (e:Ent):az none m e=(m.length,m++[some e]):=rfl
theorem Mx {sh:Sh} {m:af} {v:AV} (h:cU sh v=true):cS none sh m v=some (.ptr m.length 0,m++[some (Ent.obj true v.cells)]):=by
 unfold cS;rw[an h];rfl
theorem uW (k:IntKind) (n:Int) (m:af):cS none none m (.int k n)=some (.ptr m.length 0,m++[some (Ent.obj true [.int k n])]):=rfl
theorem oZ (nm o:Nat) (m:af):cS none none m (.ptr nm o)=some (.ptr m.length 0,m++[some (Ent.obj true [.ptr nm o])]):=rfl
theorem AY (a b:Int) (z:Bool) (o:Own) (ks:List AV) (m:af):cS none (some 3) m (.agg [.int .i64 a,.lst none z o ks,.int .i64 b])=some (.ptr m.length 0,m++[some (Ent.obj true [.int .i64 a,.lst none z o ks,.int .i64 b])]):=rfl
theorem gR (m:af):cQ m 1=m++[some Ent.resv]:=rfl
theorem n9 (b:Bool):jn .not (.bool b)=some (.bool (!b)):=rfl
theorem vF (m:af) (a b c:AV):ai (some 3) m (.vptr [a,b,c])=some (.agg [a,b,c]):=rfl
theorem Xl (m:af) (a b c:AV):ai none m (.vptr [a,b,c])=some a:=rfl
theorem Uu (k:IntKind) (n:Int):AV.cells (.int k n)=[.int k n]:=rfl
theorem HW (k:IntKind) (n:Int):dG (.int k n)=true:=rfl
theorem Us (b:Bool):AV.cells (.bool b)=[.bool b]:=rfl
theorem TY (b:Bool):dG (.bool b)=true:=rfl
theorem Uz (s:ByteArray):AV.cells (.str s)=[.str s]:=rfl
theorem Uc (s:ByteArray):dG (.str s)=true:=rfl
theorem Uv (sh:Sh) (z:Bool) (o:Own) (es:List AV):AV.cells (.lst sh z o es)=[.lst sh z o es]:=rfl
theorem T4 (sh:Sh) (z:Bool) (o:Own) (es:List AV):dG (.lst sh z o es)=true:=rfl
theorem Uy (nm off:Nat):AV.cells (.ptr nm off)=[.ptr nm off]:=rfl
theorem Ub (nm off:Nat):dG (.ptr nm off)=true:=rfl
theorem Ur (nm off n:Nat) (sh:Sh):AV.cells (.arr nm off n sh)=[.arr nm off n sh]:=rfl
theorem TX (nm off n:Nat) (sh:Sh):dG (.arr nm off n sh)=true:=rfl
theorem Ut (f:Nat) (cs:List AV):AV.cells (.fn f cs)=[.fn f cs]:=rfl
theorem TZ (f:Nat) (cs:List AV):dG (.fn f cs)=true:=rfl
theorem Uw (nm:Nat):AV.cells (.mref nm)=[.mref nm]:=rfl
theorem T8 (nm:Nat):dG (.mref nm)=true:=rfl
theorem Ux:AV.cells .nilp=[.nilp]:=rfl
theorem Ua:dG .nilp=true:=rfl
theorem Uq (cs:List AV):AV.cells (.agg cs)=cs:=rfl
theorem Zz (v:AV):cU none v=dG v:=rfl
theorem ZA (n:Nat) (cs:List AV):cU (some n) (.agg cs)=(cs.length == n && cs.all dG):=rfl
theorem dj:type_of% @oq/\type_of% @List.all_nil.{0}/\type_of% @Bool.and_true/\type_of% @pB/\type_of% @gR/\type_of% @cg/\type_of% @vF/\type_of% @Xl/\type_of% @iM/\type_of% @gZ/\type_of% @bc/\type_of% @sr/\type_of% @gY/\type_of% @kK/\type_of% @gy/\type_of% @n9/\type_of% @bV/\type_of% @qt/\type_of% @kh/\type_of% @uZ/\type_of% @UN/\type_of% @UO/\type_of% @nU/\type_of% @cJ/\type_of% @bU/\type_of% @bG/\type_of% @cw/\type_of% @cL/\type_of% @mX/\type_of% @Mx/\type_of% @List.getElem?_cons_zero.{0}/\type_of% @List.getElem?_cons_succ.{0}/\type_of% @kL/\type_of% @kM/\type_of% @Uu/\type_of% @HW/\type_of% @Us/\type_of% @TY/\type_of% @Uz/\type_of% @Uc/\type_of% @Uv/\type_of% @T4/\type_of% @Uy/\type_of% @Ub/\type_of% @Ur/\type_of% @TX/\type_of% @Ut/\type_of% @TZ/\type_of% @Uw/\type_of% @T8/\type_of% @Ux/\type_of% @Ua/\type_of% @Uq/\type_of% @Zz/\type_of% @ZA/\type_of% @pn/\type_of% @aL/\type_of% @aQ/\type_of% @List.take_succ_cons.{0}/\type_of% @List.take_zero.{0}/\type_of% @List.drop_succ_cons.{0}/\type_of% @jI/\type_of% @b8/\type_of% @bQ/\type_of% @bY/\type_of% @br/\type_of% @List.drop_nil.{0}/\type_of% @List.take_nil.{0}/\type_of% @aI/\type_of% @a8:=⟨@oq,@List.all_nil.{0},@Bool.and_true,@pB,@gR,@cg,@vF,@Xl,@iM,@gZ,@bc,@sr,@gY,@kK,@gy,@n9,@bV,@qt,@kh,@uZ,@UN,@UO,@nU,@cJ,@bU,@bG,@cw,@cL,@mX,@Mx,@List.getElem?_cons_zero.{0},@List.getElem?_cons_succ.{0},@kL,@kM,@Uu,@HW,@Us,@TY,@Uz,@Uc,@Uv,@T4,@Uy,@Ub,@Ur,@TX,@Ut,@TZ,@Uw,@T8,@Ux,@Ua,@Uq,@Zz,@ZA,@pn,@aL,@aQ,@List.take_succ_cons.{0},@List.take_zero.{0},@List.drop_succ_cons.{0},@jI,@b8,@bQ,@bY,@br,@List.drop_nil.{0},@List.take_nil.{0},@aI,@a8⟩
theorem gO {R:Type} (x y:Option R):aw (.bool false) x y=y:=rfl
theorem iV {R:Type} (x y:Option R):aw (.bool true) x y=x:=rfl
theorem qo3 {m:af} {s p:Nat} {arms na:AV} {most:Int} {l:List ND} {T:List Nat} (h:SAt m s p arms na most l T) {n:ND} (hn:n.ok) (hm:n∈l) (z:Bool) (o:Own) :
  AC ae 139 [.ptr s 0,.agg [.int .i64 n.var,.lst none z o (n.kids.map (AV.int .i64)),.int .i64 n.leaf]] m=some (.int .i64 (l.idxOf n:Nat),m++[some (Ent.obj true [.int .i64 n.var,.lst none z o (n.kids.map (AV.int .i64)),.int .i64 n.leaf])]):=by
 have hs:=h.hs;have hp:=h.hp;have mQ:=bC hs;have hpl:=bC hp;have Ob:af.get (m++[some (Ent.obj true [.int .i64 n.var,.lst none z o (n.kids.map (AV.int .i64)),.int .i64 n.leaf])]) p=some (Ent.mp .str (mb 0 l)):=by rw[bU hpl];exact hp
 have nm:=X8 hn z o;have lk:=XG Ob h.ok hn (.int .i64 0);rw[an hm] at lk;rw[L5]
 repeat ((with_reducible (first | apply bs | apply dn));(focus (first | (simp (disch:=(first | assumption | omega | (simp only[aI,a8,aL,aQ];first | done | omega))) only[dj,beq_self_eq_true,cK,aa,Sh.size,bz,bJ,Nat.reduceAdd,Nat.reduceLeDiff,aR,hs,AY,nm,lk];first | done | rfl) | rfl));try dsimp only)
 rw[iV]
theorem H0 (a b:Int) (z:Bool) (o:Own) (ks:List AV):dH (some 3) [.agg [.int .i64 a,.lst none z o ks,.int .i64 b]]=some (.lst (some 3) false .full [.agg [.int .i64 a,qu (.lst none z o ks),.int .i64 b]]):=by
 cases o<;>rfl
theorem qit (b:Nat) (m:af) (y:AV):ck (some b) false 74 (some 3) 40 m aq (.lst (some 3) false .full [y])=some (.lst (some 3) false (.tok b 74) [y],m.set b (some (Ent.tok 1 3))):=rfl
theorem qiv {b t:Nat} {m:af} {es:List AV} {y:AV} (ht:m.get t=some (Ent.tok es.length 3)) (h:es.length < 1000000):ck (some b) false 74 (some 3) 40 m (.lst (some 3) false (.tok t 74) es) (.lst (some 3) false .full [y])=some (.lst (some 3) false (.tok t 74) (es++[y]),m.set t (some (Ent.tok (es.length+1) 3))):=by
 have h2:(es.length+1) * 40<=gS:=by unfold gS;omega
 simp[ck,ht,Sh.size,h2]
theorem NA.move {m m':af} {na:AV} {l:List ND} {T:List Nat} (h:NA m na l T) (f:∀ x∈T,m'.get x=m.get x):NA m' na l T:=by
 cases h with
 | none=>exact .none
 | some t l ht=>exact .some t l ((f t (by simp)).trans ht)
theorem SAt.move {m m':af} {s p:Nat} {arms na:AV} {most:Int} {l:List ND} {T:List Nat} (h:SAt m s p arms na most l T) (f:∀ x∈s::p::T,m'.get x=m.get x):SAt m' s p arms na most l T:=
 ⟨(f s (by simp)).trans h.hs,(f p (by simp)).trans h.hp,h.hn.move fun x hx=>f x (by simp[hx]),h.ok,h.ne,h.hT⟩
theorem SAt.lt {m:af} {s p:Nat} {arms na:AV} {most:Int} {l:List ND} {T:List Nat} (h:SAt m s p arms na most l T):∀ x∈s::p::T,x < m.length:=by
 intro x hx;simp only[gA] at hx
 rcases hx with rfl | rfl | hx
 ·exact bC h.hs
 ·exact bC h.hp
 ·cases h.hn with
  | none=>cases hx
  | some t l ht=>
    obtain rfl:x=t:=by simpa using hx
    exact bC ht
def c9 (m:af) (s:Nat) (F:List Nat) (arms:AV) (most:Int) (l:List ND):Prop:=∃ p na T,SAt m s p arms na most l T/\F=s::p::T
theorem c9.move {m m':af} {s:Nat} {F:List Nat} {arms:AV} {most:Int} {l:List ND} (h:c9 m s F arms most l) (f:∀ x∈F,m'.get x=m.get x):c9 m' s F arms most l:=by
 obtain ⟨p,na,T,h,rfl⟩:=h;exact ⟨p,na,T,h.move f,rfl⟩
theorem c9.lt {m:af} {s:Nat} {F:List Nat} {arms:AV} {most:Int} {l:List ND} (h:c9 m s F arms most l):∀ x∈F,x < m.length:=by
 obtain ⟨p,na,T,h,rfl⟩:=h;exact h.lt
theorem c9.fr {m m':af} {s:Nat} {F G:List Nat} {arms:AV} {most:Int} {l:List ND} (h:c9 m s F arms most l) (f:Fr m m' G) (hd:∀ x∈F,x∉G):c9 m' s F arms most l:=h.move fun x hx=>f.get x (h.lt x hx) (hd x hx)
def Gr (m:af) (F F':List Nat):Prop:=∀ x∈F',x∈F\/m.length<=x
theorem Gr.refl (m:af) (F:List Nat):Gr m F F:=fun _ h=>.inl h
theorem Gr.trans {m m1:af} {F F1 F2:List Nat} (hl:m.length<=m1.length) (h:Gr m F F1) (k:Gr m1 F1 F2):Gr m F F2:=fun x hx=>by
 rcases k x hx with h1 | h1
 ·exact h x h1
 ·exact .inr (by omega)
def jg (l:List ND) (n:ND):List ND:=if n∈l then l else l++[n]
theorem EI {l:List ND} {n:ND} (h:n∉l):l.idxOf n=l.length:=List.idxOf_eq_length h
theorem qo2 {m:af} {s p:Nat} {arms na:AV} {most:Int} {l:List ND} {T:List Nat} (h:SAt m s p arms na most l T) {n:ND} (hn:n.ok) (hm:n∉l) {z:Bool} {o:Own} (hk:qu (.lst none z o (n.kids.map (AV.int .i64)))=cE n)
  (hl:(l.length:Int) < most) (pg:most<=100000):∃ m' na' T',AC ae 139 [.ptr s 0,.agg [.int .i64 n.var,.lst none z o (n.kids.map (AV.int .i64)),.int .i64 n.leaf]] m=some (.int .i64 l.length,m') /\
   SAt m' s p arms na' most (l++[n]) T'/\Fr m m' (s::p::T)/\∀ t∈T',t∈T\/m.length<=t:=by
 have hs:=h.hs;have hp:=h.hp;have mQ:=bC hs;have hpl:=bC hp;have hne:=h.ne;have qmF:p≠s:=fun e=>hne e.symm;have nm:=X8 hn z o
 have bf:∀ x∈l++[n],x.ok:=fun x hx=>by
  rcases iy.1 hx with hx | hx
  ·exact h.ok x hx
  ·obtain rfl:x=n:=by simpa using hx
   exact hn
 have dd:l.length < 100000:=by omega
 generalize hbx:some (Ent.obj true [.int .i64 n.var,.lst none z o (n.kids.map (AV.int .i64)),.int .i64 n.leaf])=bx;have Ob:af.get (m++[bx]) p=some (Ent.mp .str (mb 0 l)):=by rw[bU hpl];exact hp
 have lk:=XG Ob h.ok hn (.int .i64 0);rw[aj hm] at lk;have sG:=AY n.var n.leaf z o (n.kids.map (AV.int .i64)) m;rw[hbx] at sG;have ldb:BV bx=some (true,[.int .i64 n.var,.lst none z o (n.kids.map (AV.int .i64)),.int .i64 n.leaf]):=by rw[<- hbx];rfl
 have hT:=h.hT;have oJ:AV.agg [.int .i64 n.var,cE n,.int .i64 n.leaf]=n.av:=rfl;have up:=fun m' hp=>qqy (m:=m') (p:=p) hp h.ok hn hm dd;have len1:∀ y:AV,((l.map ND.av)++[y]).length=l.length+1:=fun y=>by simp
 have wr1:IntKind.wrap .i64 (((l.length+1:Nat):Int) - 1)=l.length:=by rw[iQ (by omega) (by omega)];omega
 have key:∃ m' na' T',AC ae 139 [.ptr s 0,.agg [.int .i64 n.var,.lst none z o (n.kids.map (AV.int .i64)),.int .i64 n.leaf]] m=some (.int .i64 l.length,m') /\
   af.get m' s=some (Ent.obj true [arms,na',.mref p,.int .i64 most])/\af.get m' p=some (Ent.mp .str (mb 0 (l++[n])))/\NA m' na' (l++[n]) T'/\Fr m m' (s::p::T)/\(∀ t∈T',t≠s/\t≠p)/\∀ t∈T',t∈T\/m.length<=t:=by
  cases h.hn with
  | none=>
   have e:AC ae 139 [.ptr s 0,.agg [.int .i64 n.var,.lst none z o (n.kids.map (AV.int .i64)),.int .i64 n.leaf]] m=some (.int .i64 (0:Nat),(((((m++[bx])++[some Ent.resv]).set (m.length+1) (some (Ent.tok 1 3))).set s (some (Ent.obj true [arms,.lst (some 3) false (.tok (m.length+1) 74) [n.av],.mref p,.int .i64 most]))).set p (some (Ent.mp .str (mb 0 ([]++[n])))))):=by
    rw[L5]
    repeat ((with_reducible (first | apply bs | apply dn));(focus (first | (simp (disch:=(first | assumption | omega | (simp only[aI,a8,aL,aQ];first | done | omega))) only[dj,beq_self_eq_true,cK,aa,Sh.size,bz,bJ,Nat.reduceAdd,Nat.reduceLeDiff,aR,hs,sG,nm,lk,ldb];first | done | rfl) | rfl));try dsimp only)
    rw[gO]
    repeat ((with_reducible (first | apply bs | apply dn));(focus (first | (simp (disch:=(first | assumption | omega | (simp only[aI,a8,aL,aQ];first | done | omega))) only[dj,beq_self_eq_true,cK,aa,Sh.size,bz,bJ,Nat.reduceAdd,Nat.reduceLeDiff,aR,hs,sG,nm,lk,ldb];first | done | rfl) | rfl));try dsimp only)
    rw[aA,aj (by simp at hl ⊢;omega)]
    repeat ((with_reducible (first | apply bs | apply dn));(focus (first | (simp (disch:=(first | assumption | omega | (simp only[aI,a8,aL,aQ];first | done | omega))) only[dj,beq_self_eq_true,cK,aa,Sh.size,bz,bJ,Nat.reduceAdd,Nat.reduceLeDiff,aR,hs,sG,nm,lk,ldb,H0,hk,qit,oJ];first | done | rfl) | rfl));try dsimp only)
    rw[show IntKind.wrap .i64 ((1:Nat) - 1:Int)=((([]:List ND).length:Nat):Int) from rfl,up _ ?hq,aa]
    case hq=>exact (by simp (disch:=(first | assumption | omega | (simp only[aI,a8,aL,aQ];first | done | omega))) only[gR,bU,bG,cw,cL,hp];first | done | rfl)
    repeat ((with_reducible (first | apply bs | apply dn));(focus (first | (simp (disch:=(first | assumption | omega | (simp only[aI,a8,aL,aQ];first | done | omega))) only[dj,beq_self_eq_true,cK,aa,Sh.size,bz,bJ,Nat.reduceAdd,Nat.reduceLeDiff,aR,hs];first | done | rfl) | rfl));try dsimp only)
    rfl
   refine ⟨_,_,[m.length+1],e,(by simp (disch:=(first | assumption | omega | (simp only[aI,a8,aL,aQ];first | done | omega))) only[gR,bU,bG,cw,cL];first | done | rfl),(by simp (disch:=(first | assumption | omega | (simp only[aI,a8,aL,aQ];first | done | omega))) only[gR,bU,bG,cw,cL];first | done | rfl),?_,?_,?_,?_⟩
   ·exact .some _ [n] (by simp (disch:=(first | assumption | omega | (simp only[aI,a8,aL,aQ];first | done | omega))) only[gR,bU,bG,cw,cL];first | done | rfl)
   ·exact ((((Fr.app m bx _).snoc _).set _ (.inr (by omega))).set _ (.inl (by simp))).set _ (.inl (by simp))
   ·intro t ht;obtain rfl:t=m.length+1:=by simpa using ht
    omega
   ·intro t ht;obtain rfl:t=m.length+1:=by simpa using ht
    omega
  | some t l ht=>
   have gE:=bC ht;have BB:=(hT t (by simp)).1;have WH:=(hT t (by simp)).2;have qqX:s≠t:=fun e=>BB e.symm;have qqW:p≠t:=fun e=>WH e.symm
   have e:AC ae 139 [.ptr s 0,.agg [.int .i64 n.var,.lst none z o (n.kids.map (AV.int .i64)),.int .i64 n.leaf]] m=some (.int .i64 l.length,(((((m++[bx])++[some Ent.resv]).set t (some (Ent.tok (l.length+1) 3))).set s (some (Ent.obj true [arms,.lst (some 3) false (.tok t 74) (l.map ND.av++[n.av]),.mref p,.int .i64 most]))).set p (some (Ent.mp .str (mb 0 (l++[n])))))):=by
    have ap:=fun m' b ht=>qiv (b:=b) (m:=m') (t:=t) (es:=l.map ND.av) (y:=n.av) ht (by simp;omega);simp only[cg] at ap;rw[L5]
    repeat ((with_reducible (first | apply bs | apply dn));(focus (first | (simp (disch:=(first | assumption | omega | (simp only[aI,a8,aL,aQ];first | done | omega))) only[dj,beq_self_eq_true,cK,aa,Sh.size,bz,bJ,Nat.reduceAdd,Nat.reduceLeDiff,aR,hs,sG,nm,lk,ldb];first | done | rfl) | rfl));try dsimp only)
    rw[gO]
    repeat ((with_reducible (first | apply bs | apply dn));(focus (first | (simp (disch:=(first | assumption | omega | (simp only[aI,a8,aL,aQ];first | done | omega))) only[dj,beq_self_eq_true,cK,aa,Sh.size,bz,bJ,Nat.reduceAdd,Nat.reduceLeDiff,aR,hs,sG,nm,lk,ldb,cg];first | done | rfl) | rfl));try dsimp only)
    rw[aA,aj (by omega)]
    repeat ((with_reducible (first | apply bs | apply dn));(focus (first | (simp (disch:=(first | assumption | omega | (simp only[aI,a8,aL,aQ];first | done | omega))) only[dj,beq_self_eq_true,cK,aa,Sh.size,bz,bJ,Nat.reduceAdd,Nat.reduceLeDiff,aR,hs,sG,nm,lk,ldb,H0,hk,oJ];first | done | rfl) | rfl));try dsimp only)
    rw[ap _ _ ?hq,aa]
    case hq=>exact (by simp (disch:=(first | assumption | omega | (simp only[aI,a8,aL,aQ];first | done | omega))) only[gR,bU,bG,cw,cL,ht];first | done | rfl)
    dsimp only
    repeat ((with_reducible (first | apply bs | apply dn));(focus (first | (simp (disch:=(first | assumption | omega | (simp only[aI,a8,aL,aQ];first | done | omega))) only[dj,beq_self_eq_true,cK,aa,Sh.size,bz,bJ,Nat.reduceAdd,Nat.reduceLeDiff,aR,hs,len1];first | done | rfl) | rfl));try dsimp only)
    rw[wr1,up _ ?hq,aa]
    case hq=>exact (by simp (disch:=(first | assumption | omega | (simp only[aI,a8,aL,aQ];first | done | omega))) only[gR,bU,bG,cw,cL,hp];first | done | rfl)
    repeat ((with_reducible (first | apply bs | apply dn));(focus (first | (simp (disch:=(first | assumption | omega | (simp only[aI,a8,aL,aQ];first | done | omega))) only[dj,beq_self_eq_true,cK,aa,Sh.size,bz,bJ,Nat.reduceAdd,Nat.reduceLeDiff,aR,hs,len1];first | done | rfl) | rfl));try dsimp only)
    rw[wr1]
   refine ⟨_,_,[t],e,(by simp (disch:=(first | assumption | omega | (simp only[aI,a8,aL,aQ];first | done | omega))) only[gR,bU,bG,cw,cL];first | done | rfl),(by simp (disch:=(first | assumption | omega | (simp only[aI,a8,aL,aQ];first | done | omega))) only[gR,bU,bG,cw,cL];first | done | rfl),?_,?_,?_,?_⟩
   ·have e2:(l++[n]).map ND.av=l.map ND.av++[n.av]:=by simp
    rw[<- e2];refine .some t (l++[n]) ?_;rw[aI]
    exact (by simp (disch:=(first | assumption | omega | (simp only[aI,a8,aL,aQ];first | done | omega))) only[gR,bU,bG,cw,cL];first | done | rfl)
   ·exact ((((Fr.app m bx _).snoc _).set _ (.inl (by simp))).set _ (.inl (by simp))).set _ (.inl (by simp))
   ·intro x hx;obtain rfl:x=t:=by simpa using hx
    exact ⟨BB,WH⟩
   ·intro x hx;exact .inl hx
 obtain ⟨m',na',T',e,k1,k2,k3,k4,k5,k6⟩:=key;exact ⟨m',na',T',e,⟨k1,k2,k3,bf,hne,k5⟩,k4,k6⟩
theorem YQ {m:af} {s:Nat} {F:List Nat} {arms:AV} {most:Int} {l:List ND} (h:c9 m s F arms most l) {n:ND} (hn:n.ok) {z:Bool} {o:Own} (hk:qu (.lst none z o (n.kids.map (AV.int .i64)))=cE n)
  (hl:(l.length:Int) < most) (pg:most<=100000):∃ m' F',AC ae 139 [.ptr s 0,.agg [.int .i64 n.var,.lst none z o (n.kids.map (AV.int .i64)),.int .i64 n.leaf]] m=some (.int .i64 (l.idxOf n:Nat),m') /\
   c9 m' s F' arms most (jg l n)/\Fr m m' F/\Gr m F F':=by
 obtain ⟨p,na,T,h,rfl⟩:=h
 by_cases hm:n∈l
 ·refine ⟨_,s::p::T,qo3 h hn hm z o,?_,Fr.app m _ _,Gr.refl _ _⟩;rw[jg,an hm];exact ⟨p,na,T,h.move fun x hx=>bU (h.lt x hx),rfl⟩
 ·obtain ⟨m',na',T',e,h1,h2,h3⟩:=qo2 h hn hm hk hl pg
  refine ⟨m',s::p::T',by rw[EI hm];exact e,?_,h2,fun x hx=>?_⟩
  ·rw[jg,aj hm];exact ⟨p,na',T',h1,rfl⟩
  ·simp only[gA] at hx ⊢
   rcases hx with rfl | rfl | hx
   ·exact .inl (.inl rfl)
   ·exact .inl (.inr (.inl rfl))
   ·rcases h3 x hx with h | h
    ·exact .inl (.inr (.inr h))
    ·exact .inr h
end Go.Ab
namespace Go.Ab
noncomputable section
open Go.Proofs.Tryz
theorem Ds (a0 a1 a2:AV) (m:af):AC ae 34 [a0,a1,a2] m=(cS none none m a0).bind fun r1=>(cS none none r1.2 a1).bind fun r2=>(cS none none r2.2 a2).bind fun r3=>(ai none r3.2 r1.1).bind fun v4=>(AC ae 80 [v4] r3.2).bind fun r5=>aw r5.1 (some ((.tup [(.int .i64 0),(.int .i64 4)]),r5.2)) ((ai none r5.2 r2.1).bind fun v6=>(ag .other .lss v6 (.int .i64 0)).bind fun v7=>aw v7 (some ((.tup [(.int .i64 0),(.int .i64 1)]),r5.2)) ((ai none r5.2 r2.1).bind fun v8=>(ai none r5.2 r1.1).bind fun v9=>(iB v9).bind fun v10=>(aP 0 v10).bind fun v11=>(ai none r5.2 v11).bind fun v12=>(aK false v12).bind fun bh=>(ag .other .geq v8 bh).bind fun bg=>aw bg (some ((.tup [(.int .i64 0),(.int .i64 1)]),r5.2)) ((ai none r5.2 r3.1).bind fun bo=>(aK false bo).bind fun bL=>(ai none r5.2 r1.1).bind fun bD=>(iB bD).bind fun dQ=>(aP 0 dQ).bind fun c8=>(ai none r5.2 c8).bind fun v20=>(ai none r5.2 r2.1).bind fun v21=>(aF none v20 v21).bind fun v22=>(ai none r5.2 v22).bind fun v23=>(ag .other .neq bL v23).bind fun v24=>aw v24 (some ((.tup [(.int .i64 0),(.int .i64 1)]),r5.2)) ((ai none r5.2 r3.1).bind fun v25=>(AC ae 92 [v25,(.fn 97 [r1.1,r2.1])] r5.2).bind fun qT=>aw qT.1 (some ((.tup [(.int .i64 0),(.int .i64 1)]),qT.2)) ((ai none qT.2 r1.1).bind fun jt=>(AC ae 84 [jt,(.fn 98 [r1.1,r2.1,r3.1])] qT.2).bind fun E5=>(aZ E5.1 0).bind fun jS=>(aZ E5.1 1).bind fun v30=>some ((.tup [jS,v30]),E5.2)))))):=
(bj ae 34 [a0,a1,a2] m (fn:=f34) (c:=aB f34) qjQ rfl).trans (by kernel_rfl)
theorem SR (a0 a1 a2:AV) (m:af):AC ae 97 [a0,a1,a2] m=(ai none m a1).bind fun v1=>(AC ae 81 [v1,a0] m).bind fun r2=>(jn .not r2.1).bind fun v3=>aw v3 (pj (some (AV.tup [],r2.2)=some (AV.tup [],r2.2)) (some ((.bool true),r2.2))) ((ai none r2.2 a1).bind fun v4=>(ai none r2.2 a2).bind fun v5=>(AC ae 68 [v4,a0] r2.2).bind fun r6=>pj ((ai none r6.2 a2).bind (fun v=>some (v,r6.2))=some (v5,r6.2)) ((ag .other .leq r6.1 v5).bind fun v7=>some (v7,r6.2))):=
(bj ae 97 [a0,a1,a2] m (fn:=f97) (c:=aB f97) qkx rfl).trans (by kernel_rfl)
theorem T98 (a0 a1 a2:AV) (m:af):AC ae 98 [a0,a1,a2] m=(ai none m a0).bind fun v1=>(ai none m a1).bind fun v2=>(ai none m a2).bind fun v3=>(aC (AP ae) none m 88 [v3]).bind fun r4=>pj ((ai none r4.2 a0).bind (fun v=>some (v,r4.2))=some (v1,r4.2)) (pj ((ai none r4.2 a1).bind (fun v=>some (v,r4.2))=some (v2,r4.2)) ((AC ae 99 [v1,v2,r4.1] r4.2).bind fun r5=>some (r5.1,r5.2))):=
(bj ae 98 [a0,a1,a2] m (fn:=f98) (c:=aB f98) qky rfl).trans (by kernel_rfl)
end
end Go.Ab
namespace Go.Ab
open Go.Proofs Go.Proofs.Tryz
abbrev IA (z:Bool) (o:Own) (ns:List Int):AV:=.lst none z o (ns.map (AV.int .i64))
theorem mc (z:Bool) (o:Own) (ns:List Int):Fz (IA z o ns) (IA z o.fr ns):=fun m=>by cases o<;>rfl
theorem iI (z:Bool) (o:Own) (ns:List Int):aK false (IA z o ns)=some (.int .i64 ns.length):=by
 rw[pn,cg]
theorem jY {z:Bool} {o:Own} {ns:List Int} {k:IntKind} {i:Nat} (h:i < ns.length):aF none (IA z o ns) (.int k i)=some (.vptr [.int .i64 ns[i]]):=by
 simp[aF,h,AV.cells]
theorem EJ {z:Bool} {o:Own} {ns:List Int} {k:IntKind} (h:0 < ns.length):aF none (IA z o ns) (.int k 0)=some (.vptr [.int .i64 ns[0]]):=jY (i:=0) h
def yw (z:Bool) (ns:List Int):AV:=if z then aq else if ns=[] then .lst none false .full [] else IA false .no ns
theorem V49 (z:Bool) (o:Own) (ns:List Int) (hl:ns.length<=1000000):AP ae 88 [IA z o ns]=some (yw z ns):=by
 have e0:ag .sl .eql (IA z o ns) aq=some (.bool z):=rfl
 cases z with
 | true=>
  refine iw (m:=[]) (v:=aq) (l:=[]) ?_ rfl rfl;rw[Mb,e0,aa,iV]
 | false=>
  cases ns with
  | nil=>
   refine iw (m:=[]) (v:=.lst none false .full []) (l:=[]) ?_ rfl rfl;rw[Mb,e0,aa,gO]
   rfl
  | cons n ns=>
   refine iw (m:=[some (Ent.tok (0+(ns.length+1)) 1)]) (v:=.lst none false (.tok 0 3) ((n::ns).map (AV.int .i64))) (l:=[]) ?_ rfl rfl;rw[Mb,e0,aa,gO,show dH none []=some (.lst none false .full []) from rfl,aa];have hb:(0+(ns.length+1)) * 8<=gS:=by unfold gS;simp at hl;omega
   simp only[ck,gg,aQ,aL,cg,hb,bz,or_true,j6,mo,az,aQ,bQ,aa,Sh.size]
theorem Pm (z:Bool) (o:Own) (ns:List Int) (hl:ns.length<=1000000) (m:af):aC (AP ae) none m 88 [IA z o ns]=some (yw z ns,m):=by
 rw[cG (mc z o ns),V49 _ _ _ hl];rfl
theorem V51 (n:Int):AP ae 94 [.int .i64 n]=some (.bool (decide (0<=n/\n<=2147483647))):=by
 refine iw (m:=[]) (v:=.bool (decide (0<=n/\n<=2147483647))) (l:=[]) ?_ rfl rfl;rw[SQ,kK,aa,aA]
 by_cases h:n≥0
 ·rw[an h,sr,aa];congr 3;exact jL.2 (by omega)
 ·rw[aj h];congr 3;exact (cT (by omega)).symm
theorem Pn (n:Int) (m:af):aC (AP ae) none m 94 [.int .i64 n]=some (.bool (decide (0<=n/\n<=2147483647)),m):=by
 rw[cG (fW _ _),V51];rfl
section
variable {m:af} {s:Nat} {F:List Nat} {arms:AV} {most:Int} {l:List ND}
theorem xS (h:c9 m s F arms most l) (hm:most≠0):AC ae 80 [.ptr s 0] m=some (.bool false,m):=by
 obtain ⟨p,na,T,h,rfl⟩:=h;have hs:=h.hs;rw[Ma,show ag .pt .eql (.ptr s 0) .nilp=some (.bool false) from rfl,aa,gO]
 repeat ((with_reducible (first | apply bs | apply dn));(focus (first | (simp (disch:=(first | assumption | omega | (simp only[aI,a8,aL,aQ];first | done | omega))) only[dj,beq_self_eq_true,cK,aa,Sh.size,bz,bJ,Nat.reduceAdd,Nat.reduceLeDiff,aR,hs];first | done | rfl) | rfl));try dsimp only)
 rw[show (decide (most=0))=false from cT hm]
theorem FJ (h:c9 m s F arms most l) (i:Int):AC ae 81 [.ptr s 0,.int .i64 i] m=some (.bool (decide (0<=i/\i < l.length)),m):=by
 obtain ⟨p,na,T,h,rfl⟩:=h;have hs:=h.hs
 have hlen:aK false na=some (.int .i64 l.length):=by
  cases h.hn with
  | none=>rfl
  | some t l ht=>rw[pn,cg]
 rw[T81,kK,aa,aA]
 by_cases h0:i≥0
 ·rw[an h0]
  repeat ((with_reducible (first | apply bs | apply dn));(focus (first | (simp (disch:=(first | assumption | omega | (simp only[aI,a8,aL,aQ];first | done | omega))) only[dj,beq_self_eq_true,cK,aa,Sh.size,bz,bJ,Nat.reduceAdd,Nat.reduceLeDiff,aR,hs,hlen];first | done | rfl) | rfl));try dsimp only)
  congr 3;exact jL.2 (by omega)
 ·rw[aj h0,show (decide (0<=i/\i < l.length))=false from cT (by omega)]
def fE (a:Nat) (n:ND):Int:=if n.var≥0 then n.var else a
theorem EX {na:AV} {T:List Nat} (h:NA m na l T) {i:Nat} (hi:i < l.length):aF (some 3) na (.int .i64 i)=some (.vptr [.int .i64 l[i].var,cE l[i],.int .i64 l[i].leaf]):=by
 cases h with
 | none=>simp at hi
 | some t l ht=>simp[aF,hi];rfl
theorem AX (n:ND) (m:af) (h:af.get m m.length=none):aM (some 3) (m++[some (Ent.obj true [.int .i64 0,aq,.int .i64 0])]) (.ptr m.length 0) (.agg [.int .i64 n.var,cE n,.int .i64 n.leaf])=some (m++[some (Ent.obj true [.int .i64 n.var,cE n,.int .i64 n.leaf])]):=by
 have e:cU (some 3) (.agg [.int .i64 n.var,cE n,.int .i64 n.leaf])=true:=by unfold cE;split<;>rfl
 rw[qt,bG rfl,kh,aa];simp[cK,Sh.size,e,bJ,AV.cells]
theorem Bc (m:af):af.get m m.length=none:=by simp[af.get]
theorem J8 {z:Bool} {o:Own} {ar:List Int} (h:c9 m s F (IA z o ar) most l) {i:Nat} (hi:i < l.length):∃ m',AC ae 68 [.ptr s 0,.int .i64 i] m=some (.int .i64 (fE ar.length l[i]),m')/\Fr m m' []:=by
 obtain ⟨p,na,T,h,rfl⟩:=h;have hs:=h.hs;have mQ:=bC hs;have nw:=EX h.hn hi;have bx:=AX l[i] m (Bc m);refine ⟨_,?_,Fr.app m (some (Ent.obj true [.int .i64 l[i].var,cE l[i],.int .i64 l[i].leaf])) []⟩;rw[T68]
 repeat ((with_reducible (first | apply bs | apply dn));(focus (first | (simp (disch:=(first | assumption | omega | (simp only[aI,a8,aL,aQ];first | done | omega))) only[dj,beq_self_eq_true,cK,aa,Sh.size,bz,bJ,Nat.reduceAdd,Nat.reduceLeDiff,aR,hs,nw,bx];first | done | rfl) | rfl));try dsimp only)
 rw[aA]
 by_cases hv:l[i].var≥0
 ·rw[an hv]
  repeat ((with_reducible (first | apply bs | apply dn));(focus (first | (simp (disch:=(first | assumption | omega | (simp only[aI,a8,aL,aQ];first | done | omega))) only[dj,beq_self_eq_true,cK,aa,Sh.size,bz,bJ,Nat.reduceAdd,Nat.reduceLeDiff,aR,hs];first | done | rfl) | rfl));try dsimp only)
  rw[fE,an hv]
 ·rw[aj hv]
  repeat ((with_reducible (first | apply bs | apply dn));(focus (first | (simp (disch:=(first | assumption | omega | (simp only[aI,a8,aL,aQ];first | done | omega))) only[dj,beq_self_eq_true,cK,aa,Sh.size,bz,bJ,Nat.reduceAdd,Nat.reduceLeDiff,aR,hs,iI];first | done | rfl) | rfl));try dsimp only)
  rw[fE,aj hv]
def iH (x:Int):ND:=⟨-1,[],x⟩
theorem Xm {x:Int} (h:0<=x/\x<=2147483647):(iH x).ok:=.inl ⟨rfl,rfl,h⟩
theorem Qk (h:c9 m s F arms most l) {x:Int} (hx:0<=x/\x<=2147483647) (hl:(l.length:Int) < most) (pg:most<=100000) :
  ∃ m' F',AC ae 96 [.ptr s 0,.int .i64 x] m=some (.int .i64 (l.idxOf (iH x):Nat),m')/\c9 m' s F' arms most (jg l (iH x))/\Fr m m' F/\Gr m F F':=by
 obtain ⟨m',F',e,h1,h2,h3⟩:=YQ h (Xm hx) (z:=true) (o:=.full) rfl hl pg;refine ⟨m',F',?_,h1,h2,h3⟩;have e:AC ae 139 [.ptr s 0,.agg [.int .i64 (-1),aq,.int .i64 x]] m=_:=e;rw[T96,show fU (.agg [(.int .i64 0),aq,(.int .i64 0)]) [(0,none,(.int .i64 (-1))),(2,none,.int .i64 x)]=some (.agg [.int .i64 (-1),aq,.int .i64 x]) from rfl,aa,e,aa]
def ig (v:Int) (ks:List Int):ND:=⟨v,ks,0⟩
def nV (l:List ND) (v:Int) (ks:List Int):Int×List ND:=if ks.all (fun k=>k == ks.headD 0) then (ks.headD 0,l) else (((l.idxOf (ig v ks):Nat):Int),jg l (ig v ks))
theorem Yb (l:List ND) (v k0:Int) (ks:List Int):nV l v (k0::ks)=if (k0::ks).all (fun k=>k == k0) then (k0,l) else (((l.idxOf (ig v (k0::ks)):Nat):Int),jg l (ig v (k0::ks))):=rfl
theorem TA (x0:AV) (v:Int) (z:Bool) (o:Own) (k0:Int) (ks:List Int) (hlen:(k0::ks).length<=1000) (K:KT):∀ j i:Nat,i+j=(k0::ks).length ->
  Hb x0 (.int .i64 v) (IA z o (k0::ks)) (IA z o (k0::ks)) (.int .i64 (k0::ks).length) (.int .i64 i) m K =
   if ((k0::ks).drop i).all (fun k=>k == k0) then K (.exit 0) (LZ (IA z o (k0::ks)) m) else
    (AC ae 139 [x0,.agg [.int .i64 v,IA z o (k0::ks),.int .i64 0]] m).bind fun r8=>K .ret (L0 r8.1 r8.2)
 | 0,i,h=>by
  rw[R3,bc,aa,aA,aj (by omega),jq (by omega)];rfl
 | j+1,i,h=>by
  have hi:i < (k0::ks).length:=by omega
  rw[R3,bc,aa,aA,an (by omega),jY hi,aa,gy,aa,EJ (by simp),aa,gy,aa,gZ,aa,aA,kr hi,oq];have hb:∀ (a b:Int),fU (.agg [(.int .i64 0),aq,(.int .i64 0)]) [(0,none,.int .i64 v),(1,none,IA z o (k0::ks))]=some (.agg [.int .i64 v,IA z o (k0::ks),.int .i64 0]):=fun _ _=>rfl
  by_cases he:(k0::ks)[i]=k0
  ·rw[aj (by simpa using he),cr (by omega),aa,TA x0 v z o k0 ks hlen K j (i+1) (by omega),show ((k0::ks)[i] == k0)=true by simpa using he,iN]
  ·rw[an (by simpa using he),hb 0 0,aa,show ((k0::ks)[i] == k0)=false by simpa using he,lY];rfl
theorem Ql (h:c9 m s F arms most l) {v:Int} {z:Bool} {o:Own} {ks:List Int} (hne:ks≠[]) (hn:(ig v ks).ok) (hz:z=false) (ho:o=.no\/∃ t e,o=.tok t e) (hl:(l.length:Int) < most) (pg:most<=100000) :
  ∃ m' F',AC ae 99 [.ptr s 0,.int .i64 v,IA z o ks] m=some (.int .i64 (nV l v ks).1,m')/\c9 m' s F' arms most (nV l v ks).2/\Fr m m' F/\Gr m F F':=by
 obtain ⟨k0,ks,rfl⟩:=List.exists_cons_of_ne_nil hne;subst hz
 have hv:¬ v < 0/\(k0::ks).length<=64:=by
  rcases hn with ⟨_,h2,_⟩ | ⟨h1,_,_,_,h5⟩
  ·cases h2
  ·exact ⟨by simp only[ig] at h1;omega,h5⟩
 rw[T99,iI,aa];have w:=TA (m:=m) (.ptr s 0) v false o k0 ks (by omega) (Gq (aE ae.P f99.results.toList)) (k0::ks).length 0 (by omega);rw[jI] at w;rw[show (AV.int .i64 0)=.int .i64 ((0:Nat):Int) from rfl,w,Yb]
 by_cases ha:((k0::ks).all fun k=>k == k0)=true
 ·rw[an ha,an ha,qfK,EJ (by simp),aa,gy,aa];exact ⟨m,F,rfl,h,Fr.refl _ _,Gr.refl _ _⟩
 ·rw[aj ha,aj ha]
  have hk:qu (.lst none false o (((ig v (k0::ks)).kids).map (AV.int .i64)))=cE (ig v (k0::ks)):=by
   unfold cE;rw[aj (show ¬ (ig v (k0::ks)).var < 0 from hv.1)]
   rcases ho with rfl | ⟨t,e,rfl⟩<;>rfl
  obtain ⟨m',F',e,h1,h2,h3⟩:=YQ h hn (z:=false) (o:=o) hk hl pg;refine ⟨m',F',?_,h1,h2,h3⟩;have e:AC ae 139 [.ptr s 0,.agg [.int .i64 v,IA false o (k0::ks),.int .i64 0]] m=_:=e;rw[e,aa,qfJ]
theorem tK {f g:Nat} {vs:List AV} {m:af} {K:AV->af->OM} (h1:((ae.lib g).isNone && (ae.libm g).isNone)=true) (h2:ae.inl f g=true) (h3:ae.thaw f g=false) (h4:ae.frzc f g=false:=by rfl):j7 ae f (AP ae) (AC ae) none g vs m K=(AC ae g vs m).bind fun r=>K r.1 r.2:=by
 have h5:ae.lib g=none/\ae.libm g=none:=by
  rw[cn] at h1;exact ⟨Option.isNone_iff_eq_none.1 h1.1,Option.isNone_iff_eq_none.1 h1.2⟩
 unfold j7;rw[h5.2,h5.1,h2,h4,h3]
theorem Qj {g:Nat} {caps:List AV} {id:Int} {l':List ND} (h:c9 m s F arms most l) (h1:((ae.lib g).isNone && (ae.libm g).isNone)=true) (h2:ae.inl 84 g=true) (h3:ae.thaw 84 g=false)
  (hc:∀ m1,Fr m m1 []->∃ m' F',AC ae g caps m1=some (.int .i64 id,m')/\c9 m' s F' arms most l'/\Fr m1 m' F/\Gr m1 F F') :
  ∃ m' F',AC ae 84 [.ptr s 0,.fn g caps] m=some (.tup [.int .i64 id,.int .i64 0],m')/\c9 m' s F' arms most l'/\Fr m m' F/\Gr m F F':=by
 have hlt:=h.lt;obtain ⟨p,na,T,h,rfl⟩:=h;have hs:=h.hs;have mQ:=bC hs
 have hlen:aK false na=some (.int .i64 l.length):=by
  cases h.hn with
  | none=>rfl
  | some t l ht=>rw[pn,cg]
 obtain ⟨m2,F2,e2,k1,k2,k3⟩:=hc (List.set (((m++[some (Ent.obj true [.ptr s 0])])++[some (Ent.obj true [.int .i64 0])])++[some (Ent.obj true [.int .i64 0])]++[some (Ent.obj true [.int .i64 0])]) (m.length+1+1+1) (some (Ent.obj true [.int .i64 l.length]))) (((((Fr.app m _ _).snoc _).snoc _).snoc _).set _ (.inr (by omega)));have len2:=k2.len;simp only[a8,aI,aL,aQ] at len2
 have g1:af.get m2 (m.length+1)=some (Ent.obj true [.int .i64 0]):=by
  rw[k2.get _ (by simp) (fun hx=>by have:=hlt _ hx;omega)];exact (by simp (disch:=(first | assumption | omega | (simp only[aI,a8,aL,aQ];first | done | omega))) only[gR,bU,bG,cw,cL];first | done | rfl)
 have g2:af.get m2 (m.length+2)=some (Ent.obj true [.int .i64 0]):=by
  rw[k2.get _ (by simp) (fun hx=>by have:=hlt _ hx;omega)];exact (by simp (disch:=(first | assumption | omega | (simp only[aI,a8,aL,aQ];first | done | omega))) only[gR,bU,bG,cw,cL];first | done | rfl)
 have e:AC ae 84 [.ptr s 0,.fn g caps] m=some (.tup [.int .i64 id,.int .i64 0],(m2.set (m.length+1) (some (Ent.obj true [.int .i64 id]))).set (m.length+1+1) (some (Ent.obj true [.int .i64 0]))):=by
  rw[SP]
  repeat ((with_reducible (first | apply bs | apply dn));(focus (first | (simp (disch:=(first | assumption | omega | (simp only[aI,a8,aL,aQ];first | done | omega))) only[dj,beq_self_eq_true,cK,aa,Sh.size,bz,bJ,Nat.reduceAdd,Nat.reduceLeDiff,aR,hs,hlen,oZ];first | done | rfl) | rfl));try dsimp only)
  rw[bQ,tK h1 h2 h3,e2,aa];dsimp only
  repeat ((with_reducible (first | apply bs | apply dn));(focus (first | (simp (disch:=(first | assumption | omega | (simp only[aI,a8,aL,aQ];first | done | omega))) only[dj,beq_self_eq_true,cK,aa,Sh.size,bz,bJ,Nat.reduceAdd,Nat.reduceLeDiff,aR,g1,g2];first | done | rfl) | rfl));try dsimp only)
 refine ⟨_,F2,e,?_,?_,?_⟩
 ·refine k1.move fun x hx=>?_
  have hx2:x≠m.length+1/\x≠m.length+1+1:=by
   rcases k3 x hx with h | h
   ·have:=hlt x h;omega
   ·simp only[a8,aI,aL,aQ] at h;omega
  rw[cw hx2.2,cw hx2.1]
 ·have f1:Fr m m2 (s::p::T):=Fr.trans (((((Fr.app m _ _).snoc _).snoc _).snoc _).set _ (.inr (by omega))) k2 fun x hx=>.inl hx;exact (f1.set _ (.inr (by omega))).set _ (.inr (by omega))
 ·intro x hx
  rcases k3 x hx with h | h
  ·exact .inl h
  ·simp only[a8,aI,aL,aQ] at h;exact .inr (by omega)
end
end Go.Ab
namespace Go.Ab
open Go.Proofs Go.Proofs.Tryz
section
variable {m:af} {s:Nat} {F:List Nat} {arms:AV} {most:Int} {l:List ND}
theorem not_mem_nil {F:List Nat}:∀ x∈F,x∉([]:List Nat):=fun _ _ h=>by cases h
theorem c9.app (h:c9 m s F arms most l) {m':af} (f:Fr m m' []):c9 m' s F arms most l:=h.fr f not_mem_nil
def xh (l:List ND) (x:Int):(Int×Int)×List ND:=if 0<=x/\x<=2147483647 then ((((l.idxOf (iH x):Nat):Int),0),jg l (iH x)) else ((0,1),l)
theorem A53 {b1 b2:Nat} {x:Int} (h:c9 m s F arms most l) (h1:m.get b1=some (Ent.obj true [.ptr s 0])) (h2:m.get b2=some (Ent.obj true [.int .i64 x])) (hx:0<=x/\x<=2147483647) (hl:(l.length:Int) < most) (pg:most<=100000) :
  ∃ m' F',AC ae 95 [.ptr b1 0,.ptr b2 0] m=some (.int .i64 (l.idxOf (iH x):Nat),m')/\c9 m' s F' arms most (jg l (iH x))/\Fr m m' F/\Gr m F F':=by
 obtain ⟨m',F',e,k⟩:=Qk h hx hl pg;refine ⟨m',F',?_,k⟩;rw[T95]
 repeat ((with_reducible (first | apply bs | apply dn));(focus (first | (simp (disch:=(first | assumption | omega | (simp only[aI,a8,aL,aQ];first | done | omega))) only[dj,beq_self_eq_true,cK,aa,Sh.size,bz,bJ,Nat.reduceAdd,Nat.reduceLeDiff,aR,h1,h2,e];first | done | rfl) | rfl));try dsimp only)
theorem A15 (h:c9 m s F arms most l) (x:Int) (hl:(l.length:Int) < most) (pg:most<=100000) :
  ∃ m' F',AC ae 33 [.ptr s 0,.int .i64 x] m=some (.tup [.int .i64 (xh l x).1.1,.int .i64 (xh l x).1.2],m')/\c9 m' s F' arms most (xh l x).2/\Fr m m' F/\Gr m F F':=by
 have f2:Fr m ((m++[some (Ent.obj true [.ptr s 0])])++[some (Ent.obj true [.int .i64 x])]) []:=(Fr.app m _ _).snoc _;have h2:=h.app f2;have e50:=xS h2 (by omega);have hlt:=h.lt
 by_cases hx:0<=x/\x<=2147483647
 ·have hd:decide (0<=x/\x<=2147483647)=true:=eE hx
  obtain ⟨m',F',e52,k1,k2,k3⟩:=Qj (g:=95) (caps:=[.ptr m.length 0,.ptr (m.length+1) 0]) (id:=(l.idxOf (iH x):Nat)) h2 rfl rfl rfl
   (fun m1 fr=>A53 (h2.app fr) (by rw[fr.get _ (by simp) (by simp)];exact (by simp (disch:=(first | assumption | omega | (simp only[aI,a8,aL,aQ];first | done | omega))) only[gR,bU,bG,cw,cL];first | done | rfl)) (by rw[fr.get _ (by simp) (by simp)];exact (by simp (disch:=(first | assumption | omega | (simp only[aI,a8,aL,aQ];first | done | omega))) only[gR,bU,bG,cw,cL];first | done | rfl)) hx hl pg)
  refine ⟨m',F',?_,by rw[xh,an hx];exact k1,Fr.trans (f2.mono (by simp)) k2 fun _ h=>.inl h,Gr.trans f2.len (Gr.refl m F) k3⟩;rw[SK,xh,an hx]
  repeat ((with_reducible (first | apply bs | apply dn));(focus (first | (simp (disch:=(first | assumption | omega | (simp only[aI,a8,aL,aQ];first | done | omega))) only[dj,beq_self_eq_true,cK,aa,Sh.size,bz,bJ,Nat.reduceAdd,Nat.reduceLeDiff,aR,oZ,uW,e50];first | done | rfl) | rfl));try dsimp only)
  rw[gO]
  repeat ((with_reducible (first | apply bs | apply dn));(focus (first | (simp (disch:=(first | assumption | omega | (simp only[aI,a8,aL,aQ];first | done | omega))) only[dj,beq_self_eq_true,cK,aa,Sh.size,bz,bJ,Nat.reduceAdd,Nat.reduceLeDiff,aR,oZ,uW,Pn,hd];first | done | rfl) | rfl));try dsimp only)
  rw[jU,gO]
  repeat ((with_reducible (first | apply bs | apply dn));(focus (first | (simp (disch:=(first | assumption | omega | (simp only[aI,a8,aL,aQ];first | done | omega))) only[dj,beq_self_eq_true,cK,aa,Sh.size,bz,bJ,Nat.reduceAdd,Nat.reduceLeDiff,aR,e52];first | done | rfl) | rfl));try dsimp only)
 ·have hd:decide (0<=x/\x<=2147483647)=false:=cT hx;refine ⟨_,F,?_,by rw[xh,aj hx];exact h2,f2.mono (by simp),Gr.refl _ _⟩;rw[SK,xh,aj hx]
  repeat ((with_reducible (first | apply bs | apply dn));(focus (first | (simp (disch:=(first | assumption | omega | (simp only[aI,a8,aL,aQ];first | done | omega))) only[dj,beq_self_eq_true,cK,aa,Sh.size,bz,bJ,Nat.reduceAdd,Nat.reduceLeDiff,aR,oZ,uW,e50];first | done | rfl) | rfl));try dsimp only)
  rw[gO]
  repeat ((with_reducible (first | apply bs | apply dn));(focus (first | (simp (disch:=(first | assumption | omega | (simp only[aI,a8,aL,aQ];first | done | omega))) only[dj,beq_self_eq_true,cK,aa,Sh.size,bz,bJ,Nat.reduceAdd,Nat.reduceLeDiff,aR,oZ,uW,Pn,hd];first | done | rfl) | rfl));try dsimp only)
  rw[nH,iV]
def ui (a:Nat) (l:List ND) (v k:Int):Bool:=decide (0<=k/\k < l.length) && decide (v < fE a (l.getD k.toNat ⟨0,[],0⟩))
def vG (ar:List Int) (l:List ND) (v:Int) (ks:List Int):(Int×Int)×List ND:=
 if 0<=v/\v < ar.length/\(ks.length:Int)=ar.getD v.toNat 0/\ks.all (ui ar.length l v)=true then (((nV l v ks).1,0),(nV l v ks).2) else ((0,1),l)
theorem A55 {z:Bool} {o:Own} {ar:List Int} {b1 b2:Nat} {k v:Int} (h:c9 m s F (IA z o ar) most l) (h1:m.get b1=some (Ent.obj true [.ptr s 0])) (h2:m.get b2=some (Ent.obj true [.int .i64 v])) :
  ∃ m',AC ae 97 [.int .i64 k,.ptr b1 0,.ptr b2 0] m=some (.bool (!ui ar.length l v k),m')/\Fr m m' []:=by
 have e56:=FJ h k;have lP:=bC h1;have gC:=bC h2
 by_cases hk:0<=k/\k < l.length
 ·have hd:decide (0<=k/\k < l.length)=true:=eE hk;obtain ⟨i,rfl⟩:=oW hk.1;have hi:i < l.length:=by omega
  obtain ⟨m',e57,f⟩:=J8 h hi;refine ⟨m',?_,f⟩;have iE:m'.get b2=some (Ent.obj true [.int .i64 v]):=(f.get _ gC (by simp)).trans h2;rw[SR]
  repeat ((with_reducible (first | apply bs | apply dn));(focus (first | (simp (disch:=(first | assumption | omega | (simp only[aI,a8,aL,aQ];first | done | omega))) only[dj,beq_self_eq_true,cK,aa,Sh.size,bz,bJ,Nat.reduceAdd,Nat.reduceLeDiff,aR,h1,e56];first | done | rfl) | rfl));try dsimp only)
  rw[hd,jU,gO]
  repeat ((with_reducible (first | apply bs | apply dn));(focus (first | (simp (disch:=(first | assumption | omega | (simp only[aI,a8,aL,aQ];first | done | omega))) only[dj,beq_self_eq_true,cK,aa,Sh.size,bz,bJ,Nat.reduceAdd,Nat.reduceLeDiff,aR,h1,h2,e57];first | done | rfl) | rfl));try dsimp only)
  rw[qM (by simp only[bV,iE,kh,aa];rfl)]
  repeat ((with_reducible (first | apply bs | apply dn));(focus (first | (simp (disch:=(first | assumption | omega | (simp only[aI,a8,aL,aQ];first | done | omega))) only[dj,beq_self_eq_true,cK,aa,Sh.size,bz,bJ,Nat.reduceAdd,Nat.reduceLeDiff,aR];first | done | rfl) | rfl));try dsimp only)
  rw[ui,hd,iN,cH,aT,bM hi,eh];congr 3;rw[<- decide_not];exact jL.2 (by omega)
 ·have hd:decide (0<=k/\k < l.length)=false:=cT hk;refine ⟨m,?_,Fr.refl _ _⟩;rw[SR]
  repeat ((with_reducible (first | apply bs | apply dn));(focus (first | (simp (disch:=(first | assumption | omega | (simp only[aI,a8,aL,aQ];first | done | omega))) only[dj,beq_self_eq_true,cK,aa,Sh.size,bz,bJ,Nat.reduceAdd,Nat.reduceLeDiff,aR,h1,e56];first | done | rfl) | rfl));try dsimp only)
  rw[hd,nH,iV,qM rfl,ui,hd,lY,nH]
theorem TG {z:Bool} {o:Own} {ks:List Int} {g:Nat} {caps:List AV} {p:Int->Bool} (hlen:ks.length<=100000) (h1:((ae.lib g).isNone && (ae.libm g).isNone)=true) (h2:ae.inl 145 g=true) (h3:ae.thaw 145 g=false) (m0:af)
  (hc:∀ m1 k,Fr m0 m1 []->∃ m',AC ae g (.int .i64 k::caps) m1=some (.bool (p k),m')/\Fr m1 m' []):∀ (j i:Nat) (m1:af),i+j=ks.length->Fr m0 m1 [] ->
  ∃ m' v,Aq (IA z o ks) (.fn g caps) (.int .i64 ks.length) (.int .i64 i) m1 (Al (aE ae.P f145.results.toList))=some (.int .i64 v,m')/\decide (v≥0)=(ks.drop i).any p/\Fr m0 m' []
 | 0,i,m1,h,f=>by
  refine ⟨m1,-1,?_,?_,f⟩
  ·rw[Rb,bc,aa,aA,aj (by omega),qcB]
  ·rw[jq (by omega)];rfl
 | j+1,i,m1,h,f=>by
  have hi:i < ks.length:=by omega
  obtain ⟨m2,e,f2⟩:=hc m1 ks[i] f;have f3:Fr m0 m2 []:=Fr.trans f f2 fun x hx=>by cases hx
  have e0:Aq (IA z o ks) (.fn g caps) (.int .i64 ks.length) (.int .i64 i) m1 (Al (aE ae.P f145.results.toList)) =
    aw (.bool (p ks[i])) (some (.int .i64 i,m2)) (Aq (IA z o ks) (.fn g caps) (.int .i64 ks.length) (.int .i64 (i+1:Nat)) m2 (Al (aE ae.P f145.results.toList))):=by
   rw[Rb,bc,aa,aA,an (by omega),jY hi,aa,gy,aa,show lH (.fn g caps)=some (g,caps) from rfl,aa,tK h1 h2 h3,List.singleton_append,e,aa,qcA,cr (by omega),aa]
  rw[e0,kr hi,List.any_cons]
  cases hp:p ks[i] with
  | true=>
   rw[iV];exact ⟨m2,i,rfl,by simp,f3⟩
  | false=>
   rw[gO];obtain ⟨m',v,e1,e2,e3⟩:=TG hlen h1 h2 h3 m0 hc j (i+1) m2 (by omega) f3;exact ⟨m',v,e1,by rw[e2,Ah],e3⟩
theorem Qi {z:Bool} {o:Own} {ks:List Int} {g:Nat} {caps:List AV} {p:Int->Bool} (hlen:ks.length<=100000) (h1:((ae.lib g).isNone && (ae.libm g).isNone)=true) (h2:ae.inl 145 g=true) (h3:ae.thaw 145 g=false)
  (hc:∀ m1 k,Fr m m1 []->∃ m',AC ae g (.int .i64 k::caps) m1=some (.bool (p k),m')/\Fr m1 m' []):∃ m',AC ae 92 [IA z o ks,.fn g caps] m=some (.bool (ks.any p),m')/\Fr m m' []:=by
 obtain ⟨m',v,e1,e2,e3⟩:=TG (z:=z) (o:=o) hlen h1 h2 h3 m hc ks.length 0 m (by omega) (Fr.refl _ _);refine ⟨m',?_,e3⟩;rw[T92,qgI,iI,aa,show (AV.int .i64 0)=.int .i64 ((0:Nat):Int) from rfl,e1,aa,show ((0:Nat):Int)=0 from rfl];rw[kK,aa,e2,jI]
theorem A58 {z:Bool} {o:Own} {ar:List Int} {b1 b2 b3:Nat} {v:Int} {kz:Bool} {ko:Own} {ks:List Int} (h:c9 m s F (IA z o ar) most l) (h1:m.get b1=some (Ent.obj true [.ptr s 0])) (h2:m.get b2=some (Ent.obj true [.int .i64 v])) (h3:m.get b3=some (Ent.obj true [IA kz ko ks]))
  (hne:ks≠[]) (hz:kz=false) (hn:(ig v ks).ok) (hl:(l.length:Int) < most) (pg:most<=100000) :
  ∃ m' F',AC ae 98 [.ptr b1 0,.ptr b2 0,.ptr b3 0] m=some (.int .i64 (nV l v ks).1,m')/\c9 m' s F' (IA z o ar) most (nV l v ks).2/\Fr m m' F/\Gr m F F':=by
 subst hz
 have fI:ks.length<=64:=by
  rcases hn with ⟨_,h2,_⟩ | ⟨_,_,_,_,h5⟩
  ·exact absurd h2 hne
  ·exact h5
 have hcl:yw false ks=IA false .no ks:=by unfold yw;rw[aj (by simp),aj hne]
 have c49:=fun m=>Pm false ko ks (by omega) m;obtain ⟨m',F',e,k⟩:=Ql h hne hn (z:=false) rfl (.inl rfl) hl pg;refine ⟨m',F',?_,k⟩;rw[T98]
 repeat ((with_reducible (first | apply bs | apply dn));(focus (first | (simp (disch:=(first | assumption | omega | (simp only[aI,a8,aL,aQ];first | done | omega))) only[dj,beq_self_eq_true,cK,aa,Sh.size,bz,bJ,Nat.reduceAdd,Nat.reduceLeDiff,aR,h1,h2,h3,c49,hcl];first | done | rfl) | rfl));try dsimp only)
 rw[qM (by simp only[bV,h1,kh,aa];rfl),qM (by simp only[bV,h2,kh,aa];rfl)]
 repeat ((with_reducible (first | apply bs | apply dn));(focus (first | (simp (disch:=(first | assumption | omega | (simp only[aI,a8,aL,aQ];first | done | omega))) only[dj,beq_self_eq_true,cK,aa,Sh.size,bz,bJ,Nat.reduceAdd,Nat.reduceLeDiff,aR,e];first | done | rfl) | rfl));try dsimp only)
theorem TW (ks:List Int) (p:Int->Bool):ks.any (fun k=>!p k) = !ks.all p:=by
 induction ks with
 | nil=>rfl
 | cons k ks ih=>rw[List.any_cons,oq,ih,Bool.not_and]
theorem DK (z:Bool) (o:Own) (es:List AV) (m:af):cS none none m (.lst none z o es)=some (.ptr m.length 0,m++[some (Ent.obj true [.lst none z o es])]):=rfl
theorem A17 {z:Bool} {o:Own} {ar:List Int} {kz:Bool} {ko:Own} {ks:List Int} (h:c9 m s F (IA z o ar) most l) (v:Int) (hz:kz=true->ks=[]) (har:∀ a∈ar,1<=a/\a<=64) (qqL:ar.length<=16) (fI:ks.length<=1000) (hl:(l.length:Int) < most) (pg:most<=100000) :
  ∃ m' F',AC ae 34 [.ptr s 0,.int .i64 v,IA kz ko ks] m=some (.tup [.int .i64 (vG ar l v ks).1.1,.int .i64 (vG ar l v ks).1.2],m')/\c9 m' s F' (IA z o ar) most (vG ar l v ks).2/\Fr m m' F/\Gr m F F':=by
 have f3:Fr m (((m++[some (Ent.obj true [.ptr s 0])])++[some (Ent.obj true [.int .i64 v])])++[some (Ent.obj true [IA kz ko ks])]) []:=((Fr.app m _ _).snoc _).snoc _;have h3:=h.app f3;have e50:=xS h3 (by omega)
 have hs:∃ na p,af.get m s=some (Ent.obj true [IA z o ar,na,.mref p,.int .i64 most]):=by
  obtain ⟨p,na,T,h,rfl⟩:=h;exact ⟨na,p,h.hs⟩
 obtain ⟨na,p,hs⟩:=hs;have mQ:=bC hs;have bad:¬ (0<=v/\v < ar.length/\(ks.length:Int)=ar.getD v.toNat 0/\ks.all (ui ar.length l v)=true)->vG ar l v ks=((0,1),l):=fun hb=>by rw[vG,aj hb]
 by_cases sS:v < 0
 ·refine ⟨_,F,?_,by rw[bad (by omega)];exact h3,f3.mono (by simp),Gr.refl _ _⟩;rw[Ds,bad (by omega)]
  repeat ((with_reducible (first | apply bs | apply dn));(focus (first | (simp (disch:=(first | assumption | omega | (simp only[aI,a8,aL,aQ];first | done | omega))) only[dj,beq_self_eq_true,cK,aa,Sh.size,bz,bJ,Nat.reduceAdd,Nat.reduceLeDiff,aR,oZ,uW,DK,e50];first | done | rfl) | rfl));try dsimp only)
  rw[gO]
  repeat ((with_reducible (first | apply bs | apply dn));(focus (first | (simp (disch:=(first | assumption | omega | (simp only[aI,a8,aL,aQ];first | done | omega))) only[dj,beq_self_eq_true,cK,aa,Sh.size,bz,bJ,Nat.reduceAdd,Nat.reduceLeDiff,aR];first | done | rfl) | rfl));try dsimp only)
  rw[aA,an sS]
 by_cases kF:v≥ar.length
 ·refine ⟨_,F,?_,by rw[bad (by omega)];exact h3,f3.mono (by simp),Gr.refl _ _⟩;rw[Ds,bad (by omega)]
  repeat ((with_reducible (first | apply bs | apply dn));(focus (first | (simp (disch:=(first | assumption | omega | (simp only[aI,a8,aL,aQ];first | done | omega))) only[dj,beq_self_eq_true,cK,aa,Sh.size,bz,bJ,Nat.reduceAdd,Nat.reduceLeDiff,aR,oZ,uW,DK,e50];first | done | rfl) | rfl));try dsimp only)
  rw[gO]
  repeat ((with_reducible (first | apply bs | apply dn));(focus (first | (simp (disch:=(first | assumption | omega | (simp only[aI,a8,aL,aQ];first | done | omega))) only[dj,beq_self_eq_true,cK,aa,Sh.size,bz,bJ,Nat.reduceAdd,Nat.reduceLeDiff,aR];first | done | rfl) | rfl));try dsimp only)
  rw[aA,aj sS]
  repeat ((with_reducible (first | apply bs | apply dn));(focus (first | (simp (disch:=(first | assumption | omega | (simp only[aI,a8,aL,aQ];first | done | omega))) only[dj,beq_self_eq_true,cK,aa,Sh.size,bz,bJ,Nat.reduceAdd,Nat.reduceLeDiff,aR,hs];first | done | rfl) | rfl));try dsimp only)
  rw[aA,an kF]
 obtain ⟨i,rfl⟩:=oW (by omega:0<=v);have hi:i < ar.length:=by omega
 have gK:=jY (z:=z) (o:=o) (k:=.i64) hi;have Nx:ar.getD ((i:Int).toNat) 0=ar[i]:=by rw[cH,aT,bM hi,eh]
 have mf:=har ar[i] (bI hi);by_cases hk:(ks.length:Int)=ar[i]
 case neg=>
  refine ⟨_,F,?_,by rw[bad (by rw[Nx];omega)];exact h3,f3.mono (by simp),Gr.refl _ _⟩;rw[Ds,bad (by rw[Nx];omega)]
  repeat ((with_reducible (first | apply bs | apply dn));(focus (first | (simp (disch:=(first | assumption | omega | (simp only[aI,a8,aL,aQ];first | done | omega))) only[dj,beq_self_eq_true,cK,aa,Sh.size,bz,bJ,Nat.reduceAdd,Nat.reduceLeDiff,aR,oZ,uW,DK,e50];first | done | rfl) | rfl));try dsimp only)
  rw[gO]
  repeat ((with_reducible (first | apply bs | apply dn));(focus (first | (simp (disch:=(first | assumption | omega | (simp only[aI,a8,aL,aQ];first | done | omega))) only[dj,beq_self_eq_true,cK,aa,Sh.size,bz,bJ,Nat.reduceAdd,Nat.reduceLeDiff,aR];first | done | rfl) | rfl));try dsimp only)
  rw[aA,aj sS]
  repeat ((with_reducible (first | apply bs | apply dn));(focus (first | (simp (disch:=(first | assumption | omega | (simp only[aI,a8,aL,aQ];first | done | omega))) only[dj,beq_self_eq_true,cK,aa,Sh.size,bz,bJ,Nat.reduceAdd,Nat.reduceLeDiff,aR,hs];first | done | rfl) | rfl));try dsimp only)
  rw[aA,aj kF]
  repeat ((with_reducible (first | apply bs | apply dn));(focus (first | (simp (disch:=(first | assumption | omega | (simp only[aI,a8,aL,aQ];first | done | omega))) only[dj,beq_self_eq_true,cK,aa,Sh.size,bz,bJ,Nat.reduceAdd,Nat.reduceLeDiff,aR,hs,gK];first | done | rfl) | rfl));try dsimp only)
  rw[aA,an hk]
 have hne:ks≠[]:=fun e=>by rw[e] at hk;simp at hk;omega
 have hzf:kz=false:=by cases kz with
  | false=>rfl
  | true=>exact absurd (hz rfl) hne
 obtain ⟨m4,e47,f4⟩:=Qi (m:=(((m++[some (Ent.obj true [.ptr s 0])])++[some (Ent.obj true [.int .i64 i])])++[some (Ent.obj true [IA kz ko ks])])) (z:=kz) (o:=ko) (ks:=ks) (g:=97) (caps:=[.ptr m.length 0,.ptr (m.length+1) 0]) (p:=fun k=>!ui ar.length l i k) (by omega) rfl rfl rfl
  (fun m1 k fr=>A55 (h3.app fr) (by rw[fr.get _ (by simp) (by simp)];exact (by simp (disch:=(first | assumption | omega | (simp only[aI,a8,aL,aQ];first | done | omega))) only[gR,bU,bG,cw,cL];first | done | rfl)) (by rw[fr.get _ (by simp) (by simp)];exact (by simp (disch:=(first | assumption | omega | (simp only[aI,a8,aL,aQ];first | done | omega))) only[gR,bU,bG,cw,cL];first | done | rfl)))
 rw[TW] at e47;have h4:=h3.app f4;have f34:Fr m m4 []:=Fr.trans f3 f4 fun x hx=>by cases hx
 have g1:m4.get m.length=some (Ent.obj true [.ptr s 0]):=by rw[f4.get _ (by simp) (by simp)];exact (by simp (disch:=(first | assumption | omega | (simp only[aI,a8,aL,aQ];first | done | omega))) only[gR,bU,bG,cw,cL];first | done | rfl)
 have g2:m4.get (m.length+1)=some (Ent.obj true [.int .i64 i]):=by rw[f4.get _ (by simp) (by simp)];exact (by simp (disch:=(first | assumption | omega | (simp only[aI,a8,aL,aQ];first | done | omega))) only[gR,bU,bG,cw,cL];first | done | rfl)
 have g3:m4.get (m.length+1+1)=some (Ent.obj true [IA kz ko ks]):=by rw[f4.get _ (by simp) (by simp)];exact (by simp (disch:=(first | assumption | omega | (simp only[aI,a8,aL,aQ];first | done | omega))) only[gR,bU,bG,cw,cL];first | done | rfl)
 by_cases ha:ks.all (ui ar.length l i)=true
 case neg=>
  have Nv:ks.all (ui ar.length l i)=false:=by simpa using ha
  refine ⟨_,F,?_,by rw[bad (by rw[Nv];simp)];exact h4,f34.mono (by simp),Gr.refl _ _⟩;rw[Ds,bad (by rw[Nv];simp)]
  repeat ((with_reducible (first | apply bs | apply dn));(focus (first | (simp (disch:=(first | assumption | omega | (simp only[aI,a8,aL,aQ];first | done | omega))) only[dj,beq_self_eq_true,cK,aa,Sh.size,bz,bJ,Nat.reduceAdd,Nat.reduceLeDiff,aR,oZ,uW,DK,e50];first | done | rfl) | rfl));try dsimp only)
  rw[gO]
  repeat ((with_reducible (first | apply bs | apply dn));(focus (first | (simp (disch:=(first | assumption | omega | (simp only[aI,a8,aL,aQ];first | done | omega))) only[dj,beq_self_eq_true,cK,aa,Sh.size,bz,bJ,Nat.reduceAdd,Nat.reduceLeDiff,aR];first | done | rfl) | rfl));try dsimp only)
  rw[aA,aj sS]
  repeat ((with_reducible (first | apply bs | apply dn));(focus (first | (simp (disch:=(first | assumption | omega | (simp only[aI,a8,aL,aQ];first | done | omega))) only[dj,beq_self_eq_true,cK,aa,Sh.size,bz,bJ,Nat.reduceAdd,Nat.reduceLeDiff,aR,hs];first | done | rfl) | rfl));try dsimp only)
  rw[aA,aj kF]
  repeat ((with_reducible (first | apply bs | apply dn));(focus (first | (simp (disch:=(first | assumption | omega | (simp only[aI,a8,aL,aQ];first | done | omega))) only[dj,beq_self_eq_true,cK,aa,Sh.size,bz,bJ,Nat.reduceAdd,Nat.reduceLeDiff,aR,hs,gK];first | done | rfl) | rfl));try dsimp only)
  rw[aA,aj (by omega)]
  repeat ((with_reducible (first | apply bs | apply dn));(focus (first | (simp (disch:=(first | assumption | omega | (simp only[aI,a8,aL,aQ];first | done | omega))) only[dj,beq_self_eq_true,cK,aa,Sh.size,bz,bJ,Nat.reduceAdd,Nat.reduceLeDiff,aR,e47];first | done | rfl) | rfl));try dsimp only)
  rw[Nv,nH,iV]
 have good:vG ar l i ks=(((nV l i ks).1,0),(nV l i ks).2):=by rw[vG,an ⟨by omega,by omega,by rw[Nx];exact hk,ha⟩]
 have hn:(ig i ks).ok:=by
  refine .inr ⟨by simp only[ig];omega,by simp only[ig];omega,rfl,fun k bS=>?_,by simp only[ig];omega⟩;have:=gJ.1 ha k bS;unfold ui at this;simp only[cn,pJ] at this;omega
 obtain ⟨m',F',e52,k1,k2,k3⟩:=Qj (g:=98) (caps:=[.ptr m.length 0,.ptr (m.length+1) 0,.ptr (m.length+1+1) 0]) (id:=(nV l i ks).1) (l':=(nV l i ks).2) h4 rfl rfl rfl
  (fun m1 fr=>A58 (h4.app fr) (by rw[fr.get _ (bC g1) (by simp)];exact g1) (by rw[fr.get _ (bC g2) (by simp)];exact g2) (by rw[fr.get _ (bC g3) (by simp)];exact g3) hne hzf hn hl pg)
 refine ⟨m',F',?_,by rw[good];exact k1,Fr.trans (f34.mono (by simp)) k2 fun _ h=>.inl h,Gr.trans f34.len (Gr.refl m F) k3⟩;rw[Ds,good]
 repeat ((with_reducible (first | apply bs | apply dn));(focus (first | (simp (disch:=(first | assumption | omega | (simp only[aI,a8,aL,aQ];first | done | omega))) only[dj,beq_self_eq_true,cK,aa,Sh.size,bz,bJ,Nat.reduceAdd,Nat.reduceLeDiff,aR,oZ,uW,DK,e50];first | done | rfl) | rfl));try dsimp only)
 rw[gO]
 repeat ((with_reducible (first | apply bs | apply dn));(focus (first | (simp (disch:=(first | assumption | omega | (simp only[aI,a8,aL,aQ];first | done | omega))) only[dj,beq_self_eq_true,cK,aa,Sh.size,bz,bJ,Nat.reduceAdd,Nat.reduceLeDiff,aR];first | done | rfl) | rfl));try dsimp only)
 rw[aA,aj sS]
 repeat ((with_reducible (first | apply bs | apply dn));(focus (first | (simp (disch:=(first | assumption | omega | (simp only[aI,a8,aL,aQ];first | done | omega))) only[dj,beq_self_eq_true,cK,aa,Sh.size,bz,bJ,Nat.reduceAdd,Nat.reduceLeDiff,aR,hs];first | done | rfl) | rfl));try dsimp only)
 rw[aA,aj kF]
 repeat ((with_reducible (first | apply bs | apply dn));(focus (first | (simp (disch:=(first | assumption | omega | (simp only[aI,a8,aL,aQ];first | done | omega))) only[dj,beq_self_eq_true,cK,aa,Sh.size,bz,bJ,Nat.reduceAdd,Nat.reduceLeDiff,aR,hs,gK];first | done | rfl) | rfl));try dsimp only)
 rw[aA,aj (by omega)]
 repeat ((with_reducible (first | apply bs | apply dn));(focus (first | (simp (disch:=(first | assumption | omega | (simp only[aI,a8,aL,aQ];first | done | omega))) only[dj,beq_self_eq_true,cK,aa,Sh.size,bz,bJ,Nat.reduceAdd,Nat.reduceLeDiff,aR,e47];first | done | rfl) | rfl));try dsimp only)
 rw[ha,jU,gO]
 repeat ((with_reducible (first | apply bs | apply dn));(focus (first | (simp (disch:=(first | assumption | omega | (simp only[aI,a8,aL,aQ];first | done | omega))) only[dj,beq_self_eq_true,cK,aa,Sh.size,bz,bJ,Nat.reduceAdd,Nat.reduceLeDiff,aR,g1,e52];first | done | rfl) | rfl));try dsimp only)
theorem A20 (h:c9 m s F arms most l) (hm:most≠0):AC ae 30 [.ptr s 0] m=some (.int .i64 l.length,m):=by
 have e50:=xS h hm;obtain ⟨p,na,T,h,rfl⟩:=h;have hs:=h.hs
 have hlen:aK false na=some (.int .i64 l.length):=by
  cases h.hn with
  | none=>rfl
  | some t l ht=>rw[pn,cg]
 rw[T30]
 repeat ((with_reducible (first | apply bs | apply dn));(focus (first | (simp (disch:=(first | assumption | omega | (simp only[aI,a8,aL,aQ];first | done | omega))) only[dj,beq_self_eq_true,cK,aa,Sh.size,bz,bJ,Nat.reduceAdd,Nat.reduceLeDiff,aR,e50];first | done | rfl) | rfl));try dsimp only)
 rw[gO]
 repeat ((with_reducible (first | apply bs | apply dn));(focus (first | (simp (disch:=(first | assumption | omega | (simp only[aI,a8,aL,aQ];first | done | omega))) only[dj,beq_self_eq_true,cK,aa,Sh.size,bz,bJ,Nat.reduceAdd,Nat.reduceLeDiff,aR,hs,hlen];first | done | rfl) | rfl));try dsimp only)
end
end Go.Ab
namespace Go.Ab
theorem BU {α:Type} {l:List α} (h:l.Nodup) {i j:Nat} (hi:i < l.length) (hj:j < l.length) (e:l[i]=l[j]):i=j:=by
 have hp:=List.pairwise_iff_getElem.1 h
 rcases Nat.lt_trichotomy i j with hh | hh | hh
 ·exact absurd e (hp i j hi hj hh)
 ·exact hh
 ·exact absurd e.symm (hp j i hj hi hh)
structure GoodL (ar:List Int) (l:List ND):Prop where
 ok:∀ n∈l,n.ok
 nd:l.Nodup
 var:∀ (i:Nat) (h:i < l.length),0<=l[i].var->l[i].var < ar.length/\(l[i].kids.length:Int)=ar.getD l[i].var.toNat 0
 kid:∀ (i:Nat) (h:i < l.length),0<=l[i].var->∀ k∈l[i].kids,∃ t:Nat,k=t/\t < i/\∀ (ht:t < l.length),l[i].var < fE ar.length l[t]
 dif:∀ (i:Nat) (h:i < l.length),0<=l[i].var->∃ k∈l[i].kids,k≠l[i].kids.headD 0
def uz (l:List ND) (a:Nat->Nat):Nat->Nat->Int
 | 0,_=>0
 | n+1,i=>match l[i]? with
  | none=>0
  | some x=>if x.var < 0 then x.leaf else uz l a n (x.kids.getD (a x.var.toNat) 0).toNat
def S (l:List ND) (a:Nat->Nat) (i:Nat):Int:=uz l a (i+1) i
def je (ar:List Int) (a:Nat->Nat):Prop:=∀ v,v < ar.length->(a v:Int) < ar.getD v 0
def upd (a:Nat->Nat) (v k:Nat):Nat->Nat:=fun w=>if w=v then k else a w
theorem je.upd {ar:List Int} {a:Nat->Nat} (h:je ar a) {v k:Nat} (hk:(k:Int) < ar.getD v 0):je ar (upd a v k):=fun w hw=>by
 unfold Ab.upd
 split
 ·rename_i e;rw[e];exact hk
 ·exact h w hw
section
variable {ar:List Int} {l:List ND}
theorem oR (g:GoodL ar l) {i:Nat} (hi:i < l.length) (hv:0<=l[i].var) {k:Nat} (hk:(k:Int) < ar.getD l[i].var.toNat 0) :
  ∃ t:Nat,l[i].kids.getD k 0=t/\t < i/\∀ (ht:t < l.length),l[i].var < fE ar.length l[t]:=by
 have hl:=(g.var i hi hv).2;have fI:k < l[i].kids.length:=by omega
 rw[aT,bM fI,eh];exact g.kid i hi hv _ (bI fI)
theorem Zs (g:GoodL ar l) {a:Nat->Nat} (ha:je ar a):∀ (n i m:Nat),i < l.length->i < n->i < m->uz l a n i=uz l a m i
 | 0,i,m,_,h,_=>by omega
 | n+1,i,0,_,_,h=>by omega
 | n+1,i,m+1,hi,_,_=>by
  simp only[uz,bM hi]
  by_cases hv:l[i].var < 0
  ·rw[an hv,an hv]
  ·rw[aj hv,aj hv];obtain ⟨kF,ud⟩:=g.var i hi (by omega);obtain ⟨t,e,ht,_⟩:=oR g hi (by omega) (ha l[i].var.toNat (by omega));rw[e,cH];exact Zs g ha n t m (by omega) (by omega) (by omega)
theorem ym {a:Nat->Nat} {i:Nat} (hi:i < l.length) (hv:l[i].var < 0):S l a i=l[i].leaf:=by
 simp only[S,uz,bM hi,an hv]
theorem Dq (g:GoodL ar l) {a:Nat->Nat} (ha:je ar a) {i:Nat} (hi:i < l.length) (hv:¬ l[i].var < 0):S l a i=S l a (l[i].kids.getD (a l[i].var.toNat) 0).toNat:=by
 obtain ⟨kF,ud⟩:=g.var i hi (by omega);obtain ⟨t,e,ht,_⟩:=oR g hi (by omega) (ha l[i].var.toNat (by omega));rw[e,cH];unfold S;rw[uz];simp only[bM hi,aj hv,e,cH];exact Zs g ha _ _ _ (by omega) (by omega) (by omega)
theorem yj (g:GoodL ar l) {a:Nat->Nat} (ha:je ar a) {v k:Nat} (hk:(k:Int) < ar.getD v 0):∀ (i:Nat) (hi:i < l.length),(v:Int) < fE ar.length l[i]->S l (upd a v k) i=S l a i:=by
 intro i
 induction i using Nat.strongRecOn with
 | ind i ih=>
  intro hi hv
  by_cases hn:l[i].var < 0
  ·rw[ym hi hn,ym hi hn]
  ·rw[fE,an (by omega)] at hv;have hne:l[i].var.toNat≠v:=by omega
   have e:upd a v k l[i].var.toNat=a l[i].var.toNat:=by unfold upd;rw[aj hne]
   rw[Dq g (ha.upd hk) hi hn,Dq g ha hi hn,e];obtain ⟨kF,ud⟩:=g.var i hi (by omega);obtain ⟨t,e,ht,h2⟩:=oR g hi (by omega) (ha l[i].var.toNat (by omega));rw[e,cH];exact ih t ht (by omega) (by have:=h2 (by omega);omega)
theorem Dr (g:GoodL ar l) {a:Nat->Nat} (ha:je ar a) {i:Nat} (hi:i < l.length) {v k:Nat} (hv:l[i].var=v) (hk:(k:Int) < ar.getD v 0):S l (upd a v k) i=S l a (l[i].kids.getD k 0).toNat:=by
 have sV:l[i].var.toNat=v:=by omega
 rw[Dq g (ha.upd hk) hi (by omega),sV];have e:upd a v k v=k:=by unfold upd;rw[an rfl]
 rw[e];obtain ⟨t,e,ht,h2⟩:=oR g hi (by omega) (k:=k) (by rw[sV];exact hk);rw[e,cH];exact yj g ha hk t (by omega) (by have:=h2 (by omega);omega)
theorem Xt {x y:List Int} (hl:x.length=y.length) (h:∀ k,k < x.length->x.getD k 0=y.getD k 0):x=y:=by
 apply List.ext_getElem hl;intro i h1 h2;have:=h i h1
 rwa [aT,aT,bM h1,bM h2] at this
theorem Pb (g:GoodL ar l) (h1:∀ x∈ar,1<=x) {i j:Nat} (hi:i < l.length) (hv:0<=l[i].var) (h:∀ k:Nat,(k:Int) < ar.getD l[i].var.toNat 0->l[i].kids.getD k 0=j):False:=by
 obtain ⟨k,hk,hne⟩:=g.dif i hi hv;have hl:=(g.var i hi hv).2
 have all:∀ k∈l[i].kids,k=j:=fun k hk=>by
  obtain ⟨t,ht,e⟩:=qB hk;have:=h t (by omega);rw[aT,bM ht,eh] at this;rw[<- e,this]
 apply hne;rw[all k hk]
 cases hh:l[i].kids with
 | nil=>rw[hh] at hk;cases hk
 | cons x y=>rw[List.headD_cons];exact (all x (by rw[hh];exact fQ)).symm
theorem DH (h1:∀ x∈ar,1<=x):je ar fun _=>0:=fun v hv=>by
 have:=h1 (ar[v]) (bI hv);rw[aT,bM hv,eh];show ((0:Nat):Int) < _;omega
theorem canon (g:GoodL ar l) (h1:∀ x∈ar,1<=x):∀ (n i j:Nat) (hi:i < l.length) (hj:j < l.length),i+j < n->(∀ a,je ar a->S l a i=S l a j)->i=j:=by
 intro n
 induction n with
 | zero=>intro i j _ _ h;omega
 | succ n ih=>
  have half:∀ (i j:Nat) (hi:i < l.length) (hj:j < l.length),i+j < n+1->(∀ a,je ar a->S l a i=S l a j)->¬ l[i].var < 0->l[i].var < fE ar.length l[j]->False:=by
   intro i j hi hj hn h hv hlt;refine Pb g h1 hi (j:=j) (by omega) fun k hk=>?_;obtain ⟨t,e,ht,h2⟩:=oR g hi (by omega) hk;have sV:((l[i].var.toNat:Nat):Int)=l[i].var:=by omega
   rw[e];congr 1;refine ih t j (by omega) hj (by omega) fun a ha=>?_;have e1:=Dr g ha hi (v:=l[i].var.toNat) (k:=k) sV.symm hk;rw[e,cH] at e1;rw[<- e1,h _ (ha.upd hk)];exact yj g ha hk j hj (by omega)
  intro i j hi hj hn h
  by_cases EF:l[i].var < 0
  ·by_cases sT:l[j].var < 0
   ·have hs:=h _ (DH h1);rw[ym hi EF,ym hj sT] at hs
    have e:l[i]=l[j]:=by
     have oi:=g.ok _ (bI hi);have oj:=g.ok _ (bI hj)
     rcases oi with ⟨a1,a2,_⟩ | ⟨a1,_⟩
     ·rcases oj with ⟨b1,b2,_⟩ | ⟨b1,_⟩
      ·generalize l[i]=x at *;generalize l[j]=y at *;obtain ⟨xv,xk,xl⟩:=x;obtain ⟨yv,yk,yl⟩:=y;simp only at a1 a2 b1 b2 hs;rw[a1,a2,b1,b2,hs]
      ·omega
     ·omega
    exact BU g.nd hi hj e
   ·refine (half j i hj hi (by omega) (fun a ha=>(h a ha).symm) sT ?_).elim;rw[fE,aj (by omega)];exact (g.var j hj (by omega)).1
  ·by_cases hlt:l[i].var < fE ar.length l[j]
   ·exact (half i j hi hj hn h EF hlt).elim
   ·have sT:¬ l[j].var < 0:=fun hh=>hlt (by rw[fE,aj (by omega)];exact (g.var i hi (by omega)).1);rw[fE,an (by omega)] at hlt
    by_cases hlt2:l[j].var < l[i].var
    ·exact (half j i hj hi (by omega) (fun a ha=>(h a ha).symm) sT (by rw[fE,an (by omega)];exact hlt2)).elim
    ·have hv:l[i].var=l[j].var:=by omega
     have vi:=g.var i hi (by omega);have vj:=g.var j hj (by omega)
     have hk:l[i].kids=l[j].kids:=by
      refine Xt (by rw[hv] at vi;omega) fun k hk=>?_;have jA:(k:Int) < ar.getD l[i].var.toNat 0:=by omega
      have yU:(k:Int) < ar.getD l[j].var.toNat 0:=by rw[<- hv];exact jA
      obtain ⟨t,e,ht,h2⟩:=oR g hi (by omega) jA;obtain ⟨u,e',hu,iE⟩:=oR g hj (by omega) yU;rw[e,e'];congr 1;refine ih t u (by omega) (by omega) (by omega) fun a ha=>?_;have e1:=Dr g ha hi (v:=l[i].var.toNat) (k:=k) (by omega) jA;have e2:=Dr g ha hj (v:=l[i].var.toNat) (k:=k) (by omega) jA;rw[e,cH] at e1;rw[e',cH] at e2;rw[<- e1,<- e2,h _ (ha.upd jA)]
     have e:l[i]=l[j]:=by
      have oi:=g.ok _ (bI hi);have oj:=g.ok _ (bI hj)
      have li:l[i].leaf=0:=by
       rcases oi with ⟨a1,_⟩ | ⟨_,_,a3,_⟩
       ·omega
       ·exact a3
      have lj:l[j].leaf=0:=by
       rcases oj with ⟨a1,_⟩ | ⟨_,_,a3,_⟩
       ·omega
       ·exact a3
      generalize l[i]=x at *;generalize l[j]=y at *;obtain ⟨xv,xk,xl⟩:=x;obtain ⟨yv,yk,yl⟩:=y;simp only at hv hk li lj;rw[hv,hk,li,lj]
     exact BU g.nd hi hj e
theorem HE (g:GoodL ar l) (r:List ND) {a:Nat->Nat} (ha:je ar a):∀ (i:Nat),i < l.length->S (l++r) a i=S l a i:=by
 have key:∀ (n i:Nat),i < l.length->i < n->uz (l++r) a n i=uz l a n i:=by
  intro n
  induction n with
  | zero=>intro i _ h;omega
  | succ n ih=>
   intro i hi _;simp only[uz,nK hi,bM hi]
   by_cases hv:l[i].var < 0
   ·rw[an hv,an hv]
   ·rw[aj hv,aj hv];obtain ⟨kF,ud⟩:=g.var i hi (by omega);obtain ⟨t,e,ht,_⟩:=oR g hi (by omega) (ha l[i].var.toNat (by omega));rw[e,cH];exact ih t (by omega) (by omega)
 intro i hi;exact key _ i hi (by omega)
theorem Nn:GoodL ar []:=⟨by simp,by simp,fun i h=>by simp at h,fun i h=>by simp at h,fun i h=>by simp at h⟩
theorem qlY (g:GoodL ar l) {n:ND} (hn:n.ok) (hne:n∉l) (h1:0<=n.var->n.var < ar.length/\(n.kids.length:Int)=ar.getD n.var.toNat 0/\(∀ k∈n.kids,∃ t:Nat,k=t/\∃ ht:t < l.length,n.var < fE ar.length l[t])/\∃ k∈n.kids,k≠n.kids.headD 0):GoodL ar (l++[n]):=by
 have old:∀ i (h:i < (l++[n]).length),(∃ h':i < l.length,(l++[n])[i]=l[i])\/(i=l.length/\(l++[n])[i]=n):=fun i h=>by
  by_cases hi:i < l.length
  ·exact .inl ⟨hi,List.getElem_append_left hi⟩
  ·have:i=l.length:=by simp at h;omega
   subst this;exact .inr ⟨rfl,by simp⟩
 refine ⟨fun x hx=>?_,?_,fun i h hv=>?_,fun i h hv k hk=>?_,fun i h hv=>?_⟩
 ·rcases iy.1 hx with hx | hx
  ·exact g.ok x hx
  ·obtain rfl:x=n:=by simpa using hx
   exact hn
 ·rw[List.nodup_append]
  exact ⟨g.nd,by simp,fun a ha b hb e=>by
   obtain rfl:b=n:=by simpa using hb
   exact hne (e▸ha)⟩
 ·rcases old i h with ⟨h',e⟩ | ⟨_,e⟩
  ·rw[e] at hv ⊢;exact g.var i h' hv
  ·rw[e] at hv ⊢;exact ⟨(h1 hv).1,(h1 hv).2.1⟩
 ·rcases old i h with ⟨h',e⟩ | ⟨cm,e⟩
  ·rw[e] at hv hk ⊢;obtain ⟨t,a1,a2,a3⟩:=g.kid i h' hv k hk;refine ⟨t,a1,a2,fun ht=>?_⟩;rw[List.getElem_append_left (by omega)];exact a3 (by omega)
  ·rw[e] at hv hk ⊢;obtain ⟨t,a1,ht,a3⟩:=(h1 hv).2.2.1 k hk;refine ⟨t,a1,by omega,fun qK=>?_⟩;rw[List.getElem_append_left ht];exact a3
 ·rcases old i h with ⟨h',e⟩ | ⟨_,e⟩
  ·rw[e] at hv ⊢;exact g.dif i h' hv
  ·rw[e] at hv ⊢;exact (h1 hv).2.2.2
theorem WU (n:ND) (l:List ND):∃ r,jg l n=l++r/\r.length<=1/\∃ h:l.idxOf n < (jg l n).length,(jg l n)[l.idxOf n]=n:=by
 unfold jg
 by_cases hm:n∈l
 ·rw[an hm];exact ⟨[],by simp,by simp,List.idxOf_lt_length_of_mem hm,List.getElem_idxOf _⟩
 ·rw[aj hm];have e:=EI hm;refine ⟨[n],rfl,by simp,by rw[e];simp,?_⟩;simp[e]
theorem Vj (g:GoodL ar l) {n:ND} (hn:n.ok) (h1:0<=n.var->n.var < ar.length/\(n.kids.length:Int)=ar.getD n.var.toNat 0/\(∀ k∈n.kids,∃ t:Nat,k=t/\∃ ht:t < l.length,n.var < fE ar.length l[t])/\∃ k∈n.kids,k≠n.kids.headD 0):GoodL ar (jg l n):=by
 unfold jg
 split
 ·exact g
 ·rename_i hm;exact qlY g hn hm h1
end
end Go.Ab
namespace Go.Ab
def cu:List Int->Nat
 | []=>1
 | n::r=>n.toNat * cu r
def qj:List Int->Nat->(Nat->Nat)->Nat
 | [],_,_=>0
 | n::r,v,a=>a v * cu r+qj r (v+1) a
theorem UT {ar:List Int} {v:Nat} (hv:v < ar.length):ar.drop v=ar.getD v 0::ar.drop (v+1):=by
 rw[aT,bM hv,eh];exact kr hv
theorem BC {ar:List Int} {v:Nat} (hv:v < ar.length) (a:Nat->Nat):qj (ar.drop v) v a=a v * cu (ar.drop (v+1))+qj (ar.drop (v+1)) (v+1) a:=by
 rw[UT hv,qj]
theorem xu {ar:List Int} {v:Nat} (hv:v < ar.length):cu (ar.drop v)=(ar.getD v 0).toNat * cu (ar.drop (v+1)):=by
 rw[UT hv,cu]
theorem I5 {ar:List Int} {a:Nat->Nat} (ha:je ar a):∀ (d v:Nat),v+d=ar.length->qj (ar.drop v) v a < cu (ar.drop v)
 | 0,v,h=>by rw[jq (by omega)];simp[qj,cu]
 | d+1,v,h=>by
  have hv:v < ar.length:=by omega
  have ih:=I5 ha d (v+1) (by omega);have hk:=ha v hv;rw[BC hv,xu hv];have h2:a v+1<=(ar.getD v 0).toNat:=by omega
  calc a v * cu (ar.drop (v+1))+qj (ar.drop (v+1)) (v+1) a < a v * cu (ar.drop (v+1))+cu (ar.drop (v+1)):=by omega
   _=(a v+1) * cu (ar.drop (v+1)):=by rw[im,rl]
   _<=_:=iS _ h2
theorem OD {ar:List Int} {a:Nat->Nat} {w k:Nat}:∀ (d v:Nat),v+d=ar.length->w < v->qj (ar.drop v) v (upd a w k)=qj (ar.drop v) v a
 | 0,v,h,_=>by rw[jq (by omega)];rfl
 | d+1,v,h,hw=>by
  have hv:v < ar.length:=by omega
  rw[BC hv,BC hv,OD d (v+1) (by omega) (by omega)];have:upd a w k v=a v:=by unfold upd;rw[aj (by omega)]
  rw[this]
theorem WR {ar:List Int} (h1:∀ x∈ar,1<=x):∀ (d v i:Nat),v+d=ar.length->i < cu (ar.drop v)->∃ a,je ar a/\qj (ar.drop v) v a=i
 | 0,v,i,h,hi=>by
  rw[jq (by omega)] at hi ⊢;simp only[cu] at hi;exact ⟨_,DH h1,by simp only[qj];omega⟩
 | d+1,v,i,h,hi=>by
  have hv:v < ar.length:=by omega
  rw[xu hv] at hi;have jb:0 < cu (ar.drop (v+1)):=oX fun e=>by rw[e] at hi;omega
  obtain ⟨a,ha,e⟩:=WR h1 d (v+1) (i % cu (ar.drop (v+1))) (by omega) (kA _ jb);have hk:i / cu (ar.drop (v+1)) < (ar.getD v 0).toNat:=Nat.div_lt_of_lt_mul (by rw[cO];exact hi);have Iy:=wj i (cu (ar.drop (v+1)));generalize i / cu (ar.drop (v+1))=q at hk Iy;refine ⟨upd a v q,ha.upd (by omega),?_⟩;rw[BC hv,OD d (v+1) (by omega) (by omega),e];have:upd a v q v=q:=by unfold upd;rw[an rfl]
  rw[this,cO];exact Iy
def part (t:List Int) (n k:Nat):List Int:=(t.drop (k * n)).take n
theorem part_len {t:List Int} {n k a:Nat} (ht:t.length=a * n) (hk:k < a):(part t n k).length=n:=by
 unfold part;rw[jV,rf,ht]
 have:k * n+n<=a * n:=by
  have:=iS n (show k+1<=a by omega)
  rwa [im,rl] at this
 omega
theorem YA {t:List Int} {n k r:Nat} (hr:r < n):(part t n k).getD r 0=t.getD (k * n+r) 0:=by
 unfold part;simp only[aT,qA,an hr,sc]
theorem qoE {t:List Int} {n k:Nat}:∀ x∈part t n k,x∈t:=fun x hx=>List.drop_subset _ _ (List.take_subset _ _ hx)
structure TabV (ar:List Int) (l:List ND) (id v:Nat) (t:List Int):Prop where
 len:t.length=cu (ar.drop v)
 lt:id < l.length
 top:∀ h:id < l.length,(v:Int)<=fE ar.length l[id]
 val:∀ a,je ar a->S l a id=t.getD (qj (ar.drop v) v a) 0
theorem TabV.app {ar:List Int} {l:List ND} {id v:Nat} {t:List Int} (g:GoodL ar l) (h:TabV ar l id v t) (r:List ND):TabV ar (l++r) id v t:=
 ⟨h.len,by have:=h.lt;simp;omega,fun hh=>by rw[List.getElem_append_left h.lt];exact h.top h.lt,fun a ha=>by rw[HE g r ha id h.lt];exact h.val a ha⟩
theorem qp9 {ar:List Int} {l:List ND} {i j v:Nat} {t:List Int} (g:GoodL ar l) (h1:∀ x∈ar,1<=x) (hi:TabV ar l i v t) (hj:TabV ar l j v t):i=j:=
 canon g h1 _ i j hi.lt hj.lt (Nat.lt_succ_self _) fun a ha=>(hi.val a ha).trans (hj.val a ha).symm
section
variable {ar:List Int} {l:List ND}
theorem Ye (g:GoodL ar l) (h1:∀ x∈ar,1<=x/\x<=64) (fV:ar.length<=16) {v:Nat} (hv:v < ar.length) {ks:List Nat} (hl:(ks.length:Int)=ar.getD v 0) (hk:∀ k∈ks,∃ h:k < l.length,(v:Int) < fE ar.length l[k]) (dd:l.length<=100000) :
  ∃ r id,nV l v (ks.map Int.ofNat)=(((id:Nat):Int),l++r)/\r.length<=1/\(ks.length=1->r=[])/\GoodL ar (l++r)/\∃ h:id < (l++r).length,(v:Int)<=fE ar.length (l++r)[id]/\∀ a,je ar a->S (l++r) a id=S l a (ks.getD (a v) 0):=by
 have oJ:=h1 (ar[v]) (bI hv);have aU:ar.getD v 0=ar[v]:=by rw[aT,bM hv,eh]
 rw[aU] at hl
 obtain ⟨k0,kt,rfl⟩:∃ k0 kt,ks=k0::kt:=by
  cases ks with
  | nil=>simp at hl;omega
  | cons k0 kt=>exact ⟨k0,kt,rfl⟩
 rw[gg,Yb];obtain ⟨vn,qqN⟩:=hk k0 fQ
 by_cases hall:((Int.ofNat k0::kt.map Int.ofNat).all fun k=>k == Int.ofNat k0)=true
 ·rw[an hall]
  refine ⟨[],k0,by rw[bY];rfl,by simp,fun _=>rfl,by rw[bY];exact g,by rw[bY];exact vn,?_,fun a ha=>?_⟩
  ·simp only[bY];omega
  ·have hlt:a v < (k0::kt).length:=by have:=ha v hv;rw[aU] at this;omega
   have:(k0::kt).getD (a v) 0=k0:=by
    rw[aT,bM hlt,eh];have h2:=gJ.1 hall (Int.ofNat (k0::kt)[a v]) (by rw[<- gg];exact List.mem_map_of_mem (bI hlt));exact Int.ofNat.inj (by simpa using h2)
   rw[this,bY]
 ·rw[aj hall]
  have gu:∀ k∈(Int.ofNat k0::kt.map Int.ofNat),∃ t:Nat,k=t/\∃ ht:t < l.length,(v:Int) < fE ar.length l[t]:=fun k bS=>by
   rw[<- gg] at bS;obtain ⟨t,ht,rfl⟩:=iY.1 bS;exact ⟨t,rfl,hk t ht⟩
  have bf:(ig v (Int.ofNat k0::kt.map Int.ofNat)).ok:=by
   refine .inr ⟨by simp only[ig];omega,by simp only[ig];omega,rfl,fun k bS=>?_,?_⟩
   ·obtain ⟨t,rfl,ht,_⟩:=gu k bS;omega
   ·simp only[ig,aL,cg];simp only[aL] at hl;omega
  obtain ⟨r,er,hr,rD,hid⟩:=WU (ig v (Int.ofNat k0::kt.map Int.ofNat)) l
  have gi:GoodL ar (jg l (ig v (Int.ofNat k0::kt.map Int.ofNat))):=by
   refine Vj g bf fun _=>⟨by simp only[ig];omega,?_,gu,?_⟩
   ·simp only[ig,aL,cg,cH];rw[aU];simpa using hl
   ·simp only[ig];rw[Bool.not_eq_true,List.all_eq_false] at hall;obtain ⟨k,bS,hne⟩:=hall;exact ⟨k,bS,by simpa using hne⟩
  rw[er] at gi rD ⊢
  have hid:(l++r)[l.idxOf (ig v (Int.ofNat k0::kt.map Int.ofNat))]=ig v (Int.ofNat k0::kt.map Int.ofNat):=by
   have:∀ (y:List ND) (h:l.idxOf (ig v (Int.ofNat k0::kt.map Int.ofNat)) < y.length),jg l (ig v (Int.ofNat k0::kt.map Int.ofNat))=y->y[l.idxOf (ig v (Int.ofNat k0::kt.map Int.ofNat))]=ig v (Int.ofNat k0::kt.map Int.ofNat):=fun y h e=>by subst e;exact hid
   exact this _ rD er
  refine ⟨r,_,rfl,hr,fun Bt=>?_,gi,rD,?_,fun a ha=>?_⟩
  ·exfalso;have:kt=[]:=by simpa using Bt
   rw[this] at hall;simp at hall
  ·rw[hid,fE,an (by simp only[ig];omega)];exact q8 _
  ·have e:=Dq gi ha rD (by rw[hid];simp only[ig];omega);rw[hid] at e;have hlt:a v < (k0::kt).length:=by have:=ha v hv;rw[aU] at this;omega
   rw[e,show (ig (↑v) (Int.ofNat k0::kt.map Int.ofNat)).kids=Int.ofNat k0::kt.map Int.ofNat from rfl,show (ig (↑v) (Int.ofNat k0::kt.map Int.ofNat)).var=v from rfl,cH]
   have e2:(Int.ofNat k0::kt.map Int.ofNat).getD (a v) 0=(((k0::kt).getD (a v) 0:Nat):Int):=by
    rw[<- gg,aT,re,aT,bM hlt];rfl
   rw[e2,cH];refine HE g r ha _ ?_;rw[aT,bM hlt,eh];exact (hk _ (bI hlt)).1
theorem Xn (g:GoodL ar l) {x:Int} (hx:0<=x/\x<=2147483647):∃ r,jg l (iH x)=l++r/\r.length<=1/\GoodL ar (l++r)/\TabV ar (l++r) (l.idxOf (iH x)) ar.length [x]:=by
 obtain ⟨r,er,hr,rD,hid⟩:=WU (iH x) l;have gi:GoodL ar (jg l (iH x)):=Vj g (Xm hx) fun h=>by simp[iH] at h
 rw[er] at gi;have NQ:l.idxOf (iH x) < (l++r).length:=by rw[<- er];exact rD
 have NP:(l++r)[l.idxOf (iH x)]=iH x:=by
  have:∀ (y:List ND) (h:l.idxOf (iH x) < y.length),jg l (iH x)=y->y[l.idxOf (iH x)]=iH x:=fun y h e=>by subst e;exact hid
  exact this _ NQ er
 refine ⟨r,er,hr,gi,⟨by rw[List.drop_length];rfl,NQ,fun _=>?_,fun a ha=>?_⟩⟩
 ·rw[NP,fE,aj (by simp[iH])];exact q8 _
 ·rw[ym NQ (by rw[NP];simp[iH]),NP,List.drop_length];rfl
theorem qp7 (g:GoodL ar l) (h1:∀ x∈ar,1<=x/\x<=64) (fV:ar.length<=16) {v:Nat} (hv:v < ar.length) {ks:List Nat} {t:List Int} (hl:(ks.length:Int)=ar.getD v 0) (ht:t.length=cu (ar.drop v)) (hk:∀ (k:Nat) (h:k < ks.length),TabV ar l ks[k] (v+1) (part t (cu (ar.drop (v+1))) k)) (dd:l.length<=100000) :
  ∃ r id,nV l v (ks.map Int.ofNat)=(((id:Nat):Int),l++r)/\r.length<=1/\(ks.length=1->r=[])/\GoodL ar (l++r)/\TabV ar (l++r) id v t:=by
 have aU:ar.getD v 0=ar[v]:=by rw[aT,bM hv,eh]
 obtain ⟨r,id,e,hr,Wx,gi,rD,mU,hS⟩:=Ye g h1 fV hv hl (fun k bS=>by
  obtain ⟨i,hi,e⟩:=qB bS;have:=hk i hi;rw[e] at this
  exact ⟨this.lt,by have:=this.top this.lt;omega⟩) dd
 refine ⟨r,id,e,hr,Wx,gi,ht,rD,fun _=>mU,fun a ha=>?_⟩;have hlt:a v < ks.length:=by have:=ha v hv;omega
 have hn:=I5 ha (ar.length - (v+1)) (v+1) (by omega);rw[hS a ha,aT,bM hlt,eh,(hk _ hlt).val a ha,YA hn,BC hv]
end
end Go.Ab
namespace Go.Ab
def Cj (l:List ND):Nat->Nat->List Nat->List Nat
 | 0,_,out=>out
 | n+1,id,out=>if id∈out then out else match l[id]? with
  | none=>out
  | some x=>(x.kids.foldl (fun o k=>Cj l n k.toNat o) out)++[id]
def Vi (l:List ND) (id:Nat) (out:List Nat):List Nat:=Cj l (id+1) id out
def iz (l:List ND) (ks:List Int) (out:List Nat):List Nat:=ks.foldl (fun o k=>Vi l k.toNat o) out
theorem M9 {α β:Type} {f g:β->α->β}:∀ (l:List α) (b:β),(∀ x∈l,∀ b,f b x=g b x)->l.foldl f b=l.foldl g b
 | [],_,_=>rfl
 | x::l,b,h=>by
  rw[uJ,uJ,h x fQ,M9 l _ fun y hy=>h y (fN _ hy)]
section
variable {ar:List Int} {l:List ND}
theorem pP (g:GoodL ar l) {i:Nat} (hi:i < l.length):∀ k∈l[i].kids,∃ t:Nat,k=t/\t < i:=fun k hk=>by
 by_cases hv:0<=l[i].var
 ·obtain ⟨t,e,ht,_⟩:=g.kid i hi hv k hk;exact ⟨t,e,ht⟩
 ·rcases g.ok _ (bI hi) with ⟨_,h2,_⟩ | ⟨h1,_⟩
  ·rw[h2] at hk;cases hk
  ·omega
theorem qai (g:GoodL ar l):∀ (n id m:Nat) (out:List Nat),id < l.length->id < n->id < m->Cj l n id out=Cj l m id out
 | 0,id,m,_,_,h,_=>by omega
 | n+1,id,0,_,_,_,h=>by omega
 | n+1,id,m+1,out,hi,_,_=>by
  simp only[Cj,bM hi];rw[M9 l[id].kids out fun k hk b=>?_];obtain ⟨t,rfl,ht⟩:=pP g hi k hk;exact qai g n _ m b (by omega) (by simp;omega) (by simp;omega)
theorem tI (g:GoodL ar l) {id:Nat} (hi:id < l.length) (out:List Nat):Vi l id out=if id∈out then out else iz l l[id].kids out++[id]:=by
 unfold Vi iz;rw[Cj,bM hi];dsimp only;rw[M9 l[id].kids out fun k hk b=>?_];obtain ⟨t,rfl,ht⟩:=pP g hi k hk;exact qai g id _ _ b (by omega) (by simp;omega) (by simp[Vi])
theorem qhz (out:List Nat):iz l [] out=out:=rfl
theorem DA (k:Int) (ks:List Int) (out:List Nat):iz l (k::ks) out=iz l ks (Vi l k.toNat out):=rfl
structure Cl (l:List ND) (out:List Nat):Prop where
 nd:out.Nodup
 lt:∀ j∈out,j < l.length
 cl:∀ i (h:i < out.length) (hj:out[i] < l.length),∀ k∈l[out[i]].kids,k.toNat∈out.take i
theorem sv:Cl l []:=⟨by simp,by simp,fun i h=>by simp at h⟩
theorem Cl.kids {out:List Nat} (h:Cl l out) {j:Nat} (hj:j∈out) (hl:j < l.length):∀ k∈l[j].kids,k.toNat∈out:=fun k hk=>by
 obtain ⟨i,hi,e⟩:=qB hj;subst e;exact List.take_subset _ _ (h.cl i hi hl k hk)
theorem Cl.snoc {out:List Nat} (h:Cl l out) {id:Nat} (hi:id < l.length) (hn:id∉out) (hk:∀ k∈l[id].kids,k.toNat∈out):Cl l (out++[id]):=by
 refine ⟨?_,fun j hj=>?_,fun i h2 hj k lO=>?_⟩
 ·rw[List.nodup_append]
  exact ⟨h.nd,by simp,fun a ha b hb e=>by
   obtain rfl:b=id:=by simpa using hb
   exact hn (e▸ha)⟩
 ·rcases iy.1 hj with hj | hj
  ·exact h.lt j hj
  ·obtain rfl:j=id:=by simpa using hj
   exact hi
 ·by_cases cm:i < out.length
  ·rw[List.take_append_of_le_length (by omega)];refine h.cl i cm (h.lt _ (bI cm)) k ?_;have e:(out++[id])[i]=out[i]:=List.getElem_append_left cm;rw[List.getElem_of_eq rfl] at lO;have:∀ (y:Nat) (hy:y < l.length),y=out[i]->k∈l[y].kids->k∈(l[out[i]]'(h.lt _ (bI cm))).kids:=fun y hy e h=>by subst e;exact h
   exact this _ hj e lO
  ·have IF:i=out.length:=by simp at h2;omega
   subst IF;have e:(out++[id])[out.length]=id:=by simp
   have:∀ (y:Nat) (hy:y < l.length),y=id->k∈l[y].kids->k∈l[id].kids:=fun y hy e h=>by subst e;exact h
   have:=hk k (this _ hj e lO);simpa using this
theorem rr (g:GoodL ar l):∀ id,id < l.length->∀ out,Cl l out->Cl l (Vi l id out)/\id∈Vi l id out/\∃ r,Vi l id out=out++r/\∀ y∈r,y<=id:=by
 intro id
 induction id using Nat.strongRecOn with
 | ind id ih=>
  intro hi out hc
  have key:∀ (ks:List Int),(∀ k∈ks,∃ t:Nat,k=t/\t < id)->∀ out,Cl l out->Cl l (iz l ks out)/\(∀ k∈ks,k.toNat∈iz l ks out)/\∃ r,iz l ks out=out++r/\∀ y∈r,y < id:=by
   intro ks
   induction ks with
   | nil=>intro _ out hc;exact ⟨hc,by simp,[],by simp[iz],by simp⟩
   | cons k ks ihk=>
    intro hk out hc;obtain ⟨t,rfl,ht⟩:=hk k fQ;obtain ⟨a1,a2,r1,a3,a4⟩:=ih t ht (by omega) out hc;obtain ⟨b1,b2,r2,b3,b4⟩:=ihk (fun k bS=>hk k (fN _ bS)) _ a1;rw[DA,cH]
    refine ⟨b1,fun k bS=>?_,r1++r2,by rw[b3,a3,gd],fun y hy=>?_⟩
    ·rcases gA.1 bS with rfl | bS
     ·rw[b3];exact AJ _ (by simpa using a2)
     ·exact b2 k bS
    ·rcases iy.1 hy with hy | hy
     ·have:=a4 y hy;omega
     ·exact b4 y hy
  rw[tI g hi]
  by_cases hm:id∈out
  ·rw[an hm];exact ⟨hc,hm,[],by simp,by simp⟩
  ·rw[aj hm];obtain ⟨b1,b2,r,b3,b4⟩:=key l[id].kids (fun k hk=>pP g hi k hk) out hc
   refine ⟨b1.snoc hi (fun h=>?_) b2,by simp,r++[id],by rw[b3,gd],fun y hy=>?_⟩
   ·rw[b3] at h
    rcases iy.1 h with h | h
    ·exact hm h
    ·have:=b4 _ h;omega
   ·rcases iy.1 hy with hy | hy
    ·have:=b4 y hy;omega
    ·have:y=id:=by simpa using hy
     omega
theorem Mj (g:GoodL ar l) {id:Nat} (hi:id < l.length):∀ (ks:List Int),(∀ k∈ks,∃ t:Nat,k=t/\t < id)->∀ out,Cl l out->Cl l (iz l ks out)/\(∀ k∈ks,k.toNat∈iz l ks out)/\∃ r,iz l ks out=out++r/\∀ y∈r,y < id:=by
 intro ks
 induction ks with
 | nil=>intro _ out hc;exact ⟨hc,by simp,[],by simp[iz],by simp⟩
 | cons k ks ihk=>
  intro hk out hc;obtain ⟨t,rfl,ht⟩:=hk k fQ;obtain ⟨a1,a2,r1,a3,a4⟩:=rr g t (by omega) out hc;obtain ⟨b1,b2,r2,b3,b4⟩:=ihk (fun k bS=>hk k (fN _ bS)) _ a1;rw[DA,cH]
  refine ⟨b1,fun k bS=>?_,r1++r2,by rw[b3,a3,gd],fun y hy=>?_⟩
  ·rcases gA.1 bS with rfl | bS
   ·rw[b3];exact AJ _ (by simpa using a2)
   ·exact b2 k bS
  ·rcases iy.1 hy with hy | hy
   ·have:=a4 y hy;omega
   ·exact b4 y hy
theorem Tn (g:GoodL ar l):∀ (ks:List Int) (out:List Nat),(∀ k∈ks,k.toNat∈out/\k.toNat < l.length)->iz l ks out=out
 | [],_,_=>rfl
 | k::ks,out,h=>by
  obtain ⟨h1,h2⟩:=h k fQ;rw[DA,tI g h2,an h1];exact Tn g ks out fun k hk=>h k (fN _ hk)
theorem Tm (g:GoodL ar l) {id:Nat} (hi:id < l.length) {out:List Nat} (hc:Cl l out):Vi l id out=if id∈iz l l[id].kids out then iz l l[id].kids out else iz l l[id].kids out++[id]:=by
 rw[tI g hi]
 by_cases hm:id∈out
 ·rw[Tn g _ _ fun k hk=>⟨hc.kids hm hi k hk,hc.lt _ (hc.kids hm hi k hk)⟩,an hm]
  try rw[an hm]
 ·obtain ⟨b1,b2,r,b3,b4⟩:=Mj g hi l[id].kids (fun k hk=>pP g hi k hk) out hc;rw[aj hm,aj];intro h;rw[b3] at h
  rcases iy.1 h with h | h
  ·exact hm h
  ·have:=b4 _ h;omega
def nd (l:List ND) (out:List Nat) (id:Nat):ND:=⟨(l.getD id ⟨0,[],0⟩).var,(l.getD id ⟨0,[],0⟩).kids.map (fun k=>((out.idxOf k.toNat:Nat):Int)),(l.getD id ⟨0,[],0⟩).leaf⟩
def dD (l:List ND) (out:List Nat):List ND:=out.map (nd l out)
theorem jr {id:Nat} (hi:id < l.length):l.getD id ⟨0,[],0⟩=l[id]:=by rw[aT,bM hi,eh]
theorem O6 {out:List Nat} {id:Nat} (hi:id < l.length) (hk:∀ k∈l[id].kids,k.toNat∈out) (r:List Nat):nd l (out++r) id=nd l out id:=by
 unfold nd;rw[jr hi];congr 1;refine List.map_congr_left fun k bS=>?_;rw[List.idxOf_append,an (hk k bS)]
theorem XS {out:List Nat} (hc:Cl l out) {id:Nat} (hi:id < l.length) (hk:∀ k∈l[id].kids,k.toNat∈out):dD l (out++[id])=dD l out++[nd l out id]:=by
 unfold dD;rw[lA,gg,ri,O6 hi hk];congr 1;exact List.map_congr_left fun j hj=>O6 (hc.lt j hj) (hc.kids hj (hc.lt j hj)) [id]
theorem qno {out:List Nat} {a b:Nat} (ha:a∈out) (hb:b∈out) (e:out.idxOf a=out.idxOf b):a=b:=by
 have h1:=List.getElem_idxOf (List.idxOf_lt_length_of_mem ha);have h2:=List.getElem_idxOf (List.idxOf_lt_length_of_mem hb);rw[<- h1,<- h2];simp only[e]
theorem O7 (g:GoodL ar l) {out:List Nat} {i j:Nat} (hi:i < l.length) (hj:j < l.length) (jA:∀ k∈l[i].kids,k.toNat∈out) (yU:∀ k∈l[j].kids,k.toNat∈out) (e:nd l out i=nd l out j):i=j:=by
 unfold nd at e;rw[jr hi,jr hj] at e
 injection e with e1 e2 e3
 have hk:l[i].kids=l[j].kids:=by
  have hl:l[i].kids.length=l[j].kids.length:=by have:=cI List.length e2;simpa using this
  refine List.ext_getElem hl fun q h1 h2=>?_;have h3:=List.getElem_of_eq e2 (i:=q) (by simpa using h1);rw[tD,tD] at h3;have h4:=qno (jA _ (bI h1)) (yU _ (bI h2)) (by omega);obtain ⟨a,ea,_⟩:=pP g hi _ (bI h1);obtain ⟨b,eb,_⟩:=pP g hj _ (bI h2);omega
 have en:l[i]=l[j]:=by
  generalize l[i]=x at *;generalize l[j]=y at *;obtain ⟨xv,xk,xl⟩:=x;obtain ⟨yv,yk,yl⟩:=y;simp only at e1 e3 hk;rw[e1,e3,hk]
 exact BU g.nd hi hj en
theorem qoe (g:GoodL ar l) {out:List Nat} (hc:Cl l out) {id:Nat} (hi:id < l.length) (hk:∀ k∈l[id].kids,k.toNat∈out):nd l out id∈dD l out↔id∈out:=by
 unfold dD;rw[iY]
 constructor
 ·rintro ⟨j,hj,e⟩;have:=O7 g (hc.lt j hj) hi (hc.kids hj (hc.lt j hj)) hk e;exact this▸hj
 ·intro h;exact ⟨id,h,rfl⟩
theorem qod (g:GoodL ar l) {out:List Nat} (hc:Cl l out) {id:Nat} (hi:id < l.length) (hk:∀ k∈l[id].kids,k.toNat∈out):(dD l out).idxOf (nd l out id)=out.idxOf id:=by
 have key:∀ (p:List Nat),(∀ j∈p,j∈out)->(p.map (nd l out)).idxOf (nd l out id)=p.idxOf id:=by
  intro p
  induction p with
  | nil=>intro _;rfl
  | cons j p ih=>
   intro h;have hj:=h j fQ;rw[gg,List.idxOf_cons,List.idxOf_cons,ih fun q hq=>h q (fN _ hq)]
   have:(nd l out j == nd l out id)=(j == id):=by
    by_cases e:j=id
    ·subst e;simp
    ·have:nd l out j≠nd l out id:=fun h=>e (O7 g (hc.lt j hj) hi (hc.kids hj (hc.lt j hj)) hk h);rw[beq_eq_false_iff_ne.2 e,beq_eq_false_iff_ne.2 this]
   rw[this]
 exact key out fun _ h=>h
theorem YS (g:GoodL ar l) {out:List Nat} (hc:Cl l out) {id:Nat} (hi:id < l.length) (hk:∀ k∈l[id].kids,k.toNat∈out) :
  jg (dD l out) (nd l out id)=dD l (if id∈out then out else out++[id])/\(dD l out).idxOf (nd l out id)=(if id∈out then out else out++[id]).idxOf id:=by
 have hm:=qoe g hc hi hk;rw[qod g hc hi hk];unfold jg
 by_cases h:id∈out
 ·rw[an (hm.2 h),an h];exact ⟨rfl,rfl⟩
 ·rw[aj (fun hh=>h (hm.1 hh)),aj h,XS hc hi hk,List.idxOf_append,aj h];refine ⟨rfl,?_⟩;rw[List.idxOf_eq_length h];simp
theorem qp6 {id v:Nat} {t:List Int} (hv:v<=ar.length) (h:TabV ar l id v t) {a:Nat->Nat} (ha:je ar a):S l a id∈t:=by
 rw[h.val a ha];have:=I5 ha (ar.length - v) v (by omega);rw[aT,bM (by rw[h.len];exact this),eh];exact bI _
theorem qk9 (g:GoodL ar l) (h1:∀ x∈ar,1<=x) {id v:Nat} {t:List Int} (hv:v<=ar.length) (h:TabV ar l id v t) {c:Int} (hc:∀ y∈t,y=c):l.getD id ⟨0,[],0⟩=iH c:=by
 have hi:=h.lt;rw[jr hi];have hS:∀ a,je ar a->S l a id=c:=fun a ha=>hc _ (qp6 hv h ha)
 have hn:l[id].var < 0:=by
  refine Decidable.byContradiction fun hn=>?_;have sS:0<=l[id].var:=by omega
  have sV:((l[id].var.toNat:Nat):Int)=l[id].var:=by omega
  have a0:=DH h1;have hlt:=(g.var id hi sS).1
  obtain ⟨t0,e0,Ot,_⟩:=oR g hi sS (k:=0) (by
   have:=h1 (ar[l[id].var.toNat]) (bI (by omega))
   rw[aT,bM (by omega),eh];omega)
  have all:∀ k:Nat,(k:Int) < ar.getD l[id].var.toNat 0->∀ a,je ar a->S l a (l[id].kids.getD k 0).toNat=c:=fun k hk a ha=>by
   rw[<- Dr g ha hi (v:=l[id].var.toNat) (k:=k) sV.symm hk];exact hS _ (ha.upd hk)
  refine Pb g h1 hi (j:=t0) sS fun k hk=>?_;obtain ⟨tk,ek,kg,_⟩:=oR g hi sS hk;rw[ek];congr 1;refine canon g h1 _ tk t0 (by omega) (by omega) (Nat.lt_succ_self _) fun a ha=>?_;have x1:=all k hk a ha
  have x2:=all 0 (by
   have:=h1 (ar[l[id].var.toNat]) (bI (by omega))
   rw[aT,bM (by omega),eh];omega) a ha
  rw[ek,cH] at x1;rw[e0,cH] at x2;rw[x1,x2]
 have hl:l[id].leaf=c:=by rw[<- hS _ (DH h1),ym hi hn]
 rcases g.ok _ (bI hi) with ⟨b1,b2,_⟩ | ⟨b1,_⟩
 ·generalize l[id]=x at *;obtain ⟨xv,xk,xl⟩:=x;simp only at b1 b2 hl;rw[b1,b2,hl];rfl
 ·omega
theorem JY {id v:Nat} {t:List Int} (hv:v < ar.length) (h:TabV ar l id v t) {a:Nat->Nat} (ha:je ar a) {k:Nat} (hk:(k:Int) < ar.getD v 0):S l (upd a v k) id=(part t (cu (ar.drop (v+1))) k).getD (qj (ar.drop (v+1)) (v+1) a) 0:=by
 have hn:=I5 ha (ar.length - (v+1)) (v+1) (by omega);rw[h.val _ (ha.upd hk),YA hn,BC hv,OD (ar.length - (v+1)) (v+1) (by omega) (by omega)];have:upd a v k v=k:=by unfold upd;rw[an rfl]
 rw[this]
theorem Jr (h1:∀ x∈ar,1<=x) {v:Nat} {t:List Int} (hv:v < ar.length) (ht:t.length=cu (ar.drop v)) {k:Nat} (hk:(k:Int) < ar.getD v 0):(part t (cu (ar.drop (v+1))) k).length=cu (ar.drop (v+1)):=by
 rw[xu hv] at ht;exact part_len ht (by omega)
theorem PZ (g:GoodL ar l) (h1:∀ x∈ar,1<=x) {id v:Nat} {t:List Int} (hv:v < ar.length) (h:TabV ar l id v t) (hi:id < l.length) (ue:l[id].var=v) {k:Nat} (hk:(k:Int) < ar.getD v 0):TabV ar l (l[id].kids.getD k 0).toNat (v+1) (part t (cu (ar.drop (v+1))) k):=by
 have sV:l[id].var.toNat=v:=by omega
 obtain ⟨q,e,hq,h2⟩:=oR g hi (by omega) (k:=k) (by rw[sV];exact hk)
 refine ⟨Jr h1 hv h.len hk,by rw[e];simp;omega,fun hh=>?_,fun a ha=>?_⟩
 ·have:=h2 (by omega);have e2:(l[id].kids.getD k 0).toNat=q:=by rw[e];simp
  have:∀ (y:Nat) (hy:y < l.length),y=q->(((v+1:Nat)):Int)<=fE ar.length l[y]:=fun y hy ey=>by subst ey;omega
  exact this _ hh e2
 ·rw[<- Dr g ha hi ue hk];exact JY hv h ha hk
theorem qlz (g:GoodL ar l) (h1:∀ x∈ar,1<=x) {id v:Nat} {t:List Int} (hv:v < ar.length) (h:TabV ar l id v t) (hf:∀ k:Nat,(k:Int) < ar.getD v 0->part t (cu (ar.drop (v+1))) k=part t (cu (ar.drop (v+1))) 0):TabV ar l id (v+1) (part t (cu (ar.drop (v+1))) 0):=by
 have hi:=h.lt
 have oJ:1<=ar.getD v 0:=by
  rw[aT,bM hv,eh];exact h1 _ (bI hv)
 have hne:l[id].var≠v:=fun ue=>by
  have sV:l[id].var.toNat=v:=by omega
  refine Pb g h1 hi (j:=(l[id].kids.getD 0 0).toNat) (by omega) fun k hk=>?_;rw[sV] at hk;obtain ⟨q,e,hq,_⟩:=oR g hi (by omega) (k:=k) (by rw[sV];exact hk);have t1:=PZ g h1 hv h hi ue hk;have t0:=PZ g h1 hv h hi ue (k:=0) (by omega);rw[hf k hk] at t1;have:=qp9 g h1 t1 t0;rw[<- this,e];simp
 have mU:=h.top hi
 have hlt:(v:Int) < fE ar.length l[id]:=by
  unfold fE at mU ⊢
  split
  ·rename_i hh;rw[an hh] at mU;omega
  ·omega
 refine ⟨Jr h1 hv h.len (by omega),hi,fun _=>by omega,fun a ha=>?_⟩;have hk:=ha v hv;rw[<- hf (a v) hk,<- JY hv h ha hk,yj g ha hk id hi hlt]
theorem qoi (g:GoodL ar l) (h1:∀ x∈ar,1<=x) {id v:Nat} {t:List Int} (hv:v < ar.length) (h:TabV ar l id v t) (hi:id < l.length) (hf:¬ ∀ k:Nat,(k:Int) < ar.getD v 0->part t (cu (ar.drop (v+1))) k=part t (cu (ar.drop (v+1))) 0):l[id].var=v:=by
 refine Decidable.byContradiction fun hne=>hf fun k hk=>?_;have mU:=h.top hi
 have oJ:1<=ar.getD v 0:=by
  rw[aT,bM hv,eh];exact h1 _ (bI hv)
 have hlt:(v:Int) < fE ar.length l[id]:=by
  unfold fE at mU ⊢
  split
  ·rename_i hh;rw[an hh] at mU;omega
  ·omega
 have e1:=Jr h1 hv h.len hk;have e0:=Jr h1 hv h.len (k:=0) (by omega);refine Xt (e1.trans e0.symm) fun q hq=>?_;obtain ⟨a,ha,e⟩:=WR h1 (ar.length - (v+1)) (v+1) q (by omega) (by rw[<- e1];exact hq);rw[<- e,<- JY hv h ha hk,<- JY hv h ha (k:=0) (by omega),yj g ha hk id hi hlt,yj g ha (by omega) id hi hlt]
end
end Go.Ab
namespace Go.Ab
section
variable {ar:List Int} {l:List ND}
inductive Rc (l:List ND) (id:Nat):Nat->Prop
 | refl:Rc l id id
 | kid (j:Nat) (k:Int) (h:Rc l id j) (hj:j < l.length) (hk:k∈l[j].kids):Rc l id k.toNat
theorem Rc.trans (g:GoodL ar l) {a b c:Nat} (h:Rc l a b) (k:Rc l b c):Rc l a c:=by
 induction k with
 | refl=>exact h
 | kid j q _ hj hk ih=>exact .kid j q ih hj hk
theorem qag {a:Nat->Nat} {v k w:Nat} (h:w≠v):upd a v k w=a w:=by unfold upd;rw[aj h]
theorem P7 {a:Nat->Nat} {v k:Nat}:upd a v k v=k:=by unfold upd;rw[an rfl]
end
end Go.Ab
namespace Go.Ab
def jm (n:Nat) (F:Nat->Nat):Nat:=((List.range n).map F).sum
theorem ZW (F:Nat->Nat):jm 0 F=0:=rfl
theorem qY (n:Nat) (F:Nat->Nat):jm (n+1) F=jm n F+F n:=by
 unfold jm;rw[List.range_succ,lA,List.sum_append];simp
theorem xI {n:Nat} {F G:Nat->Nat} (h:∀ k,k < n->F k=G k):jm n F=jm n G:=by
 induction n with
 | zero=>rfl
 | succ n ih=>rw[qY,qY,ih fun k hk=>h k (by omega),h n (by omega)]
theorem PW (c n:Nat) (F:Nat->Nat):jm n (fun k=>c * F k)=c * jm n F:=by
 induction n with
 | zero=>rfl
 | succ n ih=>rw[qY,qY,ih,gB]
theorem PX (c n:Nat) (F:Nat->Nat):jm n (fun k=>F k * c)=jm n F * c:=by
 rw[cO,<- PW];exact xI fun k _=>cO _ _
theorem qpY (n m:Nat) (F:Nat->Nat):jm (n+m) F=jm n F+jm m fun k=>F (n+k):=by
 induction m with
 | zero=>rfl
 | succ m ih=>rw[<- mH,qY,qY,ih,mH]
theorem ZT {n:Nat} (F:Nat->Nat) {k:Nat} (hk:k < n):F k<=jm n F:=by
 induction n with
 | zero=>omega
 | succ n ih=>
  rw[qY]
  by_cases h:k=n
  ·subst h;omega
  ·have:=ih (by omega);omega
section
variable {ar:List Int} (s:Nat->Nat->Nat)
abbrev iT (ar:List Int) (v:Nat):Nat:=(ar.getD v 0).toNat
def Ct (ar:List Int) (s:Nat->Nat->Nat):Nat->Nat->((Nat->Nat)->Nat)->(Nat->Nat)->Nat
 | 0,_,φ,a=>φ a
 | d+1,v,φ,a=>jm (iT ar v) fun k=>s v k * Ct ar s d (v+1) φ (upd a v k)
def SS (ar:List Int) (s:Nat->Nat->Nat) (v:Nat):Nat:=jm (iT ar v) (s v)
def PM (ar:List Int) (s:Nat->Nat->Nat):Nat->Nat->Nat
 | 0,_=>1
 | d+1,v=>SS ar s v * PM ar s d (v+1)
variable {s}
theorem ru {v k:Nat} (hk:k < iT ar v):(k:Int) < ar.getD v 0:=by unfold iT at hk;omega
theorem Qt {φ ψ:(Nat->Nat)->Nat}:∀ (d v:Nat) (a:Nat->Nat),je ar a->(∀ b,je ar b->(∀ w,w < v->b w=a w)->φ b=ψ b)->Ct ar s d v φ a=Ct ar s d v ψ a
 | 0,v,a,ha,h=>h a ha fun _ _=>rfl
 | d+1,v,a,ha,h=>by
  refine xI fun k hk=>?_;rw[Qt d (v+1) (upd a v k) (ha.upd (ru hk)) fun b hb hw=>h b hb fun w Oz=>(hw w (by omega)).trans (qag (by omega))]
theorem Kf (x:Nat):∀ (d v:Nat) (a:Nat->Nat),Ct ar s d v (fun _=>x) a=PM ar s d v * x
 | 0,v,a=>by simp[Ct,PM]
 | d+1,v,a=>by
  rw[Ct,PM,xI (G:=fun k=>s v k * (PM ar s d (v+1) * x)) fun k _=>by rw[Kf x d],PX,SS,fF]
theorem qqw {a:Nat->Nat} {v w j k:Nat} (h:v≠w):upd (upd a v j) w k=upd (upd a w k) v j:=by
 funext x;unfold upd
 by_cases h1:x=v<;>by_cases h2:x=w<;>simp[h1,h2]
 ·subst h1;exact absurd h2 h
 ·intro e;exact absurd e h
 ·intro e;exact absurd e.symm h
theorem Kg {φ:(Nat->Nat)->Nat} {v j:Nat} (hj:(j:Int) < ar.getD v 0) (h:∀ b,je ar b->φ (upd b v j)=φ b):∀ (d v':Nat) (a:Nat->Nat),v < v'->je ar a->Ct ar s d v' φ (upd a v j)=Ct ar s d v' φ a
 | 0,v',a,hv,ha=>h a ha
 | d+1,v',a,hv,ha=>by
  refine xI fun k hk=>?_;rw[qqw (by omega),Kg hj h d (v'+1) (upd a v' k) (by omega) (ha.upd (ru hk))]
theorem qaG {φ:(Nat->Nat)->Nat} {d v:Nat} {a:Nat->Nat} (ha:je ar a) (h:∀ (b:Nat->Nat) (k:Nat),je ar b->(k:Int) < ar.getD v 0->φ (upd b v k)=φ b):Ct ar s (d+1) v φ a=SS ar s v * Ct ar s d (v+1) φ a:=by
 rw[Ct,xI (G:=fun k=>s v k * Ct ar s d (v+1) φ a) fun k hk=>by rw[Kg (ru hk) (fun b hb=>h b k hb (ru hk)) d (v+1) a (by omega) ha],PX];rfl
theorem Qu {φ:(Nat->Nat)->Nat} {a:Nat->Nat} (ha:je ar a):∀ (u d v:Nat),(∀ (b:Nat->Nat) (w k:Nat),v<=w->w < v+u->je ar b->(k:Int) < ar.getD w 0->φ (upd b w k)=φ b)->Ct ar s (u+d) v φ a=PM ar s u v * Ct ar s d (v+u) φ a
 | 0,d,v,h=>by simp[PM]
 | u+1,d,v,h=>by
  rw[show u+1+d=(u+d)+1 by omega,qaG ha fun b k hb hk=>h b v k (by omega) (by omega) hb hk,Qu ha u d (v+1) fun b w k h1 h2=>h b w k (by omega) (by omega),PM,fF,show v+1+u=v+(u+1) by omega]
theorem Dl:∀ (u d v:Nat),PM ar s (u+d) v=PM ar s u v * PM ar s d (v+u)
 | 0,d,v=>by simp[PM]
 | u+1,d,v=>by
  rw[show u+1+d=(u+d)+1 by omega,PM,PM,Dl u d (v+1),fF,show v+1+u=v+(u+1) by omega]
variable {l:List ND}
def Hc (ar:List Int) (s:Nat->Nat->Nat) (l:List ND) (c:Int) (k:Nat):Nat:=Ct ar s ar.length 0 (fun a=>if S l a k=c then 1 else 0) fun _=>0
def Ai (ar:List Int) (s:Nat->Nat->Nat) (l:List ND) (h:Nat->Nat):Prop:=∀ (k u:Nat) (hk:k < l.length),l[k].var=u->∃ q:Nat->Nat,(∀ j,j < iT ar u->h (l[k].kids.getD j 0).toNat=SS ar s u * q j)/\h k=jm (iT ar u) fun j=>s u j * q j
theorem Ny (g:GoodL ar l) (h1:∀ x∈ar,1<=x) (c:Int):Ai ar s l (Hc ar s l c):=by
 intro k u hk hu;have ha:=DH h1;obtain ⟨kF,ud⟩:=g.var k hk (by omega);have iU:u < ar.length:=by omega
 have oO:l[k].var.toNat=u:=by omega
 have mf:fE ar.length l[k]=u:=by unfold fE;rw[an (by omega)];exact hu
 have frm:∀ (i:Nat) (hi:i < l.length) (w:Nat),(w:Int)<=fE ar.length l[i]->w<=ar.length->Hc ar s l c i=PM ar s w 0 * Ct ar s (ar.length - w) w (fun a=>if S l a i=c then 1 else 0) fun _=>0:=fun i hi w hw WL=>by
  have:=Qu (s:=s) (φ:=fun a=>if S l a i=c then 1 else 0) ha w (ar.length - w) 0 fun b x j _ hx hb hj=>by
   skip
   rw[yj g hb hj i hi (by omega)]
  rw[br,show w+(ar.length - w)=ar.length by omega] at this;exact this
 refine ⟨fun j=>PM ar s u 0 * Ct ar s (ar.length - (u+1)) (u+1) (fun a=>if S l a (l[k].kids.getD j 0).toNat=c then 1 else 0) fun _=>0,fun j hj=>?_,?_⟩
 ·obtain ⟨t,e,ht,h2⟩:=oR g hk (by omega) (k:=j) (by rw[oO];exact ru hj);have h2:=h2 (by omega);rw[e,cH,frm t (by omega) (u+1) (by omega) (by omega),Dl u 1 0];simp only[PM,mI,br,e,cH];rw[<- fF,cO (SS ar s u)]
 ·rw[frm k hk u (by omega) (by omega),show ar.length - u=(ar.length - (u+1))+1 by omega,Ct,<- PW];refine xI fun j hj=>?_;obtain ⟨t,e,ht,h2⟩:=oR g hk (by omega) (k:=j) (by rw[oO];exact ru hj);have h2:=h2 (by omega)
  have e1:Ct ar s (ar.length - (u+1)) (u+1) (fun a=>if S l a k=c then 1 else 0) (upd (fun _=>0) u j)=Ct ar s (ar.length - (u+1)) (u+1) (fun a=>if S l a t=c then 1 else 0) (upd (fun _=>0) u j):=
   Qt _ _ _ (ha.upd (ru hj)) fun b hb hw=>by
    have:b u=j:=(hw u (by omega)).trans P7;rw[Dq g hb hk (by omega),oO,this,e,cH]
  dsimp only
  rw[e1,e,cH,Kg (ru hj) (fun b hb=>by
   skip
   rw[yj g hb (ru hj) t (by omega) (by omega)]) _ _ _ (by omega) ha]
  rw[<- fF,cO (PM ar s u 0),fF]
theorem Kh (c:Int) {k:Nat} (hk:k < l.length) (hv:l[k].var < 0):Hc ar s l c k=if l[k].leaf=c then PM ar s ar.length 0 else 0:=by
 unfold Hc
 have:(fun a:Nat->Nat=>if S l a k=c then (1:Nat) else 0)=fun _=>if l[k].leaf=c then 1 else 0:=by funext a;rw[ym hk hv]
 rw[this,Kf];split<;>simp
theorem ql6 (g:GoodL ar l):Ai ar s l fun _=>PM ar s ar.length 0:=by
 intro k u hk hu;obtain ⟨kF,_⟩:=g.var k hk (by omega)
 have e:PM ar s ar.length 0=PM ar s u 0 * (SS ar s u * PM ar s (ar.length - (u+1)) (u+1)):=by
  have:=Dl (ar:=ar) (s:=s) u ((ar.length - (u+1))+1) 0;rw[show u+((ar.length - (u+1))+1)=ar.length by omega,br] at this;rw[this];rfl
 refine ⟨fun _=>PM ar s u 0 * PM ar s (ar.length - (u+1)) (u+1),fun j _=>?_,?_⟩
 ·dsimp only;rw[e,<- fF,<- fF,cO (PM ar s u 0)]
 ·dsimp only;rw[PX,e,<- fF,<- fF,cO (PM ar s u 0)];rfl
def jM (ar:List Int) (s:Nat->Nat->Nat) (n:ND):List (Nat×Nat):=(List.range (iT ar n.var.toNat)).map fun j=>((n.kids.getD j 0).toNat,s n.var.toNat j)
def kI (t:Nat):List (Nat×Nat)->(Nat->Nat)->Nat->Nat
 | [],T=>T
 | p::L,T=>kI t L (upd T p.1 (T p.1+t * p.2))
theorem JO (t:Nat) (p:Nat×Nat):∀ (L:List (Nat×Nat)) (T:Nat->Nat),kI t (L++[p]) T=upd (kI t L T) p.1 (kI t L T p.1+t * p.2)
 | [],T=>rfl
 | q::L,T=>by rw[b8,kI,JO t p L];rfl
def jD (h T:Nat->Nat) (R:List Nat):Nat:=(R.map fun j=>T j * h j).sum
theorem Ju {h T:Nat->Nat} {j x:Nat}:∀ {R:List Nat},R.Nodup->jD h (upd T j (T j+x)) R=jD h T R+if j∈R then x * h j else 0
 | [],_=>by simp[jD]
 | i::R,hn=>by
  obtain ⟨h1,h2⟩:=uN.1 hn;have ih:=Ju (h:=h) (T:=T) (j:=j) (x:=x) h2;unfold jD at ih ⊢;rw[gg,nk,gg,nk,ih]
  by_cases hi:i=j
  ·subst hi;rw[P7,aj h1,an fQ,im];omega
  ·have hm:(j∈i::R)↔j∈R:=by simp[gA,show ¬ j=i from fun e=>hi e.symm]
   rw[qag hi,mH];congr 2
   by_cases hj:j∈R
   ·rw[an hj,an (hm.2 hj)]
   ·rw[aj hj,aj (fun h=>hj (hm.1 h))]
theorem Jt {h:Nat->Nat} {t:Nat} {R:List Nat} (hn:R.Nodup):∀ (L:List (Nat×Nat)) (T:Nat->Nat),(∀ p∈L,p.1∈R)->jD h (kI t L T) R=jD h T R+t * (L.map fun p=>p.2 * h p.1).sum
 | [],T,_=>by simp[kI]
 | p::L,T,hL=>by
  rw[kI,Jt hn L _ fun q hq=>hL q (fN _ hq),Ju hn,an (hL p fQ),gg,nk,gB,fF,mH]
theorem YO {h T:Nat->Nat}:∀ {R:List Nat} {j:Nat},j∈R->T j * h j<=jD h T R
 | i::R,j,hj=>by
  unfold jD;rw[gg,nk]
  rcases gA.1 hj with rfl | hj
  ·omega
  ·have:T j * h j<=(R.map fun j=>T j * h j).sum:=YO (R:=R) hj;omega
def run (ar:List Int) (s:Nat->Nat->Nat) (l:List ND):List Nat->(Nat->Nat)->List (Int×Nat)
 | [],_=>[]
 | k::R,T=>match l[k]? with
  | none=>[]
  | some n=>if n.var < 0 then (n.leaf,T k)::run ar s l R T else run ar s l R (kI (T k / SS ar s n.var.toNat) (jM ar s n) T)
structure Flow (ar:List Int) (s:Nat->Nat->Nat) (l:List ND) (R:List Nat) (T:Nat->Nat) (done:Nat):Prop where
 nd:R.Nodup
 lt:∀ j∈R,j < l.length
 srt:R.Pairwise fun x y=>fE ar.length (l.getD x ⟨0,[],0⟩)<=fE ar.length (l.getD y ⟨0,[],0⟩)
 kids:∀ (j:Nat) (hj:j < l.length),j∈R->0<=l[j].var->∀ k∈l[j].kids,k.toNat∈R
 dvd:∀ (j:Nat) (hj:j < l.length) (v:Nat),j∈R->fE ar.length l[j]=v->PM ar s (ar.length - v) v∣T j
 tot:jD (fun _=>1) T R+done=PM ar s ar.length 0
theorem Xe (g:GoodL ar l) {k:Nat} (hk:k < l.length) (hv:0<=l[k].var):∀ p∈jM ar s l[k],(p.1:Int)∈l[k].kids/\∃ hp:p.1 < l.length,l[k].var < fE ar.length l[p.1]:=fun p hp=>by
 obtain ⟨j,hj,rfl⟩:=iY.1 hp;have hj:=ru (uL.1 hj);obtain ⟨t,e,ht,h2⟩:=oR g hk hv hj;have hl:=(g.var k hk hv).2;have ke:j < l[k].kids.length:=by omega
 dsimp only;rw[e,cH];refine ⟨?_,by omega,h2 (by omega)⟩;rw[<- e,aT,bM ke];exact bI ke
theorem qnB (k:ND) (h:Nat->Nat):((jM ar s k).map fun p=>p.2 * h p.1).sum=jm (iT ar k.var.toNat) fun j=>s k.var.toNat j * h (k.kids.getD j 0).toNat:=by
 unfold jM jm;rw[tE];rfl
theorem Flow.inner (g:GoodL ar l) (h0:∀ v,v < ar.length->0 < SS ar s v) {k:Nat} {R:List Nat} {T:Nat->Nat} {done:Nat} (F:Flow ar s l (k::R) T done) {u:Nat} (hk:k < l.length) (hu:l[k].var=u) :
  u < ar.length/\T k / SS ar s u * SS ar s u=T k/\(∀ p∈jM ar s l[k],p.1∈R)/\k∉R /\
  (∀ (L:List (Nat×Nat)) (p:Nat×Nat) (L':List (Nat×Nat)),jM ar s l[k]=L++p::L'->kI (T k / SS ar s u) L T p.1+T k / SS ar s u * p.2<=PM ar s ar.length 0) /\
  Flow ar s l R (kI (T k / SS ar s u) (jM ar s l[k]) T) done /\
  ∀ h,Ai ar s l h->jD h T (k::R)=jD h (kI (T k / SS ar s u) (jM ar s l[k]) T) R:=by
 obtain ⟨lR,nA⟩:=uN.1 F.nd;obtain ⟨kF,ud⟩:=g.var k hk (by omega);have iU:u < ar.length:=by omega
 have oO:l[k].var.toNat=u:=by omega
 have mf:fE ar.length l[k]=u:=by unfold fE;rw[an (by omega)];exact hu
 have hS:=h0 u iU
 have Vt:PM ar s (ar.length - u) u=SS ar s u * PM ar s (ar.length - (u+1)) (u+1):=by
  rw[show ar.length - u=(ar.length - (u+1))+1 by omega];rfl
 obtain ⟨c,hc⟩:=F.dvd k hk u fQ mf
 have By:T k / SS ar s u=PM ar s (ar.length - (u+1)) (u+1) * c:=by
  rw[hc,Vt,fF,Nat.mul_div_cancel_left _ hS]
 have IZ:T k / SS ar s u * SS ar s u=T k:=by rw[By,hc,Vt,cO,<- fF]
 have gu:∀ p∈jM ar s l[k],p.1∈R:=fun p hp=>by
  obtain ⟨a1,hpl,a2⟩:=Xe g hk (by omega) p hp;have:=F.kids k hk fQ (by omega) _ a1;rw[cH] at this
  rcases gA.1 this with e | h
  ·exfalso
   have:∀ (x:Nat) (hx:x < l.length),x=k->l[k].var < fE ar.length l[x]->False:=fun x hx e h=>by
    subst e;rw[mf] at h;omega
   exact this _ hpl e a2
  ·exact h
 have hwt:∀ h,Ai ar s l h->T k / SS ar s u * ((jM ar s l[k]).map fun p=>p.2 * h p.1).sum=T k * h k:=fun h hh=>by
  obtain ⟨q,q1,q2⟩:=hh k u hk hu;rw[qnB,oO,xI (G:=fun j=>SS ar s u * (s u j * q j)) fun j hj=>by rw[q1 j hj,<- fF,cO (s u j),fF],PW,<- q2,<- fF,IZ]
 have y9:∀ h,Ai ar s l h->jD h T (k::R)=jD h (kI (T k / SS ar s u) (jM ar s l[k]) T) R:=fun h hh=>by
  rw[Jt nA _ _ gu,hwt h hh];unfold jD;rw[gg,nk,si]
 have tR:∀ v,v<=ar.length->0 < PM ar s (ar.length - v) v:=by
  have:∀ d v,v+d=ar.length->0 < PM ar s d v:=by
   intro d
   induction d with
   | zero=>intro v _;exact Nat.one_pos
   | succ d ih=>intro v hv;exact Nat.mul_pos (h0 v (by omega)) (ih (v+1) (by omega))
  intro v hv;exact this _ v (by omega)
 have hM:=tR 0 (lC _);rw[Nat.sub_zero] at hM
 have Bt:∀ (T':Nat->Nat) (R':List Nat),jD (fun _=>PM ar s ar.length 0) T' R'=jD (fun _=>1) T' R' * PM ar s ar.length 0:=fun T' R'=>by
  unfold jD
  induction R' with
  | nil=>simp
  | cons j R' ih=>rw[gg,nk,ih,gg,nk,im,mI]
 have BA:jD (fun _=>1) T (k::R)=jD (fun _=>1) (kI (T k / SS ar s u) (jM ar s l[k]) T) R:=by
  have:=y9 _ (ql6 g);rw[Bt,Bt] at this;exact Nat.eq_of_mul_eq_mul_right hM this
 refine ⟨iU,IZ,gu,lR,fun L p L' hL=>?_,⟨nA,fun j hj=>F.lt j (fN _ hj),(Dd.1 F.srt).2,fun j hj rE hv q hq=>?_,fun j hj v rE hv=>?_,?_⟩,y9⟩
 ·have hp:p.1∈R:=gu p (by rw[hL];simp)
  have h2:jD (fun _=>1) (kI (T k / SS ar s u) (L++[p]) T) R<=jD (fun _=>1) (kI (T k / SS ar s u) (jM ar s l[k]) T) R:=by
   rw[Jt nA _ _ fun q hq=>gu q (by
     rw[hL];rw[iy] at hq ⊢;rcases hq with hq | hq
     ·exact .inl hq
     ·exact .inr (by simp at hq;simp[hq])),Jt nA _ _ gu,hL]
   refine Nat.add_le_add_left (kJ _ ?_) _;simp only[lA,gg,List.sum_append,nk,ri,List.sum_nil];omega
  have h3:=YO (h:=fun _=>1) (T:=kI (T k / SS ar s u) (L++[p]) T) hp;rw[JO,P7,mI] at h3;have h4:=F.tot;rw[JO] at h2;omega
 ·have:=F.kids j hj (fN _ rE) hv q hq
  rcases gA.1 this with e | h
  ·exfalso;obtain ⟨t,et,ht,h2⟩:=g.kid j hj hv q hq;have hs:=(Dd.1 F.srt).1 j rE;rw[jr hk,jr hj] at hs;have pa:fE ar.length l[j]=l[j].var:=by unfold fE;rw[an (by omega)]
   have:∀ (x:Nat) (hx:x < l.length),x=k->l[j].var < fE ar.length l[x]->False:=fun x hx e h=>by
    subst e;omega
   have kg:t=k:=by rw[et,cH] at e;exact e
   exact this t (by omega) kg (h2 (by omega))
  ·exact h
 ·
  have hold:=F.dvd j hj v (fN _ rE) hv
  have key:∀ (L:List (Nat×Nat)) (T':Nat->Nat),(∀ p∈L,p.1=j->PM ar s (ar.length - v) v∣T k / SS ar s u)->PM ar s (ar.length - v) v∣T' j->PM ar s (ar.length - v) v∣kI (T k / SS ar s u) L T' j:=by
   intro L
   induction L with
   | nil=>intro T' _ h;exact h
   | cons p L ih=>
    intro T' hL h;rw[kI];refine ih _ (fun q hq=>hL q (fN _ hq)) ?_;unfold upd
    split
    ·rename_i e;rw[<- e];exact Nat.dvd_add h (Nat.dvd_mul_right_of_dvd (hL p fQ e.symm) _)
    ·exact h
  refine key _ T (fun p hp e=>?_) hold;obtain ⟨a1,hpl,a2⟩:=Xe g hk (by omega) p hp
  have hvb:u < v:=by
   have:∀ (x:Nat) (hx:x < l.length),x=j->l[k].var < fE ar.length l[x]->(u:Int) < v:=fun x hx e h=>by
    subst e;omega
   have:=this _ hpl e a2;omega
  have fZ:v<=ar.length:=by
   unfold fE at hv
   split at hv
   ·have:=(g.var j hj (by omega)).1;omega
   ·omega
  rw[By];refine Nat.dvd_mul_right_of_dvd ?_ _;have:=Dl (ar:=ar) (s:=s) (v - (u+1)) (ar.length - v) (u+1);rw[show v - (u+1)+(ar.length - v)=ar.length - (u+1) by omega,show u+1+(v - (u+1))=v by omega] at this;rw[this];exact Nat.dvd_mul_left _ _
 ·rw[<- BA];exact F.tot
theorem Flow.leaf (g:GoodL ar l) {k:Nat} {R:List Nat} {T:Nat->Nat} {done:Nat} (F:Flow ar s l (k::R) T done) (hk:k < l.length) (hv:l[k].var < 0):Flow ar s l R T (done+T k)/\T k<=PM ar s ar.length 0/\k∉R:=by
 obtain ⟨lR,nA⟩:=uN.1 F.nd;have ht:=F.tot;unfold jD at ht;rw[gg,nk,mI] at ht
 refine ⟨⟨nA,fun j hj=>F.lt j (fN _ hj),(Dd.1 F.srt).2,fun j hj rE sT q hq=>?_,fun j hj v rE=>F.dvd j hj v (fN _ rE),?_⟩,by omega,lR⟩
 ·have:=F.kids j hj (fN _ rE) sT q hq
  rcases gA.1 this with e | h
  ·exfalso;obtain ⟨t,et,qK,h2⟩:=g.kid j hj sT q hq;have hs:=(Dd.1 F.srt).1 j rE;rw[jr hk,jr hj] at hs;have tY:=(g.var j hj sT).1;have pa:fE ar.length l[j]=l[j].var:=by unfold fE;rw[an (by omega)]
   have lO:fE ar.length l[k]=ar.length:=by unfold fE;rw[aj (by omega)]
   omega
  ·exact h
 ·unfold jD;omega
theorem PG (g:GoodL ar l) (h0:∀ v,v < ar.length->0 < SS ar s v) {h:Nat->Nat} {q:Int->Nat} (hh:Ai ar s l h) (hq:∀ (k:Nat) (hk:k < l.length),l[k].var < 0->h k=q l[k].leaf):∀ (R:List Nat) (T:Nat->Nat) (done:Nat),Flow ar s l R T done ->
  jD h T R=((run ar s l R T).map fun p=>p.2 * q p.1).sum
 | [],T,done,F=>rfl
 | k::R,T,done,F=>by
  have hk:=F.lt k fQ;have e:l[k]?=some l[k]:=bM hk;rw[run,e];dsimp only
  by_cases hv:l[k].var < 0
  ·rw[an hv,gg,nk,<- PG g h0 hh hq R T _ (F.leaf g hk hv).1];unfold jD;rw[gg,nk,hq k hk hv]
  ·rw[aj hv];obtain ⟨_,_,_,_,_,F',hp⟩:=F.inner g h0 (u:=l[k].var.toNat) hk (by omega);rw[hp h hh,PG g h0 hh hq R _ _ F']
theorem JI (g:GoodL ar l):∀ (R:List Nat) (T:Nat->Nat),(∀ j∈R,j < l.length)->(run ar s l R T).map Prod.fst=(R.filter fun j=>decide ((l.getD j ⟨0,[],0⟩).var < 0)).map fun j=>(l.getD j ⟨0,[],0⟩).leaf
 | [],T,_=>rfl
 | k::R,T,h=>by
  have hk:=h k fQ;have e:l[k]?=some l[k]:=bM hk;have h':∀ j∈R,j < l.length:=fun j hj=>h j (fN _ hj);rw[run,e];dsimp only;rw[List.filter_cons,jr hk]
  by_cases hv:l[k].var < 0
  ·rw[an hv,eE hv,an rfl,gg,gg,JI g R T h',jr hk]
  ·rw[aj hv,cT hv,aj (by simp),JI g R _ h']
end
end Go.Ab
namespace Go.Ab
def cP (f:Nat->Int) (l:List Nat):Prop:=l.Pairwise fun x y=>f x<=f y
theorem cP.app {f:Nat->Int} {A B:List Nat}:cP f (A++B)↔cP f A/\cP f B/\∀ a∈A,∀ b∈B,f a<=f b:=List.pairwise_append
theorem cP.le_last {f:Nat->Int} {A:List Nat} {y:Nat} (h:cP f (A++[y])):∀ a∈A++[y],f a<=f y:=fun a ha=>by
 rcases iy.1 ha with ha | ha
 ·exact (cP.app.1 h).2.2 a ha y (by simp)
 ·simp at ha;subst ha;exact q8 _
theorem cP.head_le {f:Nat->Int} {A:List Nat} {y:Nat} (h:cP f (y::A)):∀ a∈y::A,f y<=f a:=fun a ha=>by
 rcases gA.1 ha with rfl | ha
 ·exact q8 _
 ·exact (Dd.1 h).1 a ha
theorem cP.put {f:Nat->Int} {x:Nat} {S1 S2:List Nat} (h:cP f (S1++S2)) (h1:∀ a∈S1,f a<=f x) (h2:∀ b∈S2,f x<=f b):cP f (S1++x::S2):=by
 obtain ⟨a1,a2,a3⟩:=cP.app.1 h;refine cP.app.2 ⟨a1,Dd.2 ⟨h2,a2⟩,fun a ha b hb=>?_⟩
 rcases gA.1 hb with rfl | hb
 ·exact h1 a ha
 ·exact a3 a ha b hb
theorem cP.both {f:Nat->Int} {L1 L2 R1 R2 M1 M2:List Nat} (hA:cP f (L1++L2)) (hB:cP f (R1++R2)) (h1:∀ a∈L1,∀ b∈R2,f a<=f b) (h2:∀ a∈R1,∀ b∈L2,f a<=f b)
  (p1:M1.Perm (L1++R1)) (p2:M2.Perm (L2++R2)) (s1:cP f M1) (s2:cP f M2):cP f (M1++M2)/\(M1++M2).Perm ((L1++L2)++(R1++R2)):=by
 constructor
 ·refine cP.app.2 ⟨s1,s2,fun a ha b hb=>?_⟩;have ha:=p1.mem_iff.1 ha;have hb:=p2.mem_iff.1 hb
  rcases iy.1 ha with ha | ha<;>rcases iy.1 hb with hb | hb
  ·exact (cP.app.1 hA).2.2 a ha b hb
  ·exact h1 a ha b hb
  ·exact h2 a ha b hb
  ·exact (cP.app.1 hB).2.2 a ha b hb
 ·refine (p1.append p2).trans ?_;rw[gd,gd];refine C9 L1 ?_;rw[<- gd,<- gd];exact List.Perm.append_right R2 List.perm_append_comm
def Edge (T:Nat->Prop) (lo hi s:Nat):Prop:=lo<=s/\s<=hi/\(s=lo\/T (s - 1))/\(s=hi\/¬ T s)
inductive Runs (f:Nat->Int) (n:Nat):List Nat->Prop
 | last (l:List Nat) (h:l.length<=n) (s:cP f l):Runs f n l
 | more (x l:List Nat) (h:x.length=n) (s:cP f x) (r:Runs f n l):Runs f n (x++l)
inductive Full (f:Nat->Int) (n:Nat):List Nat->Prop
 | nil:Full f n []
 | more (l x:List Nat) (r:Full f n l) (h:x.length=n) (s:cP f x):Full f n (l++x)
theorem Full.runs {f:Nat->Int} {n:Nat} {l:List Nat} (h:Full f n l):∀ q,Runs f n q->Runs f n (l++q):=by
 induction h with
 | nil=>exact fun q h=>h
 | more l x r hx s ih=>
  intro q hq;rw[gd];exact ih _ (.more x q hx s hq)
theorem Runs.one {f:Nat->Int} {n:Nat} {l:List Nat} (h:Runs f n l) (hn:l.length<=n):cP f l:=by
 cases h with
 | last _ _ s=>exact s
 | more x l hx s r=>
  have:l=[]:=ou (by simp at hn;omega);subst this;simpa using s
theorem Runs.two {f:Nat->Int} {n:Nat} {q:List Nat} (h:Runs f n q) (hn:0 < n) (hl:n < q.length):∃ x r,q=x++r/\x.length=n/\cP f x/\Runs f n r:=by
 cases h with
 | last _ h _=>omega
 | more x l hx s r=>exact ⟨x,l,rfl,hx,s,r⟩
end Go.Ab
namespace Go.Ab
noncomputable section
open Go.Proofs.Tryz
end
end Go.Ab
namespace Go.Ab
noncomputable section
open Go.Proofs.Tryz
def K8 (m:af):St:=⟨(bw (aO (aG []))),m⟩
def Hx (x2:AV) (m:af):St:=⟨(aJ (x2::bw (aJ []))),m⟩
def Gz (x8 x9 aH:AV) (m:af) (K:KT):OM:=bX 11 (b6 (c2 (c2 (aB f11)))) 4 (aX (x8::x9::aH::aX (aJ []))) m K
abbrev qbw (K:KT):KT:=bF 11 (c2 (c2 (c2 (aB f11)))) K
abbrev qbx (K:KT):KT:=bu 0 (qbw K)
abbrev Kk (K:KT):KT:=(qbx K)
theorem T11 (a0:AV) (m:af):AC ae 11 [a0] m=(aK false a0).bind fun v1=>(ag .other .gtr v1 (.int .i64 16)).bind fun v2=>aw v2 (some ((.int .i64 2),m)) ((aK false a0).bind fun v3=>Gz a0 v3 (.int .i64 0) m (Kk (aE ae.P f11.results.toList))):=
(bj ae 11 [a0] m (fn:=f11) (c:=aB f11) qiG rfl).trans (by kernel_rfl)
theorem QS (x8 x9 aH:AV) (m:af) (K:KT):Gz x8 x9 aH m K=(ag .other .lss aH x9).bind fun v1=>aw v1 ((aF none x8 aH).bind fun v2=>(ai none m v2).bind fun v3=>(ag .other .lss v3 (.int .i64 1)).bind fun v4=>aw v4 (K .ret (Hx (.int .i64 1) m)) ((ag .other .gtr v3 (.int .i64 64)).bind fun v5=>aw v5 (K .ret (Hx (.int .i64 1) m)) ((ag .other .add aH (.int .i64 1)).bind fun v6=>Gz x8 x9 v6 m K))) (K (.exit 0) (K8 m)):=
(bW (bP _) _ _ _).trans (by kernel_rfl)
theorem qbz (m:af):Kk (aE ae.P f11.results.toList) (.exit 0) (K8  m)=some ((.int .i64 0),m):=by kernel_rfl
theorem qby (x2:AV) (m:af):Kk (aE ae.P f11.results.toList) .ret (Hx x2 m)=some (x2,m):=by kernel_rfl
def R8 (x5:AV) (m:af):St:=⟨(aO (aG (x5::bw []))),m⟩
def Sq (x4:AV) (m:af):St:=⟨(aO (x4::bw (aG []))),m⟩
def GF (x1 x5 x8 x9 aH:AV) (m:af) (K:KT):OM:=bX 12 (b6 (c2 (c2 (aB f12)))) 3 (aG (x1::aJ (aG (x5::aJ (x8::x9::aH::aX (aJ (aG []))))))) m K
abbrev qbU (K:KT):KT:=bF 12 (c2 (c2 (c2 (aB f12)))) K
abbrev qbV (K:KT):KT:=bu 0 (qbU K)
abbrev FT (K:KT):KT:=(qbV K)
theorem T12 (a0 a1:AV) (m:af):AC ae 12 [a0,a1] m=(aK false a0).bind fun v1=>GF a1 (.int .i64 1) a0 v1 (.int .i64 0) m (FT (aE ae.P f12.results.toList)):=
(bj ae 12 [a0,a1] m (fn:=f12) (c:=aB f12) qiP rfl).trans (by kernel_rfl)
theorem QZ (x1 x5 x8 x9 aH:AV) (m:af) (K:KT):GF x1 x5 x8 x9 aH m K=(ag .other .lss aH x9).bind fun v1=>aw v1 ((aF none x8 aH).bind fun v2=>(ai none m v2).bind fun v3=>(ag .other .mul x5 v3).bind fun v4=>(ag .other .gtr v4 x1).bind fun v5=>aw v5 (K .ret (Sq (.int .i64 0) m)) ((ag .other .add aH (.int .i64 1)).bind fun v6=>GF x1 v4 x8 x9 v6 m K)) (K (.exit 0) (R8 x5 m)):=
(bW (bP _) _ _ _).trans (by kernel_rfl)
theorem qbX (x5:AV) (m:af):FT (aE ae.P f12.results.toList) (.exit 0) (R8 x5 m)=some (x5,m):=by kernel_rfl
theorem qbW (x4:AV) (m:af):FT (aE ae.P f12.results.toList) .ret (Sq x4 m)=some (x4,m):=by kernel_rfl
def Sm (m:af):St:=⟨(bw (aX (aJ (aG [])))),m⟩
def Sw (x4:AV) (m:af):St:=⟨(aO (x4::bw (aO (aJ [])))),m⟩
def Ha (x0 x1 aN aV:AV) (m:af) (K:KT):OM:=bX 89 (b6 (c2 (c2 (aB f89)))) 4 (x0::x1::aX (aJ (aN::aV::aX (aO (aG []))))) m K
abbrev qfs (K:KT):KT:=bF 89 (c2 (c2 (c2 (aB f89)))) K
abbrev qft (K:KT):KT:=bu 0 (qfs K)
abbrev Gn (K:KT):KT:=(qft K)
theorem T89 (a0 a1:AV) (m:af):AC ae 89 [a0,a1] m=(aK false a0).bind fun v1=>(aK false a1).bind fun v2=>(ag .other .neq v1 v2).bind fun v3=>aw v3 (some ((.bool false),m)) ((aK false a0).bind fun v4=>Ha a0 a1 v4 (.int .i64 0) m (Gn (aE ae.P f89.results.toList))):=
(bj ae 89 [a0,a1] m (fn:=f89) (c:=aB f89) qkq rfl).trans (by kernel_rfl)
theorem RY (x0 x1 aN aV:AV) (m:af) (K:KT):Ha x0 x1 aN aV m K=(ag .other .lss aV aN).bind fun v1=>aw v1 ((aF (some 3) x0 aV).bind fun v2=>(ai (some 3) m v2).bind fun v3=>(aF (some 3) x1 aV).bind fun v4=>(ai (some 3) m v4).bind fun v5=>(aC (AP ae) (some m.length) m 142 [v3,v5]).bind fun r6=>(jn .not r6.1).bind fun v7=>aw v7 (K .ret (Sw (.bool false) r6.2)) ((ag .other .add aV (.int .i64 1)).bind fun v8=>Ha x0 x1 aN v8 r6.2 K)) (K (.exit 0) (Sm m)):=
(bW (bP _) _ _ _).trans (by kernel_rfl)
theorem qfv (m:af):Gn (aE ae.P f89.results.toList) (.exit 0) (Sm  m)=some ((.bool true),m):=by kernel_rfl
theorem qfu (x4:AV) (m:af):Gn (aE ae.P f89.results.toList) .ret (Sw x4 m)=some (x4,m):=by kernel_rfl
def R9 (m:af):St:=⟨(bA (aX (aO (aG [])))),m⟩
def Sr (x4:AV) (m:af):St:=⟨(aO (x4::bA (aX []))),m⟩
def GK (x2 x3 tp pA:AV) (m:af) (K:KT):OM:=bX 142 (b6 (c2 (c2 (aB f142)))) 4 (aJ (x2::x3::bw (aX (aG (tp::pA::aX (aO (aJ []))))))) m K
abbrev qcm (K:KT):KT:=bF 142 (c2 (c2 (c2 (aB f142)))) K
abbrev qcn (K:KT):KT:=bu 0 (qcm K)
abbrev FV (K:KT):KT:=(qcn K)
theorem qgF (a0 a1:AV) (m:af):AC ae 142 [a0,a1] m=(cS none (some 3) m a0).bind fun r1=>(cS none (some 3) r1.2 a1).bind fun r2=>(aP 0 r1.1).bind fun v3=>(ai none r2.2 v3).bind fun v4=>(aP 0 r2.1).bind fun v5=>(ai none r2.2 v5).bind fun v6=>(ag .other .neq v4 v6).bind fun v7=>aw v7 (some ((.bool false),r2.2)) ((aP 2 r1.1).bind fun v8=>(ai none r2.2 v8).bind fun v9=>(aP 2 r2.1).bind fun v10=>(ai none r2.2 v10).bind fun v11=>(ag .other .neq v9 v11).bind fun v12=>aw v12 (some ((.bool false),r2.2)) ((aP 1 r1.1).bind fun bh=>(ai none r2.2 bh).bind fun bg=>(aK false bg).bind fun bo=>(aP 1 r2.1).bind fun bL=>(ai none r2.2 bL).bind fun bD=>(aK false bD).bind fun dQ=>(ag .other .neq bo dQ).bind fun c8=>aw c8 (some ((.bool false),r2.2)) ((aP 1 r1.1).bind fun v20=>(ai none r2.2 v20).bind fun v21=>(aK false v21).bind fun v22=>GK r1.1 r2.1 v22 (.int .i64 0) r2.2 (FV (aE ae.P f142.results.toList))))):=
(bj ae 142 [a0,a1] m (fn:=f142) (c:=aB f142) qi7 rfl).trans (by kernel_rfl)
theorem Q8 (x2 x3 tp pA:AV) (m:af) (K:KT):GK x2 x3 tp pA m K=(ag .other .lss pA tp).bind fun v1=>aw v1 ((aP 1 x2).bind fun v2=>(ai none m v2).bind fun v3=>(aF none v3 pA).bind fun v4=>(ai none m v4).bind fun v5=>(aP 1 x3).bind fun v6=>(ai none m v6).bind fun v7=>(aF none v7 pA).bind fun v8=>(ai none m v8).bind fun v9=>(ag .other .neq v5 v9).bind fun v10=>aw v10 (K .ret (Sr (.bool false) m)) ((ag .other .add pA (.int .i64 1)).bind fun v11=>GK x2 x3 tp v11 m K)) (K (.exit 0) (R9 m)):=
(bW (bP _) _ _ _).trans (by kernel_rfl)
theorem qcp (m:af):FV (aE ae.P f142.results.toList) (.exit 0) (R9  m)=some ((.bool true),m):=by kernel_rfl
theorem qco (x4:AV) (m:af):FV (aE ae.P f142.results.toList) .ret (Sr x4 m)=some (x4,m):=by kernel_rfl
end
end Go.Ab
namespace Go.Ab
open Go.Proofs Go.Proofs.Tryz
def so (n:Int):Bool:=decide (1<=n/\n<=64)
def oH (ns:List Int):Int:=if ns.length > 16 then 2 else if ns.all so then 0 else 1
theorem Tr (z:Bool) (o:Own) (ns:List Int) (hl:ns.length<=16) (m:af) (K:KT):∀ j i:Nat,i+j=ns.length->Gz (IA z o ns) (.int .i64 ns.length) (.int .i64 i) m K=if (ns.drop i).all so then K (.exit 0) (K8 m) else K .ret (Hx (.int .i64 1) m)
 | 0,i,h=>by
  rw[QS,cW,aa,aA,aj (by omega),jq (by omega)];rfl
 | j+1,i,h=>by
  have hi:i < ns.length:=by omega
  have ih:=Tr z o ns hl m K j (i+1) (by omega);rw[QS,cW,aa,aA,an hi,jY hi,aa,gy,aa,bc,aa,aA,kr hi,oq]
  by_cases h1:ns[i] < 1
  ·rw[an h1,show so ns[i]=false from cT (by omega)];rfl
  ·rw[aj h1,gY,aa,aA]
   by_cases h2:ns[i] > 64
   ·rw[an h2,show so ns[i]=false from cT (by omega)];rfl
   ·rw[aj h2,cr (by omega),aa,ih,show so ns[i]=true from eE (by omega),iN]
theorem V12 (z:Bool) (o:Own) (ns:List Int):AP ae 11 [IA z o ns]=some (.int .i64 (oH ns)):=by
 refine iw (m:=[]) (v:=.int .i64 (oH ns)) (l:=[]) ?_ rfl rfl;unfold oH;rw[T11,iI,aa,show ((16:Int))=((16:Nat):Int) from rfl,BP,aa,aA]
 by_cases h:ns.length > 16
 ·rw[an h,an h]
 ·rw[aj h,aj h,aa,show ((0:Int))=((0:Nat):Int) from rfl,Tr z o ns (by omega) [] _ ns.length 0 (by omega),jI]
  by_cases h2:ns.all so=true
  ·rw[an h2,an h2,qbz];rfl
  ·rw[aj h2,aj h2,qby]
theorem YC (z:Bool) (o:Own) (ns:List Int) (d:Option Nat) (m:af):aC (AP ae) d m 11 [IA z o ns]=some (.int .i64 (oH ns),m):=by
 rw[cG (mc z o ns),V12];rfl
theorem yq {ns:List Int} (h:oH ns=0):ns.length<=16/\∀ a∈ns,1<=a/\a<=64:=by
 unfold oH at h
 split at h
 ·cases h
 ·split at h
  ·rename_i h1 h2;exact ⟨by omega,fun a ha=>by have:=gJ.1 h2 a ha;exact xp this⟩
  ·cases h
def oU (most:Int):Int->List Int->Int
 | acc,[]=>acc
 | acc,n::l=>if acc * n > most then 0 else oU most (acc * n) l
theorem Tv (z:Bool) (o:Own) (ns:List Int) (hl:ns.length<=16) (hb:∀ a∈ns,1<=a/\a<=64) (most:Int) (hm:0<=most/\most<=1048576) (m:af):∀ (j i:Nat) (acc:Int),i+j=ns.length->1<=acc->acc<=most\/acc=1 ->
  GF (.int .i64 most) (.int .i64 acc) (IA z o ns) (.int .i64 ns.length) (.int .i64 i) m (FT (aE ae.P f12.results.toList))=some (.int .i64 (oU most acc (ns.drop i)),m)
 | 0,i,acc,h,h1,h2=>by
  rw[QZ,cW,aa,aA,aj (by omega),jq (by omega),qbX];rfl
 | j+1,i,acc,h,h1,h2=>by
  have hi:i < ns.length:=by omega
  have ha:=hb ns[i] (bI hi);have p1:acc * ns[i]<=1048576 * 64:=Int.mul_le_mul (by omega) ha.2 (by omega) (by omega)
  have p2:1<=acc * ns[i]:=by
   have:=Int.mul_le_mul h1 ha.1 (by omega) (by omega);simpa using this
  rw[QZ,cW,aa,aA,an hi,jY hi,aa,gy,aa,wC,aa,iQ (by omega) (by omega),gY,aa,aA,kr hi,oU]
  by_cases h3:acc * ns[i] > most
  ·rw[an h3,an h3,qbW]
  ·rw[aj h3,aj h3,cr (by omega),aa];exact Tv z o ns hl hb most hm m j (i+1) _ (by omega) p2 (.inl (by omega))
theorem V27 (z:Bool) (o:Own) (ns:List Int) (hl:ns.length<=16) (hb:∀ a∈ns,1<=a/\a<=64) (most:Int) (hm:0<=most/\most<=1048576):AP ae 12 [IA z o ns,.int .i64 most]=some (.int .i64 (oU most 1 ns)):=by
 refine iw (m:=[]) (v:=.int .i64 (oU most 1 ns)) (l:=[]) ?_ rfl rfl;rw[T12,iI,aa,show ((0:Int))=((0:Nat):Int) from rfl,Tv z o ns hl hb most hm [] ns.length 0 1 (by omega) (by omega) (.inr rfl),jI]
theorem Pl (z:Bool) (o:Own) (ns:List Int) (hl:ns.length<=16) (hb:∀ a∈ns,1<=a/\a<=64) (most:Int) (hm:0<=most/\most<=1048576) (d:Option Nat) (m:af):aC (AP ae) d m 12 [IA z o ns,.int .i64 most]=some (.int .i64 (oU most 1 ns),m):=by
 rw[fe (mc z o ns) (fW _ _),V27 z _ ns hl hb most hm];rfl
theorem qiu (m:af) (z:Bool) (o:Own) (ns:List Int) (hl:ns.length<=1000000):∃ o' m',ck none false 3 none 8 m (.lst none false .full []) (IA z o ns)=some (IA false o' ns,m')/\Fr m m' []/\(o'=.full/\ns=[]\/o'=.tok m.length 3):=by
 cases ns with
 | nil=>exact ⟨.full,m,rfl,Fr.refl _ _,.inl ⟨rfl,rfl⟩⟩
 | cons n ns=>
  have hb:(0+(ns.length+1)) * 8<=gS:=by unfold gS;simp at hl;omega
  refine ⟨.tok m.length 3,m++[some (Ent.tok (0+(ns.length+1)) 1)],?_,Fr.app m _ _,.inr rfl⟩;simp only[ck,gg,aQ,aL,cg,hb,bz,or_true,j6,mo,az,bQ,Sh.size]
  rfl
theorem PO (z:Bool) (o:Own) (ns:List Int) (k:IntKind) (i:Nat) (h:i<=ns.length):n5 none (IA z o ns) none (some (.int k i)) none=some (IA z .no (ns.take i)):=by
 simp[n5,qW,jx,h,AI]
def kz (n:ND):Bool:=if n.var < 0 then true else false
def ko (n:ND):Own:=if n.var < 0 then .full else .no
theorem uj {n:ND} (h:n.ok):cE n=IA (kz n) (ko n) n.kids:=by
 unfold cE kz ko
 split
 ·rename_i hv
  rcases h with ⟨_,h2,_⟩ | ⟨h1,_⟩
  ·rw[h2];rfl
  ·omega
 ·rfl
theorem TB {m:af} {b1 b2:Nat} {a1 a2 c1 c2:AV} {z1 z2:Bool} {o1 o2:Own} {k1 k2:List Int} (hb1:m.get b1=some (Ent.obj true [a1,IA z1 o1 k1,c1])) (hb2:m.get b2=some (Ent.obj true [a2,IA z2 o2 k2,c2])) (hl:k1.length=k2.length) (gC:k1.length<=100000):∀ j i:Nat,i+j=k1.length ->
  GK (.ptr b1 0) (.ptr b2 0) (.int .i64 k1.length) (.int .i64 i) m (FV (aE ae.P f142.results.toList))=some (.bool (decide (k1.drop i=k2.drop i)),m)
 | 0,i,h=>by
  rw[Q8,bc,aa,aA,aj (by omega),jq (by omega),jq (by omega),qcp];rfl
 | j+1,i,h=>by
  have hi:i < k1.length:=by omega
  have hi2:i < k2.length:=by omega
  have x1:=jY (z:=z1) (o:=o1) (k:=.i64) hi;have x2:=jY (z:=z2) (o:=o2) (k:=.i64) hi2;have ih:=TB hb1 hb2 hl gC j (i+1) (by omega);rw[Q8,bc,aa,aA,an (by omega)]
  repeat ((with_reducible (first | apply bs | apply dn));(focus (first | (simp (disch:=(first | assumption | omega | (simp only[aI,a8,aL,aQ];first | done | omega))) only[dj,beq_self_eq_true,cK,aa,Sh.size,bz,bJ,Nat.reduceAdd,Nat.reduceLeDiff,aR,hb1,hb2,x1,x2];first | done | rfl) | rfl));try dsimp only)
  rw[aA,kr hi,kr hi2]
  by_cases he:k1[i]=k2[i]
  ·rw[aj (by simpa using he),cr (by omega),aa,ih];congr 3;exact jL.2 (by rw[he];exact ⟨fun e=>by rw[e],fun e=>(List.cons.inj e).2⟩)
  ·rw[an he,qco];congr 3;exact (cT (fun e=>he (List.cons.inj e).1)).symm
theorem Td {a b:ND} (ha:a.ok) (hb:b.ok):AP ae 142 [a.av,b.av]=some (.bool (decide (a=b))):=by
 have oJ:a.av=.agg [.int .i64 a.var,IA (kz a) (ko a) a.kids,.int .i64 a.leaf]:=by rw[ND.av,uj ha]
 have hbv:b.av=.agg [.int .i64 b.var,IA (kz b) (ko b) b.kids,.int .i64 b.leaf]:=by rw[ND.av,uj hb]
 have hl:∀ {n:ND},n.ok->n.kids.length<=64:=fun h=>by
  rcases h with ⟨_,h2,_⟩ | ⟨_,_,_,_,h5⟩
  ·rw[h2];simp
  ·exact h5
 have l1:=hl ha;have l2:=hl hb;rw[oJ,hbv]
 have key:AC ae 142 [.agg [.int .i64 a.var,IA (kz a) (ko a) a.kids,.int .i64 a.leaf],.agg [.int .i64 b.var,IA (kz b) (ko b) b.kids,.int .i64 b.leaf]] []=some (.bool (decide (a=b)),[some (Ent.obj true [.int .i64 a.var,IA (kz a) (ko a) a.kids,.int .i64 a.leaf]),some (Ent.obj true [.int .i64 b.var,IA (kz b) (ko b) b.kids,.int .i64 b.leaf])]):=by
  rw[qgF]
  repeat ((with_reducible (first | apply bs | apply dn));(focus (first | (simp (disch:=(first | assumption | omega | (simp only[aI,a8,aL,aQ];first | done | omega))) only[dj,beq_self_eq_true,cK,aa,Sh.size,bz,bJ,Nat.reduceAdd,Nat.reduceLeDiff,aR,AY,iI];first | done | rfl) | rfl));try dsimp only)
  rw[aA]
  by_cases h1:a.var=b.var
  ·rw[aj (by simpa using h1)]
   repeat ((with_reducible (first | apply bs | apply dn));(focus (first | (simp (disch:=(first | assumption | omega | (simp only[aI,a8,aL,aQ];first | done | omega))) only[dj,beq_self_eq_true,cK,aa,Sh.size,bz,bJ,Nat.reduceAdd,Nat.reduceLeDiff,aR,AY,iI];first | done | rfl) | rfl));try dsimp only)
   rw[aA]
   by_cases h2:a.leaf=b.leaf
   ·rw[aj (by simpa using h2)]
    repeat ((with_reducible (first | apply bs | apply dn));(focus (first | (simp (disch:=(first | assumption | omega | (simp only[aI,a8,aL,aQ];first | done | omega))) only[dj,beq_self_eq_true,cK,aa,Sh.size,bz,bJ,Nat.reduceAdd,Nat.reduceLeDiff,aR,AY,iI];first | done | rfl) | rfl));try dsimp only)
    rw[aA]
    by_cases h3:a.kids.length=b.kids.length
    ·rw[aj (by omega)]
     repeat ((with_reducible (first | apply bs | apply dn));(focus (first | (simp (disch:=(first | assumption | omega | (simp only[aI,a8,aL,aQ];first | done | omega))) only[dj,beq_self_eq_true,cK,aa,Sh.size,bz,bJ,Nat.reduceAdd,Nat.reduceLeDiff,aR,AY,iI];first | done | rfl) | rfl));try dsimp only)
     have w:=TB (m:=[some (Ent.obj true [.int .i64 a.var,IA (kz a) (ko a) a.kids,.int .i64 a.leaf])]++[some (Ent.obj true [.int .i64 b.var,IA (kz b) (ko b) b.kids,.int .i64 b.leaf])]) (b1:=0) (b2:=1) rfl rfl h3 (by omega) a.kids.length 0 (by omega);rw[jI,jI] at w;refine w.trans ?_;congr 3;refine jL.2 ⟨fun e=>?_,fun e=>by rw[e]⟩;obtain ⟨av,ak,al⟩:=a;obtain ⟨bv,bk,bl⟩:=b;simp only at h1 h2 e;rw[h1,h2,e]
    ·rw[an (by omega)];congr 3;exact (cT (fun e=>h3 (by rw[e]))).symm
   ·rw[an h2];congr 3;exact (cT (fun e=>h2 (by rw[e]))).symm
  ·rw[an h1];congr 3;exact (cT (fun e=>h1 (by rw[e]))).symm
 refine iw key rfl rfl
theorem Nd (n:ND):Fz n.av n.av:=fun m=>by
 unfold ND.av cE;split<;>rfl
theorem qoL {a b:ND} (ha:a.ok) (hb:b.ok) (d:Option Nat) (m:af):aC (AP ae) d m 142 [a.av,b.av]=some (.bool (decide (a=b)),m):=by
 rw[fe (Nd a) (Nd b),Td ha hb];rfl
abbrev NL (z:Bool) (o:Own) (l:List ND):AV:=.lst (some 3) z o (l.map ND.av)
theorem Nc (z:Bool) (o:Own) (l:List ND):Fz (NL z o l) (NL z o.fr l):=fun m=>by cases o<;>rfl
theorem BH (z:Bool) (o:Own) (l:List ND):aK false (NL z o l)=some (.int .i64 l.length):=by rw[pn,cg]
theorem zj {z:Bool} {o:Own} {l:List ND} {i:Nat} (hi:i < l.length):aF (some 3) (NL z o l) (.int .i64 i)=some (.vptr [.int .i64 l[i].var,cE l[i],.int .i64 l[i].leaf]):=by
 simp[aF,hi];rfl
theorem BF (m:af) (n:ND):ai (some 3) m (.vptr [.int .i64 n.var,cE n,.int .i64 n.leaf])=some n.av:=rfl
theorem Tu (z1 z2:Bool) (o1 o2:Own) (l1 l2:List ND) (h1:∀ x∈l1,x.ok) (h2:∀ x∈l2,x.ok) (hl:l1.length=l2.length) (gC:l1.length<=100000) (m:af):∀ j i:Nat,i+j=l1.length ->
  Ha (NL z1 o1 l1) (NL z2 o2 l2) (.int .i64 l1.length) (.int .i64 i) m (Gn (aE ae.P f89.results.toList))=some (.bool (decide (l1.drop i=l2.drop i)),m)
 | 0,i,h=>by
  rw[RY,bc,aa,aA,aj (by omega),jq (by omega),jq (by omega),qfv];rfl
 | j+1,i,h=>by
  have hi:i < l1.length:=by omega
  have hi2:i < l2.length:=by omega
  rw[RY,bc,aa,aA,an (by omega),zj hi,aa,BF,aa,zj hi2,aa,BF,aa,qoL (h1 _ (bI hi)) (h2 _ (bI hi2)),aa,n9,aa,kr hi,kr hi2]
  by_cases he:l1[i]=l2[i]
  ·rw[eE he,jU,gO,cr (by omega),aa,Tu z1 z2 o1 o2 l1 l2 h1 h2 hl gC m j (i+1) (by omega)];congr 3;exact jL.2 (by rw[he];exact ⟨fun e=>by rw[e],fun e=>(List.cons.inj e).2⟩)
  ·rw[cT he,nH,iV,qfu];congr 3;exact (cT (fun e=>he (List.cons.inj e).1)).symm
theorem qqF (z1 z2:Bool) (o1 o2:Own) (l1 l2:List ND) (h1:∀ x∈l1,x.ok) (h2:∀ x∈l2,x.ok) (gC:l1.length<=100000):AP ae 89 [NL z1 o1 l1,NL z2 o2 l2]=some (.bool (decide (l1=l2))):=by
 refine iw (m:=[]) (v:=.bool (decide (l1=l2))) (l:=[]) ?_ rfl rfl;rw[T89,BH,aa,BH,aa,gZ,aa,aA]
 by_cases hl:l1.length=l2.length
 ·rw[aj (by omega),aa,show (AV.int .i64 0)=.int .i64 ((0:Nat):Int) from rfl,Tu z1 z2 o1 o2 l1 l2 h1 h2 hl gC [] l1.length 0 (by omega),jI,jI]
 ·rw[an (by omega),cT (fun e=>hl (by rw[e]))]
theorem qoH (z1 z2:Bool) (o1 o2:Own) (l1 l2:List ND) (h1:∀ x∈l1,x.ok) (h2:∀ x∈l2,x.ok) (gC:l1.length<=100000) (d:Option Nat) (m:af):aC (AP ae) d m 89 [NL z1 o1 l1,NL z2 o2 l2]=some (.bool (decide (l1=l2)),m):=by
 rw[fe (Nc z1 o1 l1) (Nc z2 o2 l2),qqF z1 z2 _ _ l1 l2 h1 h2 gC];rfl
end Go.Ab
namespace Go.Ab
open Go.Proofs Go.Proofs.Tryz
theorem ZJ {m:af} {k:Nat} {a b c a' b' c':AV} (h:m.get k=some (Ent.obj true [a,b,c])) (hs:cU (some 3) (.agg [a',b',c'])=true):aM (some 3) m (.ptr k 0) (.agg [a',b',c'])=some (m.set k (some (Ent.obj true [a',b',c']))):=by
 rw[qt,h,kh,aa];simp[cK,Sh.size,hs,bJ,AV.cells]
section
variable {m:af} {s:Nat} {F:List Nat} {arms:AV} {most:Int} {l:List ND}
def Xd (l:List ND):Prop:=∀ n∈l,¬ n.var < 0->n.kids≠[]
theorem A48 (k:Int) (m:af):AC ae 93 [.int .i64 k] m=some (.bool (!so k),m):=by
 rw[T93,bc,aa,aA]
 by_cases h1:k < 1
 ·rw[an h1,so,cT (by omega)];rfl
 ·rw[aj h1,gY,aa,so,<- decide_not];congr 3;exact jL.2 (by omega)
theorem qkX (z:Bool) (ns:List Int) (h:z=true->ns=[]):∃ z' o',yw z ns=IA z' o' ns/\(o'=.no\/o'=.full)/\(z'=true->ns=[]):=by
 cases z with
 | true=>rw[h rfl];exact ⟨true,.full,rfl,.inr rfl,fun _=>rfl⟩
 | false=>
  cases ns with
  | nil=>exact ⟨false,.full,rfl,.inr rfl,fun h=>by cases h⟩
  | cons n ns=>exact ⟨false,.no,rfl,.inl rfl,fun h=>by cases h⟩
theorem Qf (m:af) (z:Bool) (o:Own) (ns:List Int) (hz:z=true->ns=[]) (he:oH ns=0) :
  ∃ m' s F z' o',AC ae 32 [IA z o ns] m=some (.tup [.ptr s 0,.int .i64 0],m')/\c9 m' s F (IA z' o' ns) 4000 []/\Fr m m' []/\(∀ x∈F,m.length<=x):=by
 obtain ⟨h1,h2⟩:=yq he;obtain ⟨m1,e47,f1⟩:=Qi (m:=m) (z:=z) (o:=o) (ks:=ns) (g:=93) (caps:=[]) (p:=fun k=>!so k) (by omega) rfl rfl rfl (fun m1 k _=>⟨m1,A48 k m1,Fr.refl _ _⟩);have ha:ns.all so=true:=gJ.2 fun a ha=>eE (h2 a ha);rw[TW,ha,jU] at e47;obtain ⟨z',o',ec,_,_⟩:=qkX z ns hz;have c49:=fun m=>Pm z o ns (by omega) m;rw[ec] at c49;have l1:=f1.len
 refine ⟨(m1++[some (Ent.mp .str [])])++[some (Ent.obj true [IA z' o' ns,aq,.mref m1.length,.int .i64 4000])],m1.length+1,[m1.length+1,m1.length],z',o',?_,?_,(f1.snoc _).snoc _,?_⟩
 ·have hb:fU (.agg [aq,aq,.nilm,(.int .i64 0)]) [(0,none,IA z' o' ns),(2,none,(.mref m1.length)),(3,none,(.int .i64 4000))]=some (.agg [IA z' o' ns,aq,.mref m1.length,.int .i64 4000]):=rfl;have hx:∀ m,cS none (some 4) m (.agg [IA z' o' ns,aq,.mref m1.length,.int .i64 4000])=some (.ptr m.length 0,m++[some (Ent.obj true [IA z' o' ns,aq,.mref m1.length,.int .i64 4000])]):=fun m=>rfl;rw[T32,iI,aa,gY,aa,aA,aj (by omega),e47,aa,gO]
  repeat ((with_reducible (first | apply bs | apply dn));(focus (first | (simp (disch:=(first | assumption | omega | (simp only[aI,a8,aL,aQ];first | done | omega))) only[dj,beq_self_eq_true,cK,aa,Sh.size,bz,bJ,Nat.reduceAdd,Nat.reduceLeDiff,aR,c49,hb,hx];first | done | rfl) | rfl));try dsimp only)
 ·refine ⟨m1.length,aq,[],⟨(by simp (disch:=(first | assumption | omega | (simp only[aI,a8,aL,aQ];first | done | omega))) only[gR,bU,bG,cw,cL];first | done | rfl),(by simp (disch:=(first | assumption | omega | (simp only[aI,a8,aL,aQ];first | done | omega))) only[gR,bU,bG,cw,cL];first | done | rfl),.none,by simp,by omega,by simp⟩,rfl⟩
 ·intro x hx;simp only[gA,Dc,or_false] at hx;omega
end
inductive NR (e:Nat) (m:af):AV->List ND->List Nat->Prop
 | none:NR e m aq [] []
 | some (t:Nat) (l:List ND) (ht:m.get t=some (.tok l.length 3)):NR e m (.lst (some 3) false (.tok t e) (l.map ND.av)) l [t]
theorem ur {e:Nat} {m m':af} {x:AV} {l:List ND} {T:List Nat} (h:NR e m x l T) (f:∀ k∈T,m'.get k=m.get k):NR e m' x l T:=by
 cases h with
 | none=>exact .none
 | some t l ht=>exact .some t l ((f t (by simp)).trans ht)
theorem uo {e:Nat} {m:af} {x:AV} {l:List ND} {T:List Nat} (h:NR e m x l T):∀ k∈T,k < m.length:=by
 cases h with
 | none=>simp
 | some t l ht=>
   intro k hk;obtain rfl:k=t:=by simpa using hk
   exact bC ht
theorem Pd {e:Nat} {m:af} {x:AV} {l:List ND} {T:List Nat} (h:NR e m x l T):aK false x=some (.int .i64 l.length):=by
 cases h with
 | none=>rfl
 | some t l ht=>rw[pn,cg]
theorem qom {e:Nat} {m:af} {x:AV} {l:List ND} {T:List Nat} (h:NR e m x l T) {i:Nat} (hi:i < l.length):aF (some 3) x (.int .i64 i)=some (.vptr [.int .i64 l[i].var,cE l[i],.int .i64 l[i].leaf]):=by
 cases h with
 | none=>simp at hi
 | some t l ht=>exact zj hi
theorem Um (n:ND):dH (some 3) [n.av]=some (NL false .full [n]):=by
 show dH (some 3) [.agg [.int .i64 n.var,cE n,.int .i64 n.leaf]]=some (.lst (some 3) false .full [.agg [.int .i64 n.var,cE n,.int .i64 n.leaf]]);unfold cE;split<;>rfl
theorem WQ {n:ND}:∀ {l:List ND} {i:Nat} (hi:i < l.length),l[i]=n->(∀ t (ht:t < l.length),t < i->l[t]≠n)->l.idxOf n=i
 | [],i,hi,_,_=>by simp at hi
 | x::l,0,_,h,_=>by
  have h:x=n:=h;rw[h];simp
 | x::l,i+1,hi,h,hne=>by
  have hx:x≠n:=hne 0 (by simp) (by omega)
  rw[List.idxOf_cons,cond_eq_ite,aj (by simpa using hx),WQ (l:=l) (i:=i) (by simpa using hi) (by simpa using h) (fun t ht hti=>by
   have:=hne (t+1) (by simpa using ht) (by omega)
   simpa using this)]
end Go.Ab
namespace Go.Ab
noncomputable section
open Go.Proofs.Tryz
theorem T15 (a0 a1:AV) (m:af):AC ae 15 [a0,a1] m=(AC ae 32 [a0] m).bind fun r1=>(aZ r1.1 0).bind fun v2=>(aZ r1.1 1).bind fun v3=>(ag .other .neq v3 (.int .i64 0)).bind fun v4=>aw v4 (some ((.tup [.nilp,(.int .i64 0),(.bool false)]),r1.2)) ((AC ae 62 [v2,a0,a1,(.int .i64 0)] r1.2).bind fun r5=>(aZ r5.1 0).bind fun v6=>(aZ r5.1 1).bind fun v7=>(ag .other .eql v7 (.int .i64 0)).bind fun v8=>some ((.tup [v2,v6,v8]),r5.2)):=
(bj ae 15 [a0,a1] m (fn:=f15) (c:=aB f15) qjc rfl).trans (by kernel_rfl)
def Sl (x0 x3 aH:AV) (m:af):St:=⟨(x0::aJ (x3::aO (aJ (aH::bA (bw (aX (aO []))))))),m⟩
def qgh (x8 x9:AV) (m:af):St:=⟨(aX (x8::x9::bA (bw (aX (aO (aG [])))))),m⟩
def Az (x0 x1 x2 x3 aH aY aN:AV) (m:af) (K:KT):OM:=bX 62 (b6 (bm (aB f62))) 6 (x0::x1::x2::x3::aO (aJ (aH::aY::aN::bA (bw (aX (aJ [])))))) m K
abbrev qeU (K:KT):KT:=bF 62 (bm (c2 (aB f62))) K
abbrev qeV (K:KT):KT:=bu 0 (qeU K)
abbrev CG (K:KT):KT:=(qeV K)
theorem SL (a0 a1 a2 a3:AV) (m:af):AC ae 62 [a0,a1,a2,a3] m=(aK false a1).bind fun v1=>(ag .other .eql a3 v1).bind fun v2=>aw v2 ((aF none a2 (.int .i64 0)).bind fun v3=>(ai none m v3).bind fun v4=>(AC ae 33 [a0,v4] m).bind fun r5=>(aZ r5.1 0).bind fun v6=>(aZ r5.1 1).bind fun v7=>some ((.tup [v6,v7]),r5.2)) ((aK false a2).bind fun v8=>(aF none a1 a3).bind fun v9=>(ai none m v9).bind fun v10=>(ag .other .quo v8 v10).bind fun v11=>Az a0 a1 a2 a3 aq v11 (.int .i64 0) m (CG (aE ae.P f62.results.toList))):=
(bj ae 62 [a0,a1,a2,a3] m (fn:=f62) (c:=aB f62) qj4 rfl).trans (by kernel_rfl)
theorem RO (x0 x1 x2 x3 aH aY aN:AV) (m:af) (K:KT):Az x0 x1 x2 x3 aH aY aN m K=(aF none x1 x3).bind fun v1=>(ai none m v1).bind fun v2=>(ag .other .lss aN v2).bind fun v3=>aw v3 ((ag .other .mul aN aY).bind fun v4=>(ag .other .add aN (.int .i64 1)).bind fun v5=>(ag .other .mul v5 aY).bind fun v6=>(n5 none x2 (some v4) (some v6) none).bind fun v7=>(ag .other .add x3 (.int .i64 1)).bind fun v8=>(AC ae 62 [x0,x1,v7,v8] m).bind fun r9=>(aZ r9.1 0).bind fun v10=>(aZ r9.1 1).bind fun v11=>(ag .other .neq v11 (.int .i64 0)).bind fun v12=>aw v12 (K .ret (qgh (.int .i64 0) v11 r9.2)) ((dH none [v10]).bind fun bh=>(ck none false 3 none 8 r9.2 aH bh).bind fun jP=>(ag .other .add aN (.int .i64 1)).bind fun bo=>Az x0 x1 x2 x3 jP.1 aY bo jP.2 K)) (K (.exit 0) (Sl x0 x3 aH m)):=
(bW (bP _) _ _ _).trans (by kernel_rfl)
theorem qeW (x0 x3 aH:AV) (m:af):CG (aE ae.P f62.results.toList) (.exit 0) (Sl x0 x3 aH m)=(AC ae 34 [x0,x3,aH] m).bind fun r1=>(aZ r1.1 0).bind fun v2=>(aZ r1.1 1).bind fun v3=>some ((.tup [v2,v3]),r1.2):=by kernel_rfl
def qfZ (aN aW di x79 x80:AV) (m:af) (K:KT):OM:=bX 3 (b6 (bm (bm (bm (aB f3))))) 17 (aX (aO (aN::aG (aW::di::bA (bw (aX (aO (aJ (aG (x79::x80::bA (aX (aG [])))))))))))) m K
abbrev qd7 (K:KT):KT:=bF 3 (bm (bm (bm (c2 (aB f3))))) K
abbrev qd8 (K:KT):KT:=bu 0 (qd7 K)
abbrev qd6 (K:KT):KT:=(qd8 K)
theorem T3 (a0 a1 a2:AV) (m:af):AC ae 3 [a0,a1,a2] m=(aC (AP ae) none m 10 [a0]).bind fun r1=>(aC (AP ae) none r1.2 11 [r1.1]).bind fun r2=>(ag .other .neq r2.1 (.int .i64 0)).bind fun v3=>aw v3 ((aC (AP ae) none r2.2 13 []).bind fun r4=>some (r4.1,r4.2)) ((aC (AP ae) none r2.2 12 [r1.1,(.int .i64 100)]).bind fun r5=>(ag .other .eql r5.1 (.int .i64 0)).bind fun v6=>aw v6 ((aC (AP ae) none r5.2 13 []).bind fun r7=>some (r7.1,r7.2)) ((aC (AP ae) none r5.2 14 [r1.1,a1]).bind fun r8=>(AC ae 15 [r1.1,r8.1] r8.2).bind fun r9=>(aZ r9.1 0).bind fun v10=>(aZ r9.1 1).bind fun v11=>(aZ r9.1 2).bind fun v12=>(jn .not v12).bind fun bh=>aw bh (some ((.bool false),r9.2)) ((aC (AP ae) none r9.2 16 [r1.1,a2]).bind fun jP=>(AC ae 17 [v10,v11,jP.1] jP.2).bind fun mD=>(aZ mD.1 0).bind fun bL=>(aZ mD.1 1).bind fun bD=>(aC (AP ae) none mD.2 18 [r1.1,jP.1]).bind fun gQ=>(jn .not gQ.1).bind fun c8=>aw c8 ((ag .other .eql bD (.int .i64 1)).bind fun v20=>aw v20 ((aK false bL).bind fun v21=>(ag .other .eql v21 (.int .i64 0)).bind fun v22=>aw v22 ((aC (AP ae) none gQ.2 13 []).bind fun lh=>some (lh.1,lh.2)) (some ((.bool false),gQ.2))) (some ((.bool false),gQ.2))) ((aC (AP ae) none gQ.2 19 [r1.1,r8.1,jP.1]).bind fun mE=>(aC (AP ae) none mE.2 20 []).bind fun mY=>(aM (some 3) (az none mY.2 (.obj true [(.bool false),aq,aq])).2 (.ptr (az none mY.2 .resv).1 0) mY.1).bind fun m26=>(ag .other .neq bD (.int .i64 0)).bind fun jt=>aw jt (some ((.bool false),m26)) ((aK false bL).bind fun v28=>(aK false mE.1).bind fun jS=>(ag .other .neq v28 jS).bind fun v30=>aw v30 (some ((.bool false),m26)) ((aK false bL).bind fun v31=>qfZ bL mE.1 (.ptr (az none mY.2 .resv).1 0) v31 (.int .i64 0) m26 (qd6 (aE ae.P f3.results.toList)))))))):=
(bj ae 3 [a0,a1,a2] m (fn:=f3) (c:=aB f3) at3 rfl).trans (by kernel_rfl)
end
end Go.Ab
namespace Go.Ab
open Go.Proofs Go.Proofs.Tryz
theorem X7 {tk:TK} {a b:Nat} (h:b≠0):ag tk .rem (.int .i64 a) (.int .i64 b)=some (.int .i64 (a % b:Nat)):=by
 have e:ag tk .rem (.int .i64 a) (.int .i64 b)=if (b:Int)=0 then none else some (.int .i64 ((a:Int).tmod b)):=by cases tk<;>rfl
 rw[e,aj (by omega)]
 rfl
theorem X6 {tk:TK} {a b:Nat} (h:b≠0) (h':a < 9223372036854775808):ag tk .quo (.int .i64 a) (.int .i64 b)=some (.int .i64 (a / b:Nat)):=by
 have e:ag tk .quo (.int .i64 a) (.int .i64 b)=if (b:Int)=0 then none else some (.int .i64 (IntKind.wrap .i64 ((a:Int).tdiv b))):=by cases tk<;>rfl
 rw[e,aj (by omega)];have e2:(a:Int).tdiv b=((a / b:Nat):Int):=rfl;have:=AM a b;rw[e2];generalize a / b=q at *;rw[iQ (by omega) (by omega)]
theorem BQ {tk:TK} {a b:Nat} (h:a * b < 9223372036854775808):ag tk .mul (.int .i64 a) (.int .i64 b)=some (.int .i64 (a * b:Nat)):=by
 rw[wC,<- rX];generalize a * b=q at *;rw[iQ (by omega) (by omega)]
inductive GR (e:Nat) (m:af):AV->List AV->List Nat->Prop
 | none:GR e m aq [] []
 | some (t:Nat) (es:List AV) (ht:m.get t=some (.tok es.length 1)) (hne:es≠[]):GR e m (.lst none false (.tok t e) es) es [t]
theorem D1 {e:Nat} {m m':af} {x:AV} {l:List AV} {T:List Nat} (h:GR e m x l T) (f:∀ k∈T,m'.get k=m.get k):GR e m' x l T:=by
 cases h with
 | none=>exact .none
 | some t l ht hne=>exact .some t l ((f t (by simp)).trans ht) hne
theorem Bf {e:Nat} {m:af} {x:AV} {l:List AV} {T:List Nat} (h:GR e m x l T):∀ k∈T,k < m.length:=by
 cases h with
 | none=>simp
 | some t l ht _=>
  intro k hk;obtain rfl:k=t:=by simpa using hk
  exact bC ht
theorem D2 {e:Nat} {m:af} {x:AV} {l:List AV} {T:List Nat} (h:GR e m x l T):∃ z o,x=.lst none z o l/\(z=true->l=[]):=by
 cases h with
 | none=>exact ⟨true,.full,rfl,fun _=>rfl⟩
 | some t l ht _=>exact ⟨false,.tok t e,rfl,fun h=>by cases h⟩
theorem Be {e b:Nat} {m:af} {x:AV} {l:List AV} {T:List Nat} (h:GR e m x l T) (hl:l.length < 1000000) (hb:b<=64) (y:AV):∃ x' m' T',ck none false e none b m x (.lst none false .full [y])=some (x',m')/\GR e m' x' (l++[y]) T'/\Fr m m' T/\Gr m T T':=by
 have h2:(l.length+1) * b<=gS:=by
  have:=sj (show l.length+1<=1000000 by omega) hb;unfold gS;omega
 cases h with
 | none=>
  refine ⟨.lst none false (.tok m.length e) [y],m++[some (Ent.tok 1 1)],[m.length],?_,.some _ [y] (by simp (disch:=(first | assumption | omega | (simp only[aI,a8,aL,aQ];first | done | omega))) only[gR,bU,bG,cw,cL];first | done | rfl) (by simp),Fr.app m _ _,fun k hk=>?_⟩
  ·have h2:b<=gS:=by simpa using h2
   simp[ck,h2,az,Sh.size]
  ·obtain rfl:k=m.length:=by simpa using hk
   exact .inr (aR _)
 | some t es ht _=>
  have gE:=bC ht
  refine ⟨.lst none false (.tok t e) (l++[y]),m.set t (some (Ent.tok (l.length+1) 1)),[t],?_,?_,(Fr.refl m [t]).set _ (.inl (by simp)),Gr.refl _ _⟩
  ·simp[ck,ht,Sh.size,h2]
  ·refine .some t (l++[y]) ?_ (by simp);rw[cL rfl gE,aI];rfl
theorem YM {most:Int}:∀ (l:List Int) (acc:Int),(∀ a∈l,1<=a)->1<=acc->acc<=most->oU most acc l≠0->oU most acc l=acc * cu l/\acc * cu l<=most
 | [],acc,_,h1,h2,_=>by simp only[oU,cu];omega
 | n::l,acc,hl,h1,h2,h=>by
  rw[oU] at h ⊢;have hn:=hl n fQ
  by_cases hg:acc * n > most
  ·rw[an hg] at h;exact absurd rfl h
  ·rw[aj hg] at h ⊢;have hp:1<=acc * n:=by have:=Int.mul_le_mul h1 hn (by omega) (by omega);simpa using this
   have e:=YM l (acc * n) (fun a ha=>hl a (fN _ ha)) hp (by omega) h
   have e2:acc * ((cu (n::l):Nat):Int)=acc * n * cu l:=by
    rw[cu,rX,Int.toNat_of_nonneg (by omega),Int.mul_assoc]
   rw[e2];exact e
theorem Pu {l:List Int} (h:∀ a∈l,1<=a):1<=cu l:=by
 induction l with
 | nil=>exact aR _
 | cons n l ih=>
  rw[cu];have h1:=h n fQ;exact Nat.mul_pos (by omega) (ih fun a ha=>h a (fN _ ha))
theorem MI (z:Bool) (o:Own) (t:List Int) (k:IntKind) {n i:Nat} (h:(i+1) * n<=t.length):n5 none (IA z o t) (some (.int k (i * n:Nat))) (some (.int k ((i+1) * n:Nat))) none=some (IA z .no (part t n i)):=by
 have h2:i * n<=(i+1) * n:=iS _ (by omega);have e:(i+1) * n - i * n=n:=by rw[im,rl];omega
 have e2:part t n i=(t.take ((i+1) * n)).drop (i * n):=by rw[List.drop_take,e];rfl
 rw[e2]
 have e3:n5 none (IA z o t) (some (.int k (i * n:Nat))) (some (.int k ((i+1) * n:Nat))) none=(jx (List.map (AV.int .i64) t).length (some (.int k ((i+1) * n:Nat))) (List.map (AV.int .i64) t).length).bind fun h=>(jx h (some (.int k (i * n:Nat))) 0).bind fun l=>some (.lst none z .no (((List.map (AV.int .i64) t).take h).drop l)):=by
  have e4:∀ (es:List AV) (x y:Option AV),n5 none (.lst none z o es) x y none=if (none:Sh)=none\/es=[] then (jx es.length y es.length).bind fun h=>(jx h x 0).bind fun l=>some (.lst none z .no ((es.take h).drop l)) else none:=fun _ _ _=>rfl
  rw[e4,an (.inl rfl)]
 rw[e3]
 have b1:jx (List.map (AV.int .i64) t).length (some (.int k ((i+1) * n:Nat))) (List.map (AV.int .i64) t).length=some ((i+1) * n):=by
  simp only[jx,cg];rw[an ⟨by omega,by omega⟩,cH]
 have b2:jx ((i+1) * n) (some (.int k (i * n:Nat))) 0=some (i * n):=by
  simp only[jx];rw[an ⟨by omega,by omega⟩,cH]
 rw[b1,aa,b2,aa,<- AI,<- List.map_drop]
def Qs (s:Nat) (zs za:Bool) (os oa:Own) (ar:List Int) (v n:Nat):Prop:=
 ∀ (m:af) (F:List Nat) (l:List ND) (t:List Int) (z:Bool) (o:Own),c9 m s F (IA zs os ar) 4000 l->GoodL ar l->t.length=n->(∀ x∈t,0<=x/\x<=4)->l.length+2 * n<=4000->∃ (m':af) (F':List Nat) (r:List ND) (id:Nat),AC ae 62 [.ptr s 0,IA za oa ar,IA z o t,.int .i64 v] m=some (.tup [.int .i64 (id:Nat),.int .i64 0],m') /\
  c9 m' s F' (IA zs os ar) 4000 (l++r)/\GoodL ar (l++r)/\TabV ar (l++r) id v t/\r.length+1<=2 * t.length/\Fr m m' F/\Gr m F F'
theorem qhZ {s:Nat} {zs za z:Bool} {os oa o:Own} {ar t:List Int} {v n a:Nat} (hv:v < ar.length) (ha:ar[v]=(a:Int)) (h1:∀ x∈ar,1<=x/\x<=64) (fV:ar.length<=16) (ht:t.length=a * n) (hn:n=cu (ar.drop (v+1))) (kf:1<=n) (gE:t.length<=300) (hx:∀ x∈t,0<=x/\x<=4)
  {l0:List ND} (vq:l0.length+2 * t.length<=4000) {m0:af} {F0:List Nat} (ih:Qs s zs za os oa ar (v+1) n) :
  ∀ (j k:Nat) (m:af) (F:List Nat) (R:List ND) (ids:List Nat) (x:AV) (T:List Nat),k+j=a->c9 m s F (IA zs os ar) 4000 (l0++R)->GoodL ar (l0++R)->ids.length=k->(∀ i (h:i < ids.length),TabV ar (l0++R) ids[i] (v+1) (part t n i))->R.length+k<=2 * n * k ->
   GR 3 m x ((ids.map Int.ofNat).map (AV.int .i64)) T->(∀ y∈T,y∉F/\m0.length<=y)->Fr m0 m F0->Gr m0 F0 F ->
   ∃ (m':af) (F':List Nat) (r:List ND) (id:Nat),Az (.ptr s 0) (IA za oa ar) (IA z o t) (.int .i64 v) x (.int .i64 n) (.int .i64 k) m (CG (aE ae.P f62.results.toList))=some (.tup [.int .i64 (id:Nat),.int .i64 0],m') /\
    c9 m' s F' (IA zs os ar) 4000 (l0++r)/\GoodL ar (l0++r)/\TabV ar (l0++r) id v t/\r.length+1<=2 * t.length/\Fr m0 m' F0/\Gr m0 F0 F':=by
 have mf:=h1 _ (bI hv);have aU:ar.getD v 0=(a:Int):=by rw[aT,bM hv,eh,ha]
 have gK:aF none (IA za oa ar) (.int .i64 v)=some (.vptr [.int .i64 a]):=by rw[jY hv,ha]
 intro j
 induction j with
 | zero=>
  intro k m F R ids x T hk h g vk htab hR iu hT f gr;obtain rfl:k=a:=by omega
  obtain ⟨xz,xo,rfl,hxz⟩:=D2 iu;have hb:R.length+k<=2 * t.length:=by rw[ht,cO k n,<- fF];exact hR
  have bS:∀ i∈ids,∃ h:i < (l0++R).length,(v:Int) < fE ar.length (l0++R)[i]:=fun i hi=>by
   obtain ⟨q,hq,e⟩:=qB hi;have:=htab q hq;rw[e] at this;exact ⟨this.lt,by have:=this.top this.lt;omega⟩
  have dd:(l0++R).length < 4000:=by rw[aI];omega
  obtain ⟨r1,id,er,Wx,w7,g2,tv⟩:=qp7 g h1 fV hv (ks:=ids) (t:=t) (by rw[vk,aU]) (by rw[ht,xu hv,aU,hn];rfl) (fun q hq=>by rw[<- hn];exact htab q hq) (by omega)
  have mk:vG ar (l0++R) v (ids.map Int.ofNat)=(((id:Int),0),(l0++R)++r1):=by
   unfold vG;rw[an,er];refine ⟨by omega,by omega,by rw[cH,aU,cg,vk],gJ.2 fun q hq=>?_⟩;obtain ⟨i,hi,rfl⟩:=iY.1 hq;obtain ⟨hi1,hi2⟩:=bS i hi;unfold ui;simp only[cn,pJ];refine ⟨⟨rY i,show (i:Int) < ((l0++R).length:Nat) by omega⟩,?_⟩;have:(Int.ofNat i).toNat=i:=rfl;rw[this,aT,bM hi1,eh];exact hi2
  obtain ⟨m2,F2,e17,k1,k2,k3⟩:=A17 (kz:=xz) (ko:=xo) (ks:=ids.map Int.ofNat) h v (fun hh=>AH.1 (hxz hh)) h1 fV (by rw[cg];omega) (by omega) (by omega);rw[mk] at e17 k1;have e17:AC ae 34 [.ptr s 0,.int .i64 v,.lst none xz xo ((ids.map Int.ofNat).map (AV.int .i64))] m=_:=e17
  refine ⟨m2,F2,R++r1,id,?_,by rw[<- gd];exact k1,by rw[<- gd];exact g2,by rw[<- gd];exact tv,?_,Fr.trans f k2 gr,Gr.trans f.len gr k3⟩
  ·rw[RO,gK,aa,gy,aa,cW,aa,aA,aj (by omega),qeW,e17,aa]
   rfl
  ·rw[aI]
   by_cases hk1:ids.length=1
   ·rw[w7 hk1];simp;omega
   ·omega
 | succ j ihj=>
  intro k m F R ids x T hk h g vk htab hR iu hT f gr;have vo:k < a:=by omega
  have sM:(k+1) * n<=t.length:=by rw[ht];exact iS _ (by omega)
  have Wc:k * n<=(k+1) * n:=iS _ (by omega);have hpl:(part t n k).length=n:=part_len ht vo
  have Vu:R.length+k+2 * n<=2 * t.length:=by
   have:2 * n * k+2 * n<=2 * t.length:=by
    have e:2 * n * k+2 * n=2 * ((k+1) * n):=by rw[im,rl,gB,fF,cO n k]
    omega
   omega
  obtain ⟨m1,F1,r1,id,e30,k1,k2,k3,k4,k5,k6⟩:=ih m F (l0++R) (part t n k) z .no h g hpl (fun y hy=>hx y (qoE y hy)) (by rw[aI];omega);rw[hpl] at k4;have g1:GR 3 m1 x ((ids.map Int.ofNat).map (AV.int .i64)) T:=D1 iu fun y hy=>k5.get y (Bf iu y hy) (hT y hy).1;obtain ⟨x2,m2,T2,ea,g2,f2,gg2⟩:=Be (b:=8) g1 (by simp;omega) (by omega) (.int .i64 (id:Nat))
  have Vx:∀ y∈T,y∉F1:=fun y hy hF=>by
   rcases k6 y hF with hh | hh
   ·exact (hT y hy).1 hh
   ·have:=Bf iu y hy;omega
  have st2:c9 m2 s F1 (IA zs os ar) 4000 (l0++(R++r1)):=by
   rw[<- gd];exact k1.fr f2 fun y hy hT'=>Vx y hT' hy
  have e0:Az (.ptr s 0) (IA za oa ar) (IA z o t) (.int .i64 v) x (.int .i64 n) (.int .i64 k) m (CG (aE ae.P f62.results.toList))=Az (.ptr s 0) (IA za oa ar) (IA z o t) (.int .i64 v) x2 (.int .i64 n) (.int .i64 (k+1:Nat)) m2 (CG (aE ae.P f62.results.toList)):=by
   rw[RO,gK,aa,gy,aa,cW,aa,aA,an vo,BQ (by omega),aa,cr (by omega),aa,BQ (by omega),aa,MI z o t .i64 sM,aa,cr (by omega),aa,e30,aa,kL,aa,kM,aa,gZ,aa,aA,aj (by simp),ry,aa,ea,aa,aa]
  rw[e0]
  refine ihj (k+1) m2 F1 (R++r1) (ids++[id]) x2 T2 (by omega) st2 (by rw[<- gd];exact k2) (by simp[vk]) (fun i hi=>?_) ?_ (by rw[lA,lA];exact g2) (fun y hy=>?_) (Fr.trans (Fr.trans f k5 gr) f2 fun y hy=>.inr (hT y hy).2) (Gr.trans f.len gr k6)
  ·rw[<- gd]
   by_cases hi2:i < ids.length
   ·rw[List.getElem_append_left hi2];exact (htab i hi2).app g r1
   ·have:i=ids.length:=by simp at hi;omega
    subst this;have e:(ids++[id])[ids.length]'(by simp)=id:=by simp
    rw[e,vk];exact k3
  ·rw[aI,gB,mI];omega
  ·rcases gg2 y hy with hh | hh
   ·exact ⟨Vx y hh,(hT y hh).2⟩
   ·have l1:=f.len;have l2:=k5.len;exact ⟨fun hF=>by have:=k1.lt y hF;omega,by omega⟩
theorem A30 {s:Nat} {zs za:Bool} {os oa:Own} {ar:List Int} (h1:∀ x∈ar,1<=x/\x<=64) (fV:ar.length<=16) (hp:cu ar<=300):∀ (d v:Nat),v+d=ar.length->cu (ar.drop v)<=300->Qs s zs za os oa ar v (cu (ar.drop v)):=by
 intro d
 induction d with
 | zero=>
  intro v hv w6 m F l t z o h g ht hx hl;obtain rfl:v=ar.length:=by omega
  rw[List.drop_length] at ht hl;have ht:t.length=1:=ht;obtain ⟨y,rfl⟩:∃ y,t=[y]:=List.length_eq_one_iff.1 ht;have hy:=hx y (by simp);have hl:l.length+2<=4000:=hl;obtain ⟨r,er,hr,g2,tv⟩:=Xn g (x:=y) ⟨hy.1,by omega⟩;obtain ⟨m2,F2,e15,k1,k2,k3⟩:=A15 h y (by omega) (by omega);rw[xh,an ⟨hy.1,by omega⟩] at e15 k1;dsimp only at e15 k1;rw[er] at k1;refine ⟨m2,F2,r,_,?_,k1,g2,tv,by simp;omega,k2,k3⟩;rw[SL,iI,aa,EU,aa,aA,an rfl,EJ (by simp),aa,gy,aa];have e15:AC ae 33 [.ptr s 0,.int .i64 [y][0]] m=_:=e15;rw[e15,aa]
  rfl
 | succ d ih=>
  intro v hv w6 m F l t z o h g ht hx hl;have fZ:v < ar.length:=by omega
  have mf:=h1 _ (bI fZ);obtain ⟨a,ha⟩:=oW (by omega:0<=ar[v]);have aU:ar.getD v 0=(a:Int):=by rw[aT,bM fZ,eh,ha]
  have sQ:cu (ar.drop v)=a * cu (ar.drop (v+1)):=by rw[xu fZ,aU];rfl
  have kf:1<=cu (ar.drop (v+1)):=Pu fun x hx=>(h1 x (List.drop_subset _ _ hx)).1
  have hle:cu (ar.drop (v+1))<=cu (ar.drop v):=by
   rw[sQ];exact Nat.le_mul_of_pos_left _ (by omega)
  have ihv:=ih (v+1) (by omega) (by omega);have zc:t.length=a * cu (ar.drop (v+1)):=by rw[ht,sQ]
  obtain ⟨m',F',r,id,e,k⟩:=qhZ (z:=z) (o:=o) (m0:=m) (F0:=F) fZ ha h1 fV zc rfl kf (by omega) hx (l0:=l) (by omega) ihv a 0 m F [] [] aq [] (by omega) (by rw[bY];exact h) (by rw[bY];exact g) rfl (fun i hi=>by simp at hi) (by simp) .none (by simp) (Fr.refl _ _) (Gr.refl _ _);refine ⟨m',F',r,id,?_,k⟩;have gK:aF none (IA za oa ar) (.int .i64 v)=some (.vptr [.int .i64 a]):=by rw[jY fZ,ha]
  have hdiv:t.length / a=cu (ar.drop (v+1)):=by rw[zc,Nat.mul_div_cancel_left _ (by omega)]
  rw[SL,iI,aa,EU,aa,aA,aj (by omega),iI,aa,gK,aa,gy,aa,X6 (by omega) (by omega),aa,hdiv];exact e
theorem A29 {za z:Bool} {oa o:Own} {ar t:List Int} (m:af) (hz:za=true->ar=[]) (he:oH ar=0) (hp:cu ar<=300) (ht:t.length=cu ar) (hx:∀ x∈t,0<=x/\x<=4) :
  ∃ m' s F zs os l id,AC ae 15 [IA za oa ar,IA z o t] m=some (.tup [.ptr s 0,.int .i64 (id:Nat),.bool true],m')/\c9 m' s F (IA zs os ar) 4000 l/\GoodL ar l/\TabV ar l id 0 t/\l.length<=600/\Fr m m' []/\∀ x∈F,m.length<=x:=by
 obtain ⟨h1,h2⟩:=yq he;obtain ⟨m1,s,F,zs,os,e14,st,f1,hF⟩:=Qf m za oa ar hz he;obtain ⟨m2,F2,r,id,e30,k1,k2,k3,k4,k5,k6⟩:=A30 (s:=s) (zs:=zs) (za:=za) (os:=os) (oa:=oa) h2 h1 hp ar.length 0 (by omega) hp m1 F [] t z o st Nn ht hx (by simp;have:cu (ar.drop 0)=cu ar:=rfl;omega);rw[bQ] at k1 k2 k3;have e30:AC ae 62 [.ptr s 0,IA za oa ar,IA z o t,.int .i64 0] m1=_:=e30
 refine ⟨m2,s,F2,zs,os,r,id,?_,k1,k2,k3,by omega,(Fr.trans f1 k5 fun x hx=>.inr (hF x hx)),fun x hx=>?_⟩
 ·rw[T15,e14,aa,kL,aa,kM,aa,gZ,aa,aA,aj (by simp),e30,aa]
  rfl
 ·rcases k6 x hx with hh | hh
  ·exact hF x hh
  ·have:=f1.len;omega
end Go.Ab
