/- The settings of the interpreter for this seat. -/
import Derived.Test.YtiipgpkgcdhbfaaGreatDoorProg
import Derived.Test.YtiipgpkgcdhbfaaGreatDoorFP1
set_option maxRecDepth 100000
set_option linter.unusedVariables false
set_option linter.unusedSimpArgs false
set_option linter.unusedSectionVars false
namespace Go.Ab
abbrev tO:ByteArray:=⟨⟨[0,1,2,2,3,3,3,3,4,4,4,4,4,4,4,4,5,5,5,5,5,5,5,5,5,5,5,5,5,5,5,5,6,6,6,6,6,6,6,6,6,6,6,6,6,6,6,6,6,6,6,6,6,6,6,6,6,6,6,6,6,6,6,6,7,7,7,7,7,7,7,7,7,7,7,7,7,7,7,7,7,7,7,7,7,7,7,7,7,7,7,7,7,7,7,7,7,7,7,7,7,7,7,7,7,7,7,7,7,7,7,7,7,7,7,7,7,7,7,7,7,7,7,7,7,7,7,7,8,8,8,8,8,8,8,8,8,8,8,8,8,8,8,8,8,8,8,8,8,8,8,8,8,8,8,8,8,8,8,8,8,8,8,8,8,8,8,8,8,8,8,8,8,8,8,8,8,8,8,8,8,8,8,8,8,8,8,8,8,8,8,8,8,8,8,8,8,8,8,8,8,8,8,8,8,8,8,8,8,8,8,8,8,8,8,8,8,8,8,8,8,8,8,8,8,8,8,8,8,8,8,8,8,8,8,8,8,8,8,8,8,8,8,8,8,8,8,8,8,8,8,8,8,8,8,8]⟩⟩
open Go.Proofs.Tryz
def an:Nat->Nat->List Bool
 | 0,_=>[]
 | n+1,x=>Nat.beq (x%2) 1::an n (x/2)
def mM3(n a b c:Nat):Masks:=⟨an n a,an n b,an n c⟩
def qbv:List (Nat×Nat×Masks):=[(3,17,⟨(an 122 1813388729421943762112512),(an 122 32768),(an 122 64)⟩),
 (4,19,⟨(an 186 72692156019487586799426948609895424),(an 186 814080),(an 186 256)⟩),
 (4,28,⟨(an 186 137015778499772148581595453067151533092764647424),(an 186 0),(an 186 256)⟩),
 (5,9,⟨(an 196 2115620184325601055735810),(an 196 0),(an 196 16)⟩),
 (5,25,⟨(an 196 670466799128826375531776824380375888017523967011062274),(an 196 2115620184325601055736322),(an 196 16)⟩),
 (7,15,⟨(an 105 2066035336255470798344),(an 105 1015808),(an 105 256)⟩),
 (9,13,⟨(an 152 252201579132804104),(an 152 49160),(an 152 256)⟩),
 (10,4,⟨(an 29 8),(an 29 8),(an 29 4)⟩),
 (11,4,⟨(an 21 1792),(an 21 0),(an 21 4)⟩),
 (12,3,⟨(an 22 1826),(an 22 32),(an 22 16)⟩),
 (14,3,⟨(an 32 99),(an 32 32),(an 32 16)⟩),
 (16,4,⟨(an 45 28770),(an 45 32),(an 45 16)⟩),
 (16,8,⟨(an 45 30562),(an 45 29282),(an 45 16)⟩),
 (17,11,⟨(an 123 31525197391598860),(an 123 4352),(an 123 192)⟩),
 (17,17,⟨(an 123 528905077606597655631116),(an 123 31525197391598860),(an 123 192)⟩),
 (17,28,⟨(an 123 1135814937804493543741046076215296),(an 123 4194304),(an 123 192)⟩),
 (18,4,⟨(an 50 229377),(an 50 0),(an 50 16)⟩),
 (18,8,⟨(an 50 29589729),(an 50 229601),(an 50 16)⟩),
 (19,3,⟨(an 49 114823),(an 49 128),(an 49 64)⟩),
 (19,7,⟨(an 49 29476487),(an 49 116359),(an 49 64)⟩),
 (24,7,⟨(an 72 481036337713),(an 72 561),(an 72 448)⟩),
 (25,5,⟨(an 37 114722),(an 37 0),(an 37 16)⟩),
 (26,3,⟨(an 68 918279),(an 68 775),(an 68 192)⟩),
 (26,8,⟨(an 68 30064771847),(an 68 768),(an 68 192)⟩),
 (26,12,⟨(an 68 15423227585287),(an 68 30064788231),(an 68 192)⟩),
 (27,4,⟨(an 26 12291),(an 26 0),(an 26 16)⟩),
 (36,6,⟨(an 85 469762055),(an 85 7),(an 85 192)⟩),
 (36,11,⟨(an 85 7),(an 85 3),(an 85 192)⟩),
 (43,8,⟨(an 77 29360321),(an 77 128),(an 77 48)⟩),
 (43,13,⟨(an 77 504403158294856897),(an 77 29361345),(an 77 48)⟩),
 (45,4,⟨(an 29 8),(an 29 8),(an 29 4)⟩),
 (47,3,⟨(an 32 99),(an 32 32),(an 32 16)⟩),
 (48,4,⟨(an 45 28770),(an 45 32),(an 45 16)⟩),
 (48,8,⟨(an 45 30562),(an 45 29282),(an 45 16)⟩),
 (49,6,⟨(an 44 58720896),(an 44 640),(an 44 112)⟩),
 (50,9,⟨(an 65 246290604626184),(an 65 4352),(an 65 768)⟩),
 (51,3,⟨(an 119 28716),(an 119 44),(an 119 16)⟩),
 (51,10,⟨(an 119 108086391056891916),(an 119 12),(an 119 16)⟩),
 (51,16,⟨(an 119 56668397794435742564364),(an 119 0),(an 119 16)⟩),
 (51,21,⟨(an 119 237684544211190807216374415884),(an 119 56668397794435742564364),(an 119 16)⟩),
 (52,3,⟨(an 33 49344),(an 33 192),(an 33 64)⟩),
 (53,4,⟨(an 47 28678),(an 47 6),(an 47 28)⟩),
 (54,3,⟨(an 18 25),(an 18 8),(an 18 4)⟩),
 (55,3,⟨(an 48 114738),(an 48 48),(an 48 16)⟩),
 (55,7,⟨(an 48 14795250),(an 48 115186),(an 48 16)⟩),
 (58,2,⟨(an 45 9),(an 45 0),(an 45 4)⟩),
 (58,4,⟨(an 45 1849),(an 45 57),(an 45 4)⟩),
 (59,3,⟨(an 88 234881054),(an 88 30),(an 88 12)⟩),
 (59,8,⟨(an 88 123145302310942),(an 88 30),(an 88 12)⟩),
 (60,3,⟨(an 57 7177),(an 57 8),(an 57 4)⟩),
 (61,3,⟨(an 67 7177),(an 67 8),(an 67 4)⟩),
 (62,6,⟨(an 71 7183),(an 71 1033),(an 71 768)⟩),
 (63,4,⟨(an 50 229377),(an 50 0),(an 50 16)⟩),
 (63,8,⟨(an 50 29589729),(an 50 229601),(an 50 16)⟩),
 (70,3,⟨(an 30 7219),(an 30 51),(an 30 16)⟩),
 (75,4,⟨(an 73 99),(an 73 32),(an 73 16)⟩),
 (75,8,⟨(an 73 483),(an 73 227),(an 73 16)⟩),
 (76,4,⟨(an 44 227),(an 44 32),(an 44 16)⟩),
 (77,7,⟨(an 45 35),(an 45 0),(an 45 16)⟩),
 (78,6,⟨(an 44 451),(an 44 64),(an 44 48)⟩),
 (82,5,⟨(an 37 114722),(an 37 0),(an 37 16)⟩),
 (83,3,⟨(an 25 114696),(an 25 8),(an 25 4)⟩),
 (86,8,⟨(an 87 27021597764255807),(an 87 32813),(an 87 4096)⟩),
 (87,3,⟨(an 25 803),(an 25 32),(an 25 16)⟩),
 (89,4,⟨(an 27 12291),(an 27 0),(an 27 16)⟩),
 (90,3,⟨(an 18 456),(an 18 8),(an 18 4)⟩),
 (91,7,⟨(an 128 3975),(an 128 1927),(an 128 64)⟩),
 (91,14,⟨(an 128 4487),(an 128 129),(an 128 64)⟩),
 (91,18,⟨(an 128 8873554201597605810476922437761),(an 128 129),(an 128 64)⟩),
 (99,2,⟨(an 29 3591),(an 29 4),(an 29 64)⟩),
 (101,13,⟨(an 106 56668397794435742638111),(an 106 73751),(an 106 1024)⟩),
 (103,10,⟨(an 85 126100789566382111),(an 85 8211),(an 85 1024)⟩),
 (104,7,⟨(an 49 14680325),(an 49 256),(an 49 192)⟩),
 (107,2,⟨(an 92 3587),(an 92 2),(an 92 16)⟩),
 (107,10,⟨(an 92 504403158265499235),(an 92 3587),(an 92 16)⟩),
 (108,3,⟨(an 64 28683),(an 64 9),(an 64 4)⟩),
 (108,9,⟨(an 64 120259113083),(an 64 28795),(an 64 4)⟩),
 (109,3,⟨(an 23 3592),(an 23 8),(an 23 4)⟩),
 (110,7,⟨(an 46 58721065),(an 46 768),(an 46 256)⟩),
 (111,8,⟨(an 78 240518168820),(an 78 244),(an 78 16)⟩),
 (111,13,⟨(an 78 492581209243892),(an 78 144),(an 78 16)⟩),
 (112,5,⟨(an 72 481036337162),(an 72 10),(an 72 4)⟩),
 (115,3,⟨(an 33 99),(an 33 32),(an 33 16)⟩),
 (119,5,⟨(an 84 160),(an 84 32),(an 84 16)⟩),
 (119,13,⟨(an 84 515),(an 84 515),(an 84 16)⟩),
 (119,15,⟨(an 84 515),(an 84 513),(an 84 16)⟩),
 (119,16,⟨(an 84 515),(an 84 515),(an 84 16)⟩),
 (119,18,⟨(an 84 515),(an 84 515),(an 84 16)⟩),
 (121,4,⟨(an 37 12294),(an 37 6),(an 37 28)⟩),
 (122,4,⟨(an 53 24579),(an 53 0),(an 53 16)⟩),
 (122,9,⟨(an 53 12884926499),(an 53 24579),(an 53 16)⟩),
 (124,3,⟨(an 36 29360153),(an 36 17),(an 36 0)⟩),
 (125,2,⟨(an 63 455),(an 63 199),(an 63 0)⟩),
 (125,7,⟨(an 63 71),(an 63 0),(an 63 0)⟩),
 (125,9,⟨(an 63 455),(an 63 199),(an 63 0)⟩),
 (127,4,⟨(an 71 14680098),(an 71 32),(an 71 16)⟩),
 (127,8,⟨(an 71 1893728738),(an 71 14680418),(an 71 16)⟩),
 (130,7,⟨(an 60 117440610),(an 60 96),(an 60 16)⟩),
 (131,7,⟨(an 49 35),(an 49 0),(an 49 16)⟩),
 (132,7,⟨(an 59 29360322),(an 59 64),(an 59 48)⟩),
 (133,2,⟨(an 22 9),(an 22 9),(an 22 4)⟩),
 (136,6,⟨(an 27 24),(an 27 8),(an 27 4)⟩),
 (137,11,⟨(an 98 1539),(an 98 513),(an 98 112)⟩),
 (137,14,⟨(an 98 7683),(an 98 3587),(an 98 112)⟩),
 (141,6,⟨(an 30 1835016),(an 30 8),(an 30 4)⟩),
 (142,4,⟨(an 45 1610612748),(an 45 0),(an 45 16)⟩),
 (143,2,⟨(an 17 225),(an 17 0),(an 17 4)⟩),
 (144,4,⟨(an 26 12291),(an 26 0),(an 26 16)⟩),
 (145,2,⟨(an 19 387),(an 19 0),(an 19 16)⟩),
 (158,4,⟨(an 32 229382),(an 32 0),(an 32 64)⟩),
 (159,4,⟨(an 26 12291),(an 26 0),(an 26 16)⟩),
 (160,4,⟨(an 32 229382),(an 32 0),(an 32 64)⟩),
 (162,5,⟨(an 62 31525197391593472),(an 62 0),(an 62 4)⟩),
 (164,2,⟨(an 21 9),(an 21 9),(an 21 4)⟩),
 (165,1,⟨(an 53 271),(an 53 0),(an 53 0)⟩),
 (165,4,⟨(an 53 783),(an 53 271),(an 53 0)⟩),
 (166,3,⟨(an 220 3091),(an 220 1027),(an 220 0)⟩),
 (166,9,⟨(an 220 9217),(an 220 0),(an 220 0)⟩),
 (166,15,⟨(an 220 49173),(an 220 16389),(an 220 0)⟩),
 (166,21,⟨(an 220 147457),(an 220 0),(an 220 0)⟩),
 (166,33,⟨(an 220 8126495),(an 220 1835039),(an 220 0)⟩),
 (170,4,⟨(an 41 451),(an 41 192),(an 41 48)⟩),
 (172,4,⟨(an 42 899),(an 42 384),(an 42 64)⟩),
 (178,2,⟨(an 134 783),(an 134 0),(an 134 0)⟩),
 (180,2,⟨(an 19 387),(an 19 0),(an 19 16)⟩),
 (183,2,⟨(an 26 3),(an 26 1),(an 26 16)⟩),
 (184,3,⟨(an 19 456),(an 19 8),(an 19 4)⟩),
 (185,2,⟨(an 96 3587),(an 96 2),(an 96 16)⟩),
 (185,10,⟨(an 96 8070450532247932515),(an 96 3587),(an 96 16)⟩),
 (186,2,⟨(an 58 3093),(an 58 1045),(an 58 0)⟩),
 (187,14,⟨(an 315 32256),(an 315 13824),(an 315 112)⟩),
 (187,18,⟨(an 315 228864),(an 315 97792),(an 315 112)⟩),
 (187,24,⟨(an 315 1096126227998177188652763624537212264741950291456),(an 315 884224),(an 315 112)⟩),
 (187,41,⟨(an 315 165641912322973530898434140694648610858826615332089277323900581371805184),(an 315 622080),(an 315 112)⟩),
 (187,51,⟨(an 315 11656013353354374425516771440941113439854441034312837127510874458433425711231284553216),(an 315 33562624),(an 315 112)⟩),
 (190,1,⟨(an 49 71),(an 49 0),(an 49 0)⟩),
 (190,4,⟨(an 49 199),(an 49 71),(an 49 0)⟩),
 (191,4,⟨(an 56 961),(an 56 449),(an 56 0)⟩),
 (191,8,⟨(an 56 1217),(an 56 0),(an 56 0)⟩),
 (192,5,⟨(an 65 963),(an 65 0),(an 65 0)⟩),
 (194,2,⟨(an 32 193),(an 32 0),(an 32 0)⟩),
 (195,3,⟨(an 133 391),(an 133 0),(an 133 64)⟩),
 (195,5,⟨(an 133 391),(an 133 391),(an 133 64)⟩),
 (195,14,⟨(an 133 903),(an 133 391),(an 133 64)⟩),
 (195,20,⟨(an 133 1415),(an 133 391),(an 133 64)⟩),
 (197,3,⟨(an 84 1539),(an 84 1539),(an 84 256)⟩),
 (197,5,⟨(an 84 1539),(an 84 1539),(an 84 256)⟩),
 (198,3,⟨(an 168 3075),(an 168 3075),(an 168 768)⟩),
 (198,5,⟨(an 168 3075),(an 168 3075),(an 168 768)⟩),
 (198,13,⟨(an 168 3075),(an 168 3075),(an 168 768)⟩),
 (198,15,⟨(an 168 3075),(an 168 3075),(an 168 768)⟩),
 (201,1,⟨(an 38 1039),(an 38 0),(an 38 0)⟩),
 (202,4,⟨(an 43 451),(an 43 192),(an 43 48)⟩),
 (204,3,⟨(an 40 28706),(an 40 32),(an 40 16)⟩),
 (207,1,⟨(an 76 269),(an 76 0),(an 76 0)⟩),
 (215,1,⟨(an 167 19),(an 167 19),(an 167 0)⟩)]
def qb6:List (Nat×Nat×List Nat):=[(6,13,[0,1,2,3,4,5,6,8,7,9,10,11,12,13,14,15,16,17,18,19,20,21,22,23]),(9,19,[0,1,2,4,5,6,3,7,8,9]),(9,29,[0,1,2,4,5,6,7,3,8,9]),(59,12,[0,1,2,3,4,5,6,7,8,9,10,11,12,13,14,15,16]),(67,1,[0,1,3,4,2,5,6,7]),(97,1,[0,1,2,3,4,5,6,8,7,9,10,11])]
def Xa:List (Nat×Nat×List Nat):=[(3,19,[0,0,3,7,15,0,0,96,224,480,1023,2047,4095,4095,16383,32767,65535,4095,4095,397311,921599,1970175,4194303,8388607,16777215]),
 (3,21,[0,0,0,6,14,30,63,127]),
 (3,23,[0,0,3,7,15,31,63]),
 (4,30,[0,0,3,7,15,0,0,96,224,480,1023,2047,4095,4095,16383,32767,65535,4095,4095,397311,921599,1970175,4194303,8388607,16777215]),
 (6,13,[0,1,3,7,7,7,7,103,7,503,1023,2047,4095,8191,16383,32767,65535,131071,262143,524287,1048575,2097151,4194303,8388607]),
 (7,18,[0,0,0,6,15,31]),
 (8,2,[0,1,0,4,0,16,48,112,252,0,512,0,2048,6144,14336,32256,65535,131071]),
 (8,14,[0,0,2,6,15,0,32,96,255,0,512,1536,4095,8191]),
 (8,15,[0,1,0,0,8,0,56,120,0,504,1023,2047]),
 (9,19,[0,0,2,7,0,0,32,127,255,511]),
 (9,24,[0,0,0,6,15,0,0,64,224,511,1023]),
 (9,26,[0,1,0,7,15,31,63,127,255,511,1023]),
 (9,29,[0,0,2,7,0,16,48,112,255,511]),
 (17,13,[0,1,3,7,0,31,63,0,0,384,0,0,3199,8191]),
 (17,19,[0,0,0,4,14,30,0,126,255,0,1023]),
 (19,10,[0,0,0,6,15,31]),
 (22,1,[0,1,0,7,15,31]),
 (22,2,[0,1,0,4,15,0,32,0,128,511,0,1024,0,4096,16383,32767,65535,131071]),
 (22,3,[0,1,0,0,12,31,63]),
 (24,3,[0,0,3,7,15,31,31,95,223,479,991,2047,4095,8191]),
 (27,6,[0,0,3,7,0,0,48,112,255]),
 (34,3,[0,1,3,7,7,23,55,119,247,511,1023,2047,4095,8191,4095,20479,53247,118783,4095,511999,1036287,2097151,4194303,8388607,16777215,16777215,67108863,134217727]),
 (36,12,[0,1,3,7,0,31,63,127,0,0,512,1536,3584,0,15872,32256,65024,130816,261888,524287,1048575,2097151]),
 (39,3,[0,0,3,7,15,31,63,127,255,511,511,1535,3583,7679,15871,32767,65535,131071,262143,524287,1048575,2097151,4194303,4194303,12582911,29360127,62914559,4194303,264241151,532676607,1073741823,2147483647]),
 (43,11,[0,1,3,7,0,31,63,127,0,256,768,1792,0,7936,16128,32512,65535,0,262143]),
 (44,3,[0,1,3,7,0,31,63]),
 (46,3,[0,1,3,7,7,31,63,127]),
 (50,11,[0,1,0,4,0,0,0,64,252,508,1023,2047,4095]),
 (51,12,[0,1,0,7,15,0,32,0,224,480,1023,2047]),
 (51,18,[0,1,0,7,15,31,0,64,0,448,960,1984,4095]),
 (51,23,[0,1,0,7,15,0,63,127,0,256,0,1792,3840,0,16128,32512,65535]),
 (52,5,[0,1,0,4,15,31,63]),
 (52,6,[0,1,0,0,0,24,63,127]),
 (53,6,[0,1,0,7,15,0,32,0,0,256,0,1024,4064,8191,16383]),
 (53,9,[0,1,0,4,12,28,63,127,0,511,1023,2047,4095]),
 (56,4,[0,1,3,7,15,31,15,127,255,511,1023]),
 (59,1,[0,1,0,4,12,28,63,0,128,511,0,2047]),
 (59,10,[0,1,0,4,0,16,0,64,192,448,1008,0,2048,0,8192,24576,57344,129024,262140,524284,1048575,2097151,4194303]),
 (59,12,[0,1,0,4,0,16,48,112,252,0,512,0,2048,8191,0,16383,65535]),
 (60,6,[0,1,3,7,15,31,63,63,191,511,1023,63,4095,8191,16383,32767,32767,98303,262143,524287,1048575,32767,2129919,8388607,16777215,33554431,67108863]),
 (60,10,[0,0,3,7]),
 (61,6,[0,1,3,7,15,31,63,127,63,319,831,1855,4095,8191,16383,32767,65535,32767,163839,425983,950271,2097151,4194303,8388607,16777215,33554431,67108863,33554431,33554431,301989887,973078527,2046820351,4194303999,8589934591,17179869183,34359738367,68719476735]),
 (61,10,[0,0,3,7]),
 (67,1,[0,0,3,0,0,31,63,127]),
 (69,1,[0,1,0,4,15,0,32,0,128,480,0,1024,0,4096,16352,32767,65535]),
 (71,5,[0,1,0,4,15,0,32,0,128,511,0,1024,0,4096,16383,32767,65535,131071]),
 (71,7,[0,1,0,0,12,0,63,127]),
 (75,10,[0,0,3,7,15,0,0,96,224,480,1023,0,0,0,12288,30720,63488,129024,262143,0,1048575,2097151]),
 (77,9,[0,0,3,7,0,0,48,112,255]),
 (77,10,[0,0,3,7,0,0,48,112,255]),
 (87,5,[0,0,0,6,14,31,0,0,192,448,1023,2047]),
 (89,6,[0,0,3,7,0,0,48,112,255,511]),
 (91,16,[0,1,0,0,8,0,0,0,192,0,512,0,3584,8160,16380,32764,65535,131071,262143]),
 (91,23,[0,0,2,6,14,0,32,126,255,511,1023]),
 (97,1,[0,0,3,7,15,31,31,127,31,511,1023,2047]),
 (98,1,[0,0,0,4,15,31]),
 (101,7,[0,0,2,6,14,0,62,126,254,0,512,1536,3584,0,15872,32256,65024,131071,262143]),
 (105,1,[0,1,0,4,12,3,63]),
 (106,1,[0,1,0,4,12,3,63]),
 (107,7,[0,1,3,7,15,31,15,79,255,511,1023,2047,4095,8191,16383,32767,65535,131071,262143,65535,65535,1114111,3735551,7929855,16777215,33554431]),
 (107,12,[0,1,3,7,7,31,63,127,255,255,1023,2047,4095,8191,16383,32767,32767,131071,262143,524287,32767,1081343,4194303,8388607,16777215]),
 (110,9,[0,0,0,4,14,30,0,126,0,0,768,1792,4094,8191,16383]),
 (111,16,[0,0,0,4,0,28,60,126,255,511]),
 (117,1,[0,1,0,7,15,31]),
 (117,2,[0,1,0,4,15,0,32,0,128,480,0,1024,0,4096,16352,32767,65535,131071,131071,0,786431,2097151]),
 (119,6,[0,0,0,6,3,31]),
 (121,6,[0,1,0,7,15,0,0,96,255,511]),
 (122,6,[0,0,3,7,15,0,0,96,224,480,1023]),
 (122,11,[0,0,3,7,0,31,63,0,0,384,896,0,3968,8064,16383]),
 (131,9,[0,0,3,7,0,0,48,112,255,511]),
 (131,11,[0,0,3,7,0,0,48,112,255,511]),
 (134,1,[0,0,2,7,15]),
 (139,5,[0,1,3,7,15,0,32,96,224,511]),
 (139,7,[0,0,2,6,14,0,32,126,255,511,1023]),
 (139,8,[0,1,3,7,0,0,32,96,224,480,992,2047]),
 (142,6,[0,1,0,7,15,0,32,0,224,480,1023]),
 (144,6,[0,0,3,7,0,0,48,112,255]),
 (153,1,[0,1,0,7,15,31]),
 (153,6,[0,0,2,0,8,30,0,64,0,256,1022,2046,4095,8191]),
 (155,8,[0,1,3,7,15,0,32,96,224,511,1023,2047]),
 (159,6,[0,0,3,7,0,0,48,112,255]),
 (165,4,[0,0,3,7,15,15,15,111,239,15,15,1039,3599,7695,16383,32767,65535]),
 (165,6,[0,0,0,0,8,0,0,64,224,480,0,0,3072,7168,16355,32739,65535,131071]),
 (166,5,[0,0,0,6,14,0,0,96,224,511,1023]),
 (166,11,[0,0,0,0,8,0,0,64,224,480,0,0,3072,7168,16355,32739,65535,131071]),
 (166,17,[0,0,0,6,14,0,0,96,224,511,1023,2047]),
 (166,23,[0,0,0,0,8,0,0,64,224,480,0,0,3072,7168,16355,32739,65535,131071]),
 (166,35,[0,0,0,0,12,30,62,0,0,384,896,2047,4095,8191]),
 (171,2,[0,0,0,6,15,31,0,0,0,384,896,2015,4095,0,0,16384,57344,122880,253952,8191,1048575]),
 (178,17,[0,1,3,7,7,23,63,127,7,7,775,1799,4095,8191,16383]),
 (182,8,[0,1,3,7,0,16,48,112,240,511,1023,2047]),
 (185,7,[0,1,3,7,15,31,15,79,255,511,1023,2047,4095,8191,16383,32767,65535,131071,262143,65535,65535,1114111,3735551,7929855,16777215,33554431]),
 (185,12,[0,1,3,7,7,31,63,127,255,255,1023,2047,4095,8191,16383,32767,32767,131071,262143,524287,32767,1081343,4194303,8388607,16777215]),
 (187,16,[0,0,0,6,15,31,63,127,0,0,0,1536,3584,7936,16128,32512,65535,131071]),
 (187,17,[0,0,0,4,14,30,62,127,0,0,0,1024,3584,7680,15872,32512,255,131071]),
 (187,18,[0,1,3,7,7,7,39,119,247,503,1023,7,2055,7,7,7,49159,114695,253959,516103,1040391,2095111,4194303,8388607]),
 (187,43,[0,0,0,0,12,30,62,126,0,0,768,1792,3840,8190,16383,32767]),
 (187,55,[0,0,3,7,0,0,32,112,240,0,512,2032,4095,8191,16383]),
 (190,4,[0,0,3,7,15,15,63,127,15,15,527,1807,3855,8191,16383]),
 (190,6,[0,0,0,0,8,0,0,64,224,480,0,0,3072,7168,16355,32739,65535,131071]),
 (191,10,[0,0,0,0,0,24,0,0,0,384,960,1984,0,0,12288,28672,65475,131011,262143,524287]),
 (192,10,[0,0,0,0,0,24,0,0,0,384,960,1984,0,0,12288,28672,65475,131011,262143,524287]),
 (194,3,[0,0,0,0,0,0,48,112,0,0,768,1792,4083,8179,16383,32767]),
 (195,5,[0,0,3,7,15,15,63,127,15,15,527,1807,3855,8191,16383,32767]),
 (195,11,[0,0,0,0,8,0,0,64,224,480,0,0,3072,7168,16355,32739,65535,131071]),
 (195,16,[0,0,3,7,0,0,32,112,240,511,1023]),
 (195,17,[0,0,0,0,8,0,0,64,224,480,0,0,3072,7168,16355,32739,65535,131071]),
 (195,22,[0,0,3,7,0,0,32,112,240,511,1023]),
 (195,23,[0,0,0,0,8,0,0,64,224,480,0,0,3072,7168,16355,32739,65535,131071]),
 (197,1,[0,0,0,0,0,0,48,112,0,0,768,1792,4083,8179,16383,32767]),
 (197,3,[0,0,3,7,15,15,63,127,15,15,783,1807,4095,8191,16383]),
 (197,5,[0,0,3,7,15,15,63,127,15,15,783,1807,4095,8191]),
 (197,8,[0,0,0,0,0,0,48,112,0,0,768,1792,4083,8179,16383,32767]),
 (198,1,[0,0,0,0,0,0,48,112,0,0,768,1792,4083,8179,16383,32767]),
 (198,3,[0,0,3,7,15,15,63,127,15,15,783,1807,4095,8191]),
 (198,5,[0,0,3,7,15,15,63,127,15,15,783,1807,4095,8191,16383]),
 (198,8,[0,0,0,0,0,0,48,112,0,0,768,1792,4083,8179,16383,32767]),
 (198,10,[0,0,0,0,0,0,48,112,0,0,768,1792,4083,8179,16383,32767]),
 (198,13,[0,0,3,7,15,15,63,127,15,15,783,1807,4095,8191]),
 (198,15,[0,0,3,7,15,15,63,127,15,15,783,1807,4095,8191,16383]),
 (198,18,[0,0,0,0,0,0,48,112,0,0,768,1792,4083,8179,16383,32767]),
 (198,21,[0,0,0,0,0,0,48,112,0,0,768,1792,4083,8179,16383,32767]),
 (201,3,[0,0,0,6,0,0,0,96,0,0,0,1536,3840,7936,0,0,0,98304,245760,507904,1048335,2096911,4194303,8388607]),
 (207,3,[0,1,0,7,15,31,31,31,223,511,1023,31,31,31,12319,28703,63519,129055,262143,524287]),
 (207,5,[0,0,0,6,15,31,0,0,0,384,960,1984,4095,8191]),
 (207,6,[0,0,0,6,0,0,0,96,0,0,0,1536,3840,7936,0,0,0,98304,245760,507904,1048335,2096911,4194303,8388607]),
 (209,1,[0,1,3,0,8,24,56,127,255,511]),
 (209,2,[0,1,3,0,8,24,56,127,255,511]),
 (209,3,[0,1,3,0,8,24,56,127,255,511]),
 (215,7,[0,0,2,0,0,16,0,64,192,0,512,455,2503,8191,16383]),
 (215,8,[0,0,2,0,0,16,0,64,192,0,512,455,2503,8191,16383]),
 (215,9,[0,0,2,0,0,16,0,64,192,0,512,455,2503,8191,16383]),
 (215,10,[0,0,2,0,0,16,0,64,192,0,512,455,2503,8191,16383]),
 (215,17,[0,0,2,0,0,16,0,64,192,0,512,455,2503,8191,16383]),
 (215,18,[0,0,2,0,0,16,0,64,192,0,512,455,2503,8191,16383]),
 (215,23,[0,0,2,0,0,16,0,64,192,0,512,455,2503,8191,16383]),
 (217,1,[0,0,3,7,0,0,48,112,255])]
def I6:List (Nat×Nat×List Nat)->Nat->Nat->List Nat
 | [],_,_=>[]
 | (f,k,m)::l,f',k'=>match Nat.beq f f'&&Nat.beq k k' with
  | true=>m
  | false=>I6 l f' k'
def qaQ:List (Nat×Nat):=[(50,110),(52,111),(108,99),(187,204)]
def tf:List (Nat×Nat)->Nat->Nat->Bool
 | [],_,_=>false
 | (a,b)::l,f,g=>match Nat.beq a f&&Nat.beq b g with
  | true=>true
  | false=>tf l f g
def qdK:List (Nat×Nat):=[]
def qan:List (Nat×Nat):=[(108,99)]
def qdL:List Nat:=[172]
def rX:List Nat->Nat->Bool
 | [],_=>false
 | a::l,f=>match Nat.beq a f with
  | true=>true
  | false=>rX l f
def qdW:List (Nat×Nat×List (Nat×Nat)):=[(59,12,[(14,15)])]
def M6:List (Nat×Nat×List (Nat×Nat))->Nat->Nat->List (Nat×Nat)
 | [],_,_=>[]
 | (a,b,p)::l,f,k=>match Nat.beq a f&&Nat.beq b k with
  | true=>p
  | false=>M6 l f k
def qa6:List (Nat×Nat×List (Nat×List Nat)):=[(6,13,[(7,[3]),(9,[3])]),(50,11,[(8,[1])]),(52,5,[(2,[1])]),(52,6,[(5,[1])]),(67,1,[(2,[3])]),(91,16,[(14,[1])]),(97,1,[(7,[8])]),(98,1,[(3,[0,1])])]
def Kz:List (Nat×Nat×List (Nat×List Nat))->Nat->Nat->List (Nat×List Nat)
 | [],_,_=>[]
 | (a,b,p)::l,f,k=>match Nat.beq a f&&Nat.beq b k with
  | true=>p
  | false=>Kz l f k
def qc7:List (Nat×Nat):=[(6,13),(24,3),(34,3),(39,3),(50,11),(52,5),(52,6),(67,1),(91,16),(97,1),(98,1),(101,7),(165,4),(166,5),(166,17),(166,35)]
def qaR:List Nat:=[15,17,24,28,29,30,32,33,34,35,36,37,38,39,40,41,42,43,44,49,50,62,65,66,67,68,80,81,83,84,85,86,91,92,93,95,96,97,98,99,100,101,102,103,104,105,106,108,115,124,125,138,139,145,146,147,165,166,186,201]
def qbJ:List (Nat×Nat):=[]
def CU:List Nat:=[140,177]
noncomputable def aa:Cfg where
 P:=prog
 inl:=fun f g=>match rX qaR g with|true=>(match tf qbJ f g with|true=>false|false=>true)|false=>tf qaQ f g
 ben:=rX CU
 seqm:=tf qc7
 late:=Kz qa6
 frzc:=tf qan
 arrm:=rX [50,52,54,65,104,124]
 tokm:=rX qdL
 two:=M6 qdW
 thaw:=tf qdK
 mask:=K6 qbv
 ord:=Ls qb6
 ahd:=I6 Xa
 lib:=fun g=>match Nat.beq g 141 with|true=>some rK|false=>none
 libm:=fun g=>match Nat.beq g 148 with|true=>some rW|false=>match Nat.beq g 149 with|true=>some rk|false=>none
theorem Yy:aa.P.funcs[3]?=some f3:=aj
theorem YF:aa.P.funcs[4]?=some f4:=aj
theorem Xp:aa.P.funcs[10]?=some f10:=aj
theorem Xt:aa.P.funcs[11]?=some f11:=aj
theorem Xx:aa.P.funcs[12]?=some f12:=aj
theorem XF:aa.P.funcs[13]?=some f13:=aj
theorem XQ:aa.P.funcs[14]?=some f14:=aj
theorem XX:aa.P.funcs[15]?=some f15:=aj
theorem X3:aa.P.funcs[16]?=some f16:=aj
theorem Yb:aa.P.funcs[17]?=some f17:=aj
theorem Yg:aa.P.funcs[18]?=some f18:=aj
theorem Yl:aa.P.funcs[20]?=some f20:=aj
theorem Yq:aa.P.funcs[21]?=some f21:=aj
theorem Yr:aa.P.funcs[22]?=some f22:=aj
theorem Ys:aa.P.funcs[24]?=some f24:=aj
theorem Yt:aa.P.funcs[25]?=some f25:=aj
theorem Yu:aa.P.funcs[26]?=some f26:=aj
theorem Yv:aa.P.funcs[27]?=some f27:=aj
theorem Yw:aa.P.funcs[28]?=some f28:=aj
theorem Yx:aa.P.funcs[29]?=some f29:=aj
theorem Yz:aa.P.funcs[30]?=some f30:=aj
theorem YA:aa.P.funcs[31]?=some f31:=aj
theorem YB:aa.P.funcs[32]?=some f32:=aj
theorem YC:aa.P.funcs[33]?=some f33:=aj
theorem YD:aa.P.funcs[34]?=some f34:=aj
theorem YE:aa.P.funcs[35]?=some f35:=aj
theorem YG:aa.P.funcs[41]?=some f41:=aj
theorem YH:aa.P.funcs[43]?=some f43:=aj
theorem YI:aa.P.funcs[54]?=some f54:=aj
theorem YJ:aa.P.funcs[57]?=some f57:=aj
theorem YK:aa.P.funcs[62]?=some f62:=aj
theorem YL:aa.P.funcs[63]?=some f63:=aj
theorem YM:aa.P.funcs[64]?=some f64:=aj
theorem YN:aa.P.funcs[65]?=some f65:=aj
theorem YO:aa.P.funcs[66]?=some f66:=aj
theorem YP:aa.P.funcs[67]?=some f67:=aj
theorem YQ:aa.P.funcs[68]?=some f68:=aj
theorem YR:aa.P.funcs[69]?=some f69:=aj
theorem YS:aa.P.funcs[70]?=some f70:=aj
theorem YT:aa.P.funcs[71]?=some f71:=aj
theorem YU:aa.P.funcs[72]?=some f72:=aj
theorem YV:aa.P.funcs[73]?=some f73:=aj
theorem YW:aa.P.funcs[74]?=some f74:=aj
theorem YX:aa.P.funcs[75]?=some f75:=aj
theorem YY:aa.P.funcs[76]?=some f76:=aj
theorem YZ:aa.P.funcs[77]?=some f77:=aj
theorem Y0:aa.P.funcs[78]?=some f78:=aj
theorem Y3:aa.P.funcs[79]?=some f79:=aj
theorem Y4:aa.P.funcs[80]?=some f80:=aj
theorem Y5:aa.P.funcs[81]?=some f81:=aj
theorem Y6:aa.P.funcs[82]?=some f82:=aj
theorem Y7:aa.P.funcs[83]?=some f83:=aj
theorem Y8:aa.P.funcs[84]?=some f84:=aj
theorem Y9:aa.P.funcs[85]?=some f85:=aj
theorem Za:aa.P.funcs[86]?=some f86:=aj
theorem Zb:aa.P.funcs[87]?=some f87:=aj
theorem Zc:aa.P.funcs[88]?=some f88:=aj
theorem Zd:aa.P.funcs[89]?=some f89:=aj
theorem Ze:aa.P.funcs[90]?=some f90:=aj
theorem Zf:aa.P.funcs[91]?=some f91:=aj
theorem Zg:aa.P.funcs[92]?=some f92:=aj
theorem Zh:aa.P.funcs[93]?=some f93:=aj
theorem Zi:aa.P.funcs[94]?=some f94:=aj
theorem Zj:aa.P.funcs[95]?=some f95:=aj
theorem Zk:aa.P.funcs[96]?=some f96:=aj
theorem Zl:aa.P.funcs[97]?=some f97:=aj
theorem Zm:aa.P.funcs[98]?=some f98:=aj
theorem Zn:aa.P.funcs[99]?=some f99:=aj
theorem Xq:aa.P.funcs[103]?=some f103:=aj
theorem Xr:aa.P.funcs[104]?=some f104:=aj
theorem Xs:aa.P.funcs[106]?=some f106:=aj
theorem Xu:aa.P.funcs[114]?=some f114:=aj
theorem Xv:aa.P.funcs[115]?=some f115:=aj
theorem Xw:aa.P.funcs[119]?=some f119:=aj
theorem Xy:aa.P.funcs[123]?=some f123:=aj
theorem Xz:aa.P.funcs[124]?=some f124:=aj
theorem XA:aa.P.funcs[125]?=some f125:=aj
theorem XB:aa.P.funcs[126]?=some f126:=aj
theorem XC:aa.P.funcs[127]?=some f127:=aj
theorem XD:aa.P.funcs[128]?=some f128:=aj
theorem XE:aa.P.funcs[129]?=some f129:=aj
theorem XG:aa.P.funcs[130]?=some f130:=aj
theorem XH:aa.P.funcs[131]?=some f131:=aj
theorem XI:aa.P.funcs[132]?=some f132:=aj
theorem XJ:aa.P.funcs[133]?=some f133:=aj
theorem XK:aa.P.funcs[134]?=some f134:=aj
theorem XL:aa.P.funcs[135]?=some f135:=aj
theorem XM:aa.P.funcs[136]?=some f136:=aj
theorem XN:aa.P.funcs[137]?=some f137:=aj
theorem XO:aa.P.funcs[138]?=some f138:=aj
theorem XP:aa.P.funcs[139]?=some f139:=aj
theorem XR:aa.P.funcs[141]?=some f141:=aj
theorem XS:aa.P.funcs[142]?=some f142:=aj
theorem XT:aa.P.funcs[143]?=some f143:=aj
theorem XU:aa.P.funcs[144]?=some f144:=aj
theorem XV:aa.P.funcs[145]?=some f145:=aj
theorem XW:aa.P.funcs[148]?=some f148:=aj
theorem XY:aa.P.funcs[155]?=some f155:=aj
theorem XZ:aa.P.funcs[156]?=some f156:=aj
theorem X0:aa.P.funcs[157]?=some f157:=aj
theorem X4:aa.P.funcs[163]?=some f163:=aj
theorem X5:aa.P.funcs[164]?=some f164:=aj
theorem X6:aa.P.funcs[165]?=some f165:=aj
theorem X7:aa.P.funcs[166]?=some f166:=aj
theorem X8:aa.P.funcs[167]?=some f167:=aj
theorem X9:aa.P.funcs[168]?=some f168:=aj
theorem Ya:aa.P.funcs[169]?=some f169:=aj
theorem Yc:aa.P.funcs[170]?=some f170:=aj
theorem Ye:aa.P.funcs[171]?=some f171:=aj
theorem Yf:aa.P.funcs[172]?=some f172:=aj
theorem Yh:aa.P.funcs[183]?=some f183:=aj
theorem Yi:aa.P.funcs[186]?=some f186:=aj
theorem Yj:aa.P.funcs[187]?=some f187:=aj
theorem Yk:aa.P.funcs[199]?=some f199:=aj
theorem Ym:aa.P.funcs[201]?=some f201:=aj
theorem Yn:aa.P.funcs[202]?=some f202:=aj
theorem Yo:aa.P.funcs[203]?=some f203:=aj
theorem Yp:aa.P.funcs[204]?=some f204:=aj
noncomputable abbrev aD(f:Func):KT:=tc aa.P f.results.toList
noncomputable def bD(f:Nat)(c:Code)(i:Nat)(l:List AV)(m:af)(K:KT):OM:=my (bL aa f (AP aa) (AC aa) c) (aa.mask f (some i)) ⟨l,m⟩ K
noncomputable abbrev kI(f:Nat)(c:Code)(i:Nat)(K:KT):KT:=lP (fun st=>my (bL aa f (AP aa) (AC aa) c) (aa.mask f (some i)) st K) (aa.mask f (some i)) K
noncomputable abbrev bi(f:Nat)(c:Code)(X:KT):KT:=qG (fun st=>bL aa f (AP aa) (AC aa) c st X) X
abbrev JE(c:Code):Code:=c1 (c1 (c1 (c1 c)))
abbrev jS(c:Code):Code:=c1 (c1 (c1 (c2 c)))
abbrev bI(c:Code):Code:=c1 (c1 (c2 (c1 c)))
abbrev rm(c:Code):Code:=c1 (c1 (c2 (c2 c)))
abbrev zb(c:Code):Code:=c1 (c2 (c1 (c1 c)))
abbrev kn(c:Code):Code:=c1 (c2 (c1 (c2 c)))
abbrev s9(c:Code):Code:=c1 (c2 (c2 (c1 c)))
abbrev vq(c:Code):Code:=c1 (c2 (c2 (c2 c)))
abbrev ZW(c:Code):Code:=c2 (c1 (c1 (c1 c)))
abbrev qg(c:Code):Code:=c2 (c1 (c1 (c2 c)))
abbrev vr(c:Code):Code:=c2 (c1 (c2 (c1 c)))
abbrev kZ(c:Code):Code:=c2 (c1 (c2 (c2 c)))
abbrev jf(c:Code):Code:=c2 (c2 (c1 (c1 c)))
abbrev C2(c:Code):Code:=c2 (c2 (c1 (c2 c)))
abbrev js(c:Code):Code:=c2 (c2 (c2 (c1 c)))
abbrev aV(c:Code):Code:=c2 (c2 (c2 (c2 c)))
end Go.Ab
namespace Go.Ab
noncomputable section
variable (a0 a1 a2 x0 x1 x2 x4 x6 x7 x8 x9 x10 x11:AV) (m:af) (K:KT)
open Go.Proofs.Tryz
theorem H9:AC aa 32 [a0] m=(aL false a0).bind fun v1=>(ae .o .gtr v1 (.I 16)).bind fun v2=>au v2 (some ((.tup [.nilp,(.I 2)]),m)) ((AC aa 92 [a0,(.fn 93 [])] m).bind fun r3=>au r3.1 (some ((.tup [.nilp,(.I 1)]),r3.2)) ((aF (AP aa) none r3.2 88 [a0]).bind fun r4=>(e9 (.agg [aw,aw,.nilm,(.I 0)]) [(0,none,r4.1),(2,none,(.mref (aC none r4.2 .resv).1)),(3,none,(.I 4000))]).bind fun v5=>(cQ none (some 4) (aC none r4.2 (.mp .str [])).2 v5).bind fun r6=>some ((.tup [r6.1,(.I 0)]),r6.2))):=
(aZ aa 32 [a0] m (fn:=f32) (c:=aA f32) YB rfl).trans aj
theorem Ih:AC aa 92 [a0,a1] m=(AC aa 145 [a0,a1] m).bind fun r1=>(ae .o .geq r1.1 (.I 0)).bind fun v2=>some (v2,r1.2):=
(aZ aa 92 [a0,a1] m (fn:=f92) (c:=aA f92) Zg rfl).trans aj
def Hs:St:=⟨(bh (aH (aG []))),m⟩
def HU:St:=⟨(aJ (x4::aO (aJ (aH [])))),m⟩
def nX:OM:=bD 145 (bI (c2 (aA f145))) 2 (x0::x1::aJ (aG (x7::x8::aO (aH [])))) m K
abbrev PN:KT:=bi 145 (c2 (c2 (aA f145))) K
abbrev PO:KT:=be 0 (PN K)
abbrev nV:KT:=(PO K)
theorem H4:AC aa 145 [a0,a1] m=(aL false a0).bind fun v1=>nX a0 a1 v1 (.I 0) m (nV (aD f145)):=
(aZ aa 145 [a0,a1] m (fn:=f145) (c:=aA f145) XV rfl).trans aj
theorem xA:nX x0 x1 x7 x8 m K=(ae .o .lss x8 x7).bind fun v1=>au v1 ((aE none x0 x8).bind fun v2=>(am none m v2).bind fun v3=>(jj x1).bind fun g4=>iP aa 145 (AP aa) (AC aa) none g4.1 ([v3]++g4.2) m fun v5 m6=>au v5 (K .ret (HU x8 m6)) ((ae .o .add x8 (.I 1)).bind fun v7=>nX x0 x1 x7 v7 m6 K)) (K (.exit 0) (Hs m)):=
(bC (bw _) _ _ _).trans aj
theorem FL:nV (aD f145) (.exit 0) (Hs  m)=some ((.I (-1)),m):=aj
theorem FK:nV (aD f145) .ret (HU x4 m)=some (x4,m):=aj
theorem Vu:AC aa 93 [a0] m=(ae .o .lss a0 (.I 1)).bind fun v1=>au v1 (some ((.bool true),m)) ((ae .o .gtr a0 (.I 64)).bind fun v2=>some (v2,m)):=
(aZ aa 93 [a0] m (fn:=f93) (c:=aA f93) Zh rfl).trans aj
theorem CC:AC aa 88 [a0] m=(ae .sl .eql a0 aw).bind fun v1=>au v1 (some (aw,m)) ((cq none []).bind fun v2=>(bF none false 3 none 8 m v2 a0).bind fun r3=>some (r3.1,r3.2)):=
(aZ aa 88 [a0] m (fn:=f88) (c:=aA f88) Zc rfl).trans aj
theorem Vk:AC aa 80 [a0] m=(ae .pt .eql a0 .nilp).bind fun v1=>au v1 (some ((.bool true),m)) ((d7 a0).bind fun v2=>(aR 3 v2).bind fun v3=>(am none m v3).bind fun v4=>(ae .o .eql v4 (.I 0)).bind fun v5=>some (v5,m)):=
(aZ aa 80 [a0] m (fn:=f80) (c:=aA f80) Y4 rfl).trans aj
theorem Vv:AC aa 94 [a0] m=(ae .o .geq a0 (.I 0)).bind fun v1=>au v1 ((ae .o .leq a0 (.I 2147483647)).bind fun v2=>some (v2,m)) (some ((.bool false),m)):=
(aZ aa 94 [a0] m (fn:=f94) (c:=aA f94) Zi rfl).trans aj
theorem Ig:AC aa 84 [a0,a1] m=(cQ none none m a0).bind fun r1=>(am none (aC none (aC none r1.2 (.B [(.I 0)])).2 (.B [(.I 0)])).2 r1.1).bind fun v2=>(d7 v2).bind fun v3=>(aR 1 v3).bind fun v4=>(am none (aC none (aC none r1.2 (.B [(.I 0)])).2 (.B [(.I 0)])).2 v4).bind fun v5=>(aL false v5).bind fun v6=>(aM none (aC none (aC none (aC none r1.2 (.B [(.I 0)])).2 (.B [(.I 0)])).2 (.B [(.I 0)])).2 (.ptr (aC none (aC none (aC none r1.2 (.B [(.I 0)])).2 (.B [(.I 0)])).2 .resv).1 0) v6).bind fun m7=>(jj a1).bind fun g8=>iP aa 84 (AP aa) (AC aa) none g8.1 ([]++g8.2) m7 fun v9 m10=>(aM none m10 (.ptr (aC none r1.2 .resv).1 0) v9).bind fun m11=>(aM none m11 (.ptr (aC none (aC none r1.2 (.B [(.I 0)])).2 .resv).1 0) (.I 0)).bind fun m12=>(am none m12 (.ptr (aC none r1.2 .resv).1 0)).bind fun v13=>(am none m12 (.ptr (aC none (aC none r1.2 (.B [(.I 0)])).2 .resv).1 0)).bind fun v14=>some ((.tup [v13,v14]),m12):=
(aZ aa 84 [a0,a1] m (fn:=f84) (c:=aA f84) Y8 rfl).trans aj
theorem Vw:AC aa 95 [a0,a1] m=(am none m a0).bind fun v1=>(am none m a1).bind fun v2=>(AC aa 96 [v1,v2] m).bind fun r3=>some (r3.1,r3.2):=
(aZ aa 95 [a0,a1] m (fn:=f95) (c:=aA f95) Zj rfl).trans aj
theorem Vx:AC aa 96 [a0,a1] m=(e9 (.agg [(.I 0),aw,(.I 0)]) [(0,none,(.I (-1))),(2,none,a1)]).bind fun v1=>(AC aa 139 [a0,v1] m).bind fun r2=>some (r2.1,r2.2):=
(aZ aa 96 [a0,a1] m (fn:=f96) (c:=aA f96) Zk rfl).trans aj
theorem Vl:AC aa 81 [a0,a1] m=(ae .o .geq a1 (.I 0)).bind fun v1=>au v1 ((d7 a0).bind fun v2=>(aR 1 v2).bind fun v3=>(am none m v3).bind fun v4=>(aL false v4).bind fun v5=>(ae .o .lss a1 v5).bind fun v6=>some (v6,m)) (some ((.bool false),m)):=
(aZ aa 81 [a0,a1] m (fn:=f81) (c:=aA f81) Y5 rfl).trans aj
theorem Vb:AC aa 68 [a0,a1] m=(d7 a0).bind fun v1=>(aR 1 v1).bind fun v2=>(am none m v2).bind fun v3=>(aE (some 3) v3 a1).bind fun v4=>(am (some 3) m v4).bind fun v5=>(aM (some 3) (aC none m (.B [(.I 0),aw,(.I 0)])).2 (.ptr (aC none m .resv).1 0) v5).bind fun m6=>(aR 0 (.ptr (aC none m .resv).1 0)).bind fun v7=>(am none m6 v7).bind fun v8=>(ae .o .geq v8 (.I 0)).bind fun v9=>au v9 ((aR 0 (.ptr (aC none m .resv).1 0)).bind fun v10=>(am none m6 v10).bind fun v11=>some (v11,m6)) ((d7 a0).bind fun v12=>(aR 0 v12).bind fun v13=>(am none m6 v13).bind fun v14=>(aL false v14).bind fun v15=>some (v15,m6)):=
(aZ aa 68 [a0,a1] m (fn:=f68) (c:=aA f68) YQ rfl).trans aj
def Cx:St:=⟨(aH (x2::bh (aO (aH [])))),m⟩
def Cy:St:=⟨(aJ (aH (x6::bh (aJ (aH []))))),m⟩
def yg:OM:=bD 99 (bI (c2 (aA f99))) 2 (x0::x1::x2::aJ (aH (x9::x10::x11::bh (aG [])))) m K
abbrev To:KT:=bi 99 (c2 (c2 (aA f99))) K
abbrev Tp:KT:=be 0 (To K)
abbrev w9:KT:=(Tp K)
theorem Vz:AC aa 99 [a0,a1,a2] m=(aL false a2).bind fun v1=>yg a0 a1 a2 a2 v1 (.I 0) m (w9 (aD f99)):=
(aZ aa 99 [a0,a1,a2] m (fn:=f99) (c:=aA f99) Zn rfl).trans aj
theorem Hi:yg x0 x1 x2 x9 x10 x11 m K=(ae .o .lss x11 x10).bind fun v1=>au v1 ((aE none x9 x11).bind fun v2=>(am none m v2).bind fun v3=>(aE none x2 (.I 0)).bind fun v4=>(am none m v4).bind fun v5=>(ae .o .neq v3 v5).bind fun v6=>au v6 ((e9 (.agg [(.I 0),aw,(.I 0)]) [(0,none,x1),(1,none,x2)]).bind fun v7=>(AC aa 139 [x0,v7] m).bind fun r8=>K .ret (Cy r8.1 r8.2)) ((ae .o .add x11 (.I 1)).bind fun v9=>yg x0 x1 x2 x9 x10 v9 m K)) (K (.exit 0) (Cx x2 m)):=
(bC (bw _) _ _ _).trans aj
theorem Tr:w9 (aD f99) (.exit 0) (Cx x2 m)=(aE none x2 (.I 0)).bind fun v1=>(am none m v1).bind fun v2=>some (v2,m):=aj
theorem Tq:w9 (aD f99) .ret (Cy x6 m)=some (x6,m):=aj
theorem Cz:AC aa 139 [a0,a1] m=(cQ none (some 3) m a1).bind fun r1=>(am (some 3) r1.2 r1.1).bind fun v2=>(rK [v2]).bind fun v3=>(d7 a0).bind fun v4=>(aR 2 v4).bind fun v5=>(am none r1.2 v5).bind fun v6=>(i6 .str (.I 0) r1.2 v6 v3).bind fun q7=>(aT (.tup [q7.1,.bool q7.2]) 0).bind fun v8=>(aT (.tup [q7.1,.bool q7.2]) 1).bind fun v9=>au v9 (some (v8,r1.2)) ((d7 a0).bind fun v10=>(aR 1 v10).bind fun v11=>(am none r1.2 v11).bind fun v12=>(aL false v12).bind fun v13=>(d7 a0).bind fun v14=>(aR 3 v14).bind fun v15=>(am none r1.2 v15).bind fun v16=>(ae .o .geq v13 v16).bind fun v17=>au v17 ((e9 (.agg []) []).bind fun v18=>none) ((d7 a0).bind fun v19=>(aR 1 v19).bind fun v20=>(am none (ck r1.2 1) v20).bind fun v21=>(am (some 3) (ck r1.2 1) r1.1).bind fun v22=>(cq (some 3) [v22]).bind fun v23=>(bF (some r1.2.length) false 74 (some 3) 40 (ck r1.2 1) v21 v23).bind fun r24=>(d7 a0).bind fun v25=>(aR 1 v25).bind fun v26=>(aM none r24.2 v26 r24.1).bind fun m27=>(d7 a0).bind fun v28=>(aR 2 v28).bind fun v29=>(am none m27 v29).bind fun v30=>(d7 a0).bind fun v31=>(aR 1 v31).bind fun v32=>(am none m27 v32).bind fun v33=>(aL false v33).bind fun v34=>(ae .o .sub v34 (.I 1)).bind fun v35=>(gM .str m27 v30 v3 v35).bind fun m36=>(d7 a0).bind fun v37=>(aR 1 v37).bind fun v38=>(am none m36 v38).bind fun v39=>(aL false v39).bind fun v40=>(ae .o .sub v40 (.I 1)).bind fun v41=>some (v41,m36))):=
(aZ aa 139 [a0,a1] m (fn:=f139) (c:=aA f139) XP rfl).trans aj
theorem Ia:AC aa 33 [a0,a1] m=(cQ none none m a0).bind fun r1=>(cQ none none r1.2 a1).bind fun r2=>(am none r2.2 r1.1).bind fun v3=>(AC aa 80 [v3] r2.2).bind fun r4=>au r4.1 (some ((.tup [(.I 0),(.I 4)]),r4.2)) ((am none r4.2 r2.1).bind fun v5=>(aF (AP aa) none r4.2 94 [v5]).bind fun r6=>(il .not r6.1).bind fun v7=>au v7 (some ((.tup [(.I 0),(.I 1)]),r6.2)) ((am none r6.2 r1.1).bind fun v8=>(AC aa 84 [v8,(.fn 95 [r1.1,r2.1])] r6.2).bind fun r9=>(aT r9.1 0).bind fun v10=>(aT r9.1 1).bind fun v11=>some ((.tup [v10,v11]),r9.2))):=
(aZ aa 33 [a0,a1] m (fn:=f33) (c:=aA f33) YC rfl).trans aj
theorem U0:AC aa 30 [a0] m=(AC aa 80 [a0] m).bind fun r1=>au r1.1 (some ((.I 0),r1.2)) ((d7 a0).bind fun v2=>(aR 1 v2).bind fun v3=>(am none r1.2 v3).bind fun v4=>(aL false v4).bind fun v5=>some (v5,r1.2)):=
(aZ aa 30 [a0] m (fn:=f30) (c:=aA f30) Yz rfl).trans aj
theorem Ib:AC aa 35 [a0,a1] m=(AC aa 80 [a0] (aC none m (.B [(.I 0),aw,(.I 0)])).2).bind fun r1=>au r1.1 ((e9 (.agg [(.I 0),aw,(.I 0)]) []).bind fun v2=>(aM (some 3) r1.2 (.ptr (aC none m .resv).1 0) v2).bind fun m3=>(am (some 3) m3 (.ptr (aC none m .resv).1 0)).bind fun v4=>some ((.tup [v4,(.I 4)]),m3)) ((AC aa 81 [a0,a1] r1.2).bind fun r5=>(il .not r5.1).bind fun v6=>au v6 ((e9 (.agg [(.I 0),aw,(.I 0)]) []).bind fun v7=>(aM (some 3) r5.2 (.ptr (aC none m .resv).1 0) v7).bind fun m8=>(am (some 3) m8 (.ptr (aC none m .resv).1 0)).bind fun v9=>some ((.tup [v9,(.I 1)]),m8)) ((d7 a0).bind fun v10=>(aR 1 v10).bind fun v11=>(am none r5.2 v11).bind fun v12=>(aE (some 3) v12 a1).bind fun v13=>(am (some 3) r5.2 v13).bind fun v14=>(aM (some 3) (aC none r5.2 (.B [(.I 0),aw,(.I 0)])).2 (.ptr (aC none r5.2 .resv).1 0) v14).bind fun m15=>(aR 1 (.ptr (aC none r5.2 .resv).1 0)).bind fun v16=>(am none m15 v16).bind fun v17=>(aF (AP aa) none m15 88 [v17]).bind fun r18=>(aR 1 (.ptr (aC none r5.2 .resv).1 0)).bind fun v19=>(aM none r18.2 v19 r18.1).bind fun m20=>(am (some 3) m20 (.ptr (aC none r5.2 .resv).1 0)).bind fun v21=>(aM (some 3) m20 (.ptr (aC none m .resv).1 0) v21).bind fun m22=>(am (some 3) m22 (.ptr (aC none m .resv).1 0)).bind fun v23=>some ((.tup [v23,(.I 0)]),m22))):=
(aZ aa 35 [a0,a1] m (fn:=f35) (c:=aA f35) YE rfl).trans aj
theorem UY:AC aa 28 [a0] m=(AC aa 80 [a0] m).bind fun r1=>au r1.1 (some (aw,r1.2)) ((d7 a0).bind fun v2=>(aR 0 v2).bind fun v3=>(am none r1.2 v3).bind fun v4=>(aF (AP aa) none r1.2 88 [v4]).bind fun r5=>some (r5.1,r5.2)):=
(aZ aa 28 [a0] m (fn:=f28) (c:=aA f28) Yw rfl).trans aj
end
end Go.Ab
namespace Go.Ab
theorem qed(x:Int):IntKind.wrap .i64 x=if x%18446744073709551616≥9223372036854775808 then x%18446744073709551616-18446744073709551616 else x%18446744073709551616:=by
 show (if (true&&decide (x%18446744073709551616≥9223372036854775808))=true then x%18446744073709551616-18446744073709551616 else x%18446744073709551616)=_
 simp
theorem Nm(x:Int):IntKind.wrap .u64 x=x%18446744073709551616:=by
 rfl
theorem qO(x:Int):IntKind.wrap .u32 x=x%4294967296:=by
 rfl
theorem gz{x:Int}(h:-9223372036854775808<=x)(h':x<9223372036854775808):IntKind.wrap .i64 x=x:=by
 rw[qed];split<;>omega
theorem it{x:Int}(h:0<=x)(h':x<18446744073709551616):IntKind.wrap .u64 x=x:=by
 rw[Nm];omega
theorem se{x:Int}(h:0<=x)(h':x<4294967296):IntKind.wrap .u32 x=x:=by
 rw[qO];omega
structure NV where
 z:Bool
 o:Own
 ds:List Nat
def dg(d:Nat):AV:=.int .u32 d
def NV.av(x:NV):AV:=.lst none x.z x.o (x.ds.map dg)
section
variable {R:Type}
theorem gI(tk:TK)(k:IntKind)(a b:Int):ae tk .gtr (.int k a) (.int k b)=some (.bool (decide (a>b))):=by cases tk<;>simp[ae,mW]
theorem bg(tk:TK)(k:IntKind)(a b:Int):ae tk .lss (.int k a) (.int k b)=some (.bool (decide (a<b))):=by cases tk<;>simp[ae,mW]
theorem je(tk:TK)(k:IntKind)(a b:Int):ae tk .geq (.int k a) (.int k b)=some (.bool (decide (a≥b))):=by cases tk<;>simp[ae,mW]
theorem qd(tk:TK)(k:IntKind)(a b:Int):ae tk .leq (.int k a) (.int k b)=some (.bool (decide (a<=b))):=by cases tk<;>simp[ae,mW]
theorem ik(tk:TK)(k:IntKind)(a b:Int):ae tk .eql (.int k a) (.int k b)=some (.bool (decide (a=b))):=by cases tk<;>simp[ae,mW]<;>rfl
theorem gt(tk:TK)(k:IntKind)(a b:Int):ae tk .neq (.int k a) (.int k b)=some (.bool (decide (a≠b))):=by cases tk<;>simp[ae,mW]<;>by_cases h:a=b<;>simp[h]
theorem iY(tk:TK)(k:IntKind)(a b:Int):ae tk .add (.int k a) (.int k b)=some (.int k (k.wrap (a+b))):=by cases tk<;>simp[ae,mW]
theorem mh(tk:TK)(k:IntKind)(a b:Int):ae tk .sub (.int k a) (.int k b)=some (.int k (k.wrap (a-b))):=by cases tk<;>simp[ae,mW]
theorem qe(tk:TK)(k:IntKind)(a b:Int):ae tk .mul (.int k a) (.int k b)=some (.int k (k.wrap (a*b))):=by cases tk<;>simp[ae,mW]
theorem jX(sh:Sh)(z:Bool)(o:Own)(es:List AV):aL false (.lst sh z o es)=some (.int .i64 es.length):=rfl
theorem az(p:Prop)[Decidable p](x y:Option R):au (.bool (decide p)) x y=if p then x else y:=by
 by_cases h:p<;>simp[au,h]
theorem pw{z:Bool}{o:Own}{ds:List Nat}{k:IntKind}{i:Int}(h:0<=i)(h':i<ds.length):aE none (.lst none z o (ds.map dg)) (.int k i)=some (.vptr [dg (ds.getD i.toNat 0)]):=by
 have hi:i.toNat<ds.length:=Z;simp[aE,h,hi,AV.cells,dg,aK]
theorem cr(m:af)(x:AV):am none m (.vptr [x])=some x:=rfl
theorem MI{z:Bool}{o:Own}{ds:List Nat}{k:IntKind}{i:Int}(h:0<=i)(h':i<=ds.length):jZ none (.lst none z o (ds.map dg)) none (some (.int k i)) none=some (.lst none z .no ((ds.take i.toNat).map dg)):=by
 simp[jZ,mJ,gP,h,h',sN]
end
def Own.fr:Own->Own
 | .tok ..=>.no
 | o=>o
def NV.fr(x:NV):NV:=⟨x.z,x.o.fr,x.ds⟩
def Fz(v v':AV):Prop:=∀m,bW m iI v=some (v',[])
theorem bT(x:NV):Fz x.av x.fr.av:=by
 intro m;obtain ⟨z,o,ds⟩:=x;cases o<;>rfl
theorem ft(k:IntKind)(n:Int):Fz (.int k n) (.int k n):=fun _=>rfl
theorem vz(b:Bool):Fz (.bool b) (.bool b):=fun _=>rfl
section
variable {cp:Nat->List AV->Option AV} {d:Option Nat} {m:af} {g:Nat}
theorem Ep:aF cp d m g []=(cp g []).map fun v=>(v,m):=by
 simp[aF,eU,iT]
theorem b8{a a':AV}(ha:Fz a a'):aF cp d m g [a]=(cp g [a']).map fun v=>(v,m):=by
 simp[aF,eU,iT,ha m]
theorem eC{a a' b b':AV}(ha:Fz a a')(hb:Fz b b'):aF cp d m g [a,b]=(cp g [a',b']).map fun v=>(v,m):=by
 simp[aF,eU,iT,ha m,hb m]
theorem vW{a a' b b' c c':AV}(ha:Fz a a')(hb:Fz b b')(hc:Fz c c'):aF cp d m g [a,b,c]=(cp g [a',b',c']).map fun v=>(v,m):=by
 simp[aF,eU,iT,ha m,hb m,hc m]
end
theorem fH{C:Cfg}{f:Nat}{args:List AV}{v v':AV}{m:af}{l:List Nat}(h:AC C f args []=some (v,m))(hf:bW m iI v=some (v',l))(hv:(jl args||gF v')=true):AP C f args=some v':=by
 unfold AP gO;rw[h];simp only[O,hf,ai hv]
theorem lp(x:NV):gF x.av=true:=rfl
def lw(m:af)(n:Nat):af:=m++[some (.tok n 1)]
theorem K0{e b:Nat}{z:AV}{m:af}{c:Int}(h:0<c)(h':c*b<=281474976710656)(h2:c<=9223372036854775807):fU none e none z b m (.int .i64 0) (.int .i64 c)=some (.lst none false (.tok m.length e) [],lw m 0):=by
 have h3:¬ (0:Int)=c:=Z;have h4:0<=c:=Z;simp[fU,h3,h4,h',h2,aC,lw,Sh.size]
theorem yX{e b:Nat}{m:af}{es:List AV}{z:Bool}{o:Own}{y:AV}(h:(es.length+1)*b<=fq):bF none false e none b (lw m es.length) (.lst none false (.tok m.length e) es) (.lst none z o [y])=some (.lst none false (.tok m.length e) (es++[y]),lw m (es.length+1)):=by
 simp[bF,lw,af.get,Sh.size,h]
theorem kX(k:IntKind)(n:Int):cq none [.int k n]=some (.lst none false .full [.int k n]):=rfl
theorem jF(k k':IntKind)(n:Int):ba k (.int k' n)=some (.int k (k.wrap n)):=rfl
theorem Jk(tk:TK)(k k':IntKind)(a b:Int)(h:0<=b):ae tk .shr (.int k a) (.int k' b)=some (.int k (a.fdiv (2^(min b.toNat k.bits)))):=by
 have:¬ b<0:=Z;cases tk<;>simp[ae,nP,this]
theorem vf(tk:TK)(k':IntKind)(a:Int)(h:0<=a):ae tk .shr (.int .u64 a) (.int k' 32)=some (.int .u64 (a/4294967296)):=by
 rw[Jk tk .u64 k' a 32 Z];show some (AV.int .u64 (a.fdiv 4294967296))=_;rw[Int.fdiv_eq_ediv_of_nonneg _ Z]
def jL(m:af)(ds:List Nat):af:=m++[some (.obj false (ds.map dg))]
theorem KZ{e b:Nat}{m:af}{n:Nat}(h':n*b<=281474976710656)(h2:n<=9223372036854775807):fU none e none (.int .u32 0) b m (.int .i64 n) (.int .i64 n)=some (.arr m.length 0 n none,jL m (List.replicate n 0)):=by
 have h3:(n:Int)*b<=281474976710656:=by
  have:=Int.ofNat_le.2 h';rw[nU] at this;exact this
 have h4:(n:Int)<=9223372036854775807:=Z;have h5:(0:Int)<=n:=Z;simp only[fU,h3,h4,h5,aC,jL,nk,lC,and_self,aY,cB,List.map_replicate]
 rfl
theorem Ej(m:af)(ds:List Nat):(jL m ds).obj? m.length=some (false,ds.map dg):=by
 simp[jL,af.obj?,af.get]
theorem de{nm n:Nat}{k:IntKind}{i:Nat}(h:i<n):aE none (.arr nm 0 n none) (.int k i)=some (.ptr nm i):=by
 have:(i:Int)<n:=Z;simp[aE,this,Sh.size]
theorem qbj{m:af}{ds:List Nat}{i:Nat}(h:i<ds.length):am none (jL m ds) (.ptr m.length i)=some (dg (ds.getD i 0)):=by
 simp[am,Ej,mX,aK,h]
theorem tI{m:af}{ds:List Nat}{i v:Nat}(h:i<ds.length):aM none (jL m ds) (.ptr m.length i) (.int .u32 v)=some (jL m (ds.set i v)):=by
 have h1:i+1<=ds.length:=h;simp only[aM,Ej,O,Sh.size,bA,h1,aY,cu,c9,AV.cells];congr 1;simp only[jL,bf,a8,bq];rw[nZ _ _ (aI _)];simp only[jQ,cG];congr 4;rw[List.map_set,yj];simp[h,dg,sN,List.map_drop]
theorem DU(m:af)(k:Nat):∀ds:List Nat,eU (bW m (k+1)) (ds.map dg)=some (ds.map dg,[])
 | []=>rfl
 | d::ds=>by
  have:bW m (k+1) (dg d)=some (dg d,[]):=rfl;simp[eU,this,DU m k ds]
theorem Et:∀ds:List Nat,jM (ds.map dg)=true
 | []=>rfl
 | d::ds=>by
  have:pl (dg d)=true:=rfl;simp[jM,this,Et ds]
theorem qaq(m:af)(ds:List Nat):bW (jL m ds) iI (.arr m.length 0 ds.length none)=some (.lst none false .no (ds.map dg),[m.length]):=by
 have h1:((ds.map dg).all c9)=true:=by simp[List.all_map,dg,c9]
 show ((jL m ds).obj? m.length).bind _=_;rw[Ej];simp only[O,Sh.size,bA,bj,ii,aI,decide_true,ka,kP,aY,dk,iv (by simp:(ds.map dg).length<=ds.length)];rw[DU];simp only[O,h1,Et,kP,aY,jH];rw[iv aq]
theorem qcm{cp:Nat->List AV->Option AV}{m:af}{g:Nat}{ds:List Nat}:aF cp none (jL m ds) g [.arr m.length 0 ds.length none]=(cp g [.lst none false .no (ds.map dg)]).map fun v=>(v,m++[none]):=by
 simp only[aF,eU,qaq,O,iT,Option.isSome_none,oI,aW,oO,List.foldl_nil];simp[jL]
theorem Zs(tk:TK)(k':IntKind)(a:Nat)(h:a<4294967296):ae tk .shl (.int .u64 a) (.int k' 32)=some (.int .u64 (a*4294967296:Nat)):=by
 have e:ae tk .shl (.int .u64 a) (.int k' 32)=some (.int .u64 (IntKind.wrap .u64 ((a:Int)*4294967296))):=by cases tk<;>rfl
 rw[e,it Z Z]
 rfl
end Go.Ab
namespace Go.Ab
def ja(ds:List Nat):Nat->Nat
 | 0=>0
 | n+1=>if ds.getD n 0=0 then ja ds n else n+1
theorem wh(ds:List Nat):∀n,ja ds n<=n
 | 0=>aI _
 | n+1=>by
  rw[ja]
  split
  .exact Nat.le_succ_of_le (wh ds n)
  .exact aI _
def tr(ds:List Nat):List Nat:=ds.take (ja ds ds.length)
theorem tQ(a:List Nat):(tr a).length<=a.length:=by simp only[tr,iu];omega
def Dg(a:List Nat):Prop:=∀i,a.getD i 0<4294967296
theorem Dg.take{a:List Nat}(h:Dg a)(n:Nat):Dg (a.take n):=by
 intro i;have:=h i;simp only[aK,mb] at this ⊢
 split
 .exact this
 .simp
theorem Dg.set{a:List Nat}(h:Dg a)(n v:Nat)(hv:v<4294967296):Dg (a.set n v):=by
 intro i;have:=h i;simp only[aK,uH] at this ⊢
 split
 .split
  .exact hv
  .simp
 .exact this
theorem oB{a:List Nat}(h:Dg a):Dg (tr a):=h.take _
theorem ry{l:List Nat}{i:Nat}(h:¬ (i:Int)<(l.length:Int)):l.getD i 0=0:=by
 rw[aK,kT Z];rfl
theorem ro:Dg []:=by intro i;simp
theorem jt{d:Nat}{ds:List Nat}:Dg (d::ds)↔d<4294967296/\Dg ds:=by
 constructor
 .intro h;exact ⟨h 0,fun i=>h (i+1)⟩
 .intro h i
  cases i with
  | zero=>exact h.1
  | succ i=>exact h.2 i
theorem rn{a b:List Nat}(ha:Dg a)(hb:Dg b):Dg (a++b):=by
 induction a with
 | nil=>exact hb
 | cons d a ih=>exact jt.2 ⟨(jt.1 ha).1,ih (jt.1 ha).2⟩
theorem pj{d:Nat}(h:d<4294967296):Dg [d]:=jt.2 ⟨h,ro⟩
theorem rp(n:Nat):Dg (List.replicate n 0):=by
 induction n with
 | zero=>exact ro
 | succ n ih=>exact jt.2 ⟨by decide,ih⟩
theorem po{l:List Nat}{i j v:Nat}(h:i≠j):(l.set i v).getD j 0=l.getD j 0:=by
 simp only[aK];rw[qU h]
theorem mY{l:List Nat}{i v:Nat}(h:i<l.length):(l.set i v).getD i 0=v:=by
 simp only[aK];rw[pV h];rfl
theorem zB(n i:Nat):(List.replicate n 0).getD i 0=0:=by
 simp only[aK,sK];split<;>rfl
theorem tC(p b c:Nat):p*c=p*(c%b)+p*b*(c/b):=by
 rw[cn,<- cV,Nat.mod_add_div]
theorem L3(p b x s:Nat)(h:s<=x+b):p*(x+b-s)+p*s=p*x+p*b:=by
 rw[<- cV,Nat.sub_add_cancel h,cV]
theorem Ah(p x s:Nat)(h:s<=x):p*(x-s)+p*s=p*x:=by
 rw[<- cV,Nat.sub_add_cancel h]
def val:List Nat->Nat
 | []=>0
 | d::ds=>d+4294967296*val ds
def aB(n:Nat):List Nat:=if h:n=0 then [] else n%4294967296::aB (n/4294967296)
 termination_by n
 decreasing_by exact Nat.div_lt_self Z Z
theorem jg:aB 0=[]:=by rw[aB];rfl
theorem rq{n:Nat}(h:n≠0):aB n=n%4294967296::aB (n/4294967296):=by rw[aB,dif_neg h]
theorem fB(n:Nat):val (aB n)=n:=by
 induction n using Nat.strongRecOn with
 | ind n ih=>
  by_cases h:n=0
  .subst h;rw[jg];rfl
  .rw[rq h,val,ih _ (Nat.div_lt_self Z Z)];omega
theorem eQ(n:Nat):Dg (aB n):=by
 induction n using Nat.strongRecOn with
 | ind n ih=>
  by_cases h:n=0
  .subst h;rw[jg];exact ro
  .rw[rq h];exact jt.2 ⟨io _ Z,ih _ (Nat.div_lt_self Z Z)⟩
theorem kE{k:Nat}:∀{n:Nat},n<4294967296^k->(aB n).length<=k:=by
 induction k with
 | zero=>
   intro n h;have:n=0:=by simpa using h
   subst this;rw[jg];exact aI _
 | succ k ih=>
  intro n h
  by_cases h0:n=0
  .subst h0;rw[jg];exact jd _
  .rw[rq h0,a8];refine Nat.succ_le_succ (ih ?_);rw[ij] at h;exact Nat.div_lt_of_lt_mul (by rw[bU];exact h)
theorem jA{ds:List Nat}(h:Dg ds):val ds<4294967296^ds.length:=by
 induction ds with
 | nil=>exact Nat.one_pos
 | cons d ds ih=>
  have ih:=ih (jt.1 h).2;have hd:=(jt.1 h).1;rw[val,a8,ij];omega
theorem JJ{ds:List Nat}(h:Dg ds):(aB (val ds)).length<=ds.length:=kE (jA h)
theorem wq{n:Nat}:aB n=[]↔n=0:=by
 constructor
 .intro h;have:=fB n;rw[h] at this;exact this.symm
 .intro h;subst h;exact jg
theorem Z0{a b:Nat}(h:aB a=aB b):a=b:=by
 have:=cA val h
 rwa [fB,fB] at this
theorem M5(d:Nat)(ds:List Nat):∀n,ja (d::ds) (n+1)=if ja ds n=0 then (if d=0 then 0 else 1) else ja ds n+1
 | 0=>by
  simp only[ja,lZ,aY]
 | n+1=>by
  rw[ja,M5 d ds n];simp only[sI];rw[ja]
  by_cases h:ds.getD n 0=0
  .rw[ai h,ai h]
  .rw[ag h,ag h,ag Z]
theorem qdP(d:Nat)(ds:List Nat):tr (d::ds)=if tr ds=[] then (if d=0 then [] else [d]) else d::tr ds:=by
 have h0:tr ds=[]↔ja ds ds.length=0:=by
  have:=wh ds ds.length;rw[tr,<- List.length_eq_zero_iff,iu];omega
 rw[tr,a8,M5]
 by_cases h:ja ds ds.length=0
 .rw[ai h,ai (h0.2 h)];split<;>rfl
 .rw[ag h,ag (fun e=>h (h0.1 e))]
  rfl
theorem jb{ds:List Nat}(h:Dg ds):tr ds=aB (val ds):=by
 induction ds with
 | nil=>rw[val,jg];rfl
 | cons d ds ih=>
  have hd:=(jt.1 h).1;rw[qdP,ih (jt.1 h).2,val]
  by_cases h0:val ds=0
  .rw[ai (wq.2 h0),h0]
   split
   .subst d;exact jg.symm
   .rw[rq Z,show (d+4294967296*0)%4294967296=d by omega,show (d+4294967296*0)/4294967296=0 by omega,jg]
  .rw[ag (fun e=>h0 (wq.1 e)),rq (n:=d+4294967296*val ds) Z,show (d+4294967296*val ds)%4294967296=d by omega,show (d+4294967296*val ds)/4294967296=val ds by omega]
theorem qM{ds:List Nat}(h:Dg ds):val (tr ds)=val ds:=by rw[jb h,fB]
theorem qL(a b:List Nat):val (a++b)=val a+4294967296^a.length*val b:=by
 induction a with
 | nil=>simp[val]
 | cons d a ih=>
  rw[cc,val,val,ih,a8,ij,cV,jD,bU (4294967296^a.length) 4294967296,cn]
theorem wt:∀(l:List Nat) (i v:Nat),i<l.length->val (l.set i v)+4294967296^i*l.getD i 0=val l+4294967296^i*v
 | [],i,v,h=>by simp at h
 | d::l,0,v,h=>by simp[val];omega
 | d::l,i+1,v,h=>by
  have ih:=wt l i v (by simpa using h);simp only[dn,val,sI,ij];rw[bU (4294967296^i) 4294967296,cn,cn];omega
def vs(a:List Nat)(i:Nat):Nat:=val (a.take i)
theorem nh(a:List Nat):vs a 0=0:=rfl
theorem gH{a:List Nat}{i:Nat}(h:a.length<=i):vs a i=val a:=by rw[vs,iv h]
theorem hJ(a:List Nat)(i:Nat):vs a (i+1)=vs a i+4294967296^i*a.getD i 0:=by
 by_cases h:i<a.length
 .rw[vs,kC h,qL,iu,Nat.min_eq_left Z,aK,bn h,vs];simp[val]
 .rw[gH Z,gH Z,aK,kT Z];simp
theorem qN{a:List Nat}(h:Dg a)(i:Nat):vs a i<4294967296^i:=by
 have h1:=jA (h.take i);refine mN h1 (lF Z ?_);rw[iu];omega
theorem AN(n:Nat):val (List.replicate n 0)=0:=by
 induction n with
 | zero=>rfl
 | succ n ih=>rw[sQ,val,ih]
def jr(a b:List Nat):Nat->Int
 | 0=>0
 | n+1=>if a.getD n 0<b.getD n 0 then -1 else if a.getD n 0>b.getD n 0 then 1 else jr a b n
def ph(a b:List Nat):Int:=if a.length<b.length then -1 else if a.length>b.length then 1 else jr a b a.length
def fS(a b:Nat):Int:=if a<b then -1 else if a>b then 1 else 0
theorem JD{a b:List Nat}(ha:Dg a)(hb:Dg b):∀n,jr a b n=fS (vs a n) (vs b n)
 | 0=>by simp[jr,nh,fS]
 | n+1=>by
  have ih:=JD ha hb n;have h1:=qN ha n;have h2:=qN hb n;rw[jr,hJ,hJ,ih];generalize 4294967296^n=p at *;generalize a.getD n 0=x;generalize b.getD n 0=y;unfold fS
  by_cases h:x<y
  .have:p*(x+1)<=p*y:=iF _ h;rw[cV] at this;rw[ai h,ai Z]
  .by_cases h':x>y
   .have:p*(y+1)<=p*x:=iF _ h';rw[cV] at this;rw[ag h,ai h',ag Z,ai Z]
   .have:x=y:=Z;subst this;rw[ag h,ag h'];simp only[Nat.add_lt_add_iff_right,gt_iff_lt]
theorem zh{n k:Nat}(h:k<(aB n).length):4294967296^k<=n:=by
 apply lT;intro hn;have:=kE (Nat.lt_of_not_le hn);omega
theorem JC(a b:Nat):ph (aB a) (aB b)=fS a b:=by
 have ha:=jA (eQ a);have hb:=jA (eQ b);rw[fB] at ha hb;unfold ph
 by_cases h:(aB a).length<(aB b).length
 .have:=zh h;rw[ai h,fS,ai Z]
 .rw[ag h]
  by_cases h':(aB a).length>(aB b).length
  .have:=zh h';rw[ai h',fS,ag Z,ai Z]
  .rw[ag h',JD (eQ a) (eQ b),gH (aI _),gH Z,fB,fB]
theorem ZP{a b:List Nat}(ha:Dg a)(hb:Dg b):ph (tr a) (tr b)=fS (val a) (val b):=by rw[jb ha,jb hb,JC]
def bV(a b:List Nat):Nat->List Nat×Nat
 | 0=>([],0)
 | i+1=>((bV a b i).1++[((bV a b i).2+a.getD i 0+b.getD i 0)%4294967296],((bV a b i).2+a.getD i 0+b.getD i 0)/4294967296)
theorem qa(a b:List Nat):∀i,(bV a b i).1.length=i
 | 0=>rfl
 | i+1=>by simp[bV,qa a b i]
theorem rc{a b:List Nat}(ha:Dg a)(hb:Dg b):∀i,(bV a b i).2<=1
 | 0=>by simp[bV]
 | i+1=>by
  have:=rc ha hb i;have h1:=ha i;have h2:=hb i;simp only[bV];omega
theorem CM(a b:List Nat):∀i,Dg (bV a b i).1
 | 0=>ro
 | i+1=>rn (CM a b i) (pj (io _ Z))
theorem CN(a b:List Nat):∀i,val (bV a b i).1+4294967296^i*(bV a b i).2=vs a i+vs b i
 | 0=>by simp[bV,val,nh]
 | i+1=>by
  have ih:=CN a b i;simp only[bV,qL,qa,val,hJ,ij];have h1:=tC (4294967296^i) 4294967296 ((bV a b i).2+a.getD i 0+b.getD i 0);generalize hs:(bV a b i).2+a.getD i 0+b.getD i 0=s at *;rw[<- hs,cV,cV,hs] at h1;rw[kh,iw];omega
def u6(a b:List Nat):List Nat:=tr ((bV a b a.length).1++[(bV a b a.length).2])
def sX(a b:List Nat):List Nat:=if a.length<b.length then u6 b a else u6 a b
theorem I5{a b:List Nat}(ha:Dg a)(hb:Dg b)(h:b.length<=a.length):u6 a b=aB (val a+val b):=by
 have hc:=rc ha hb a.length;rw[u6,jb (rn (CM _ _ _) (pj Z)),qL,qa];have:=CN a b a.length;rw[gH (aI _),gH h] at this;simp only[val,kh,iw,this]
theorem W0{a b:List Nat}(ha:Dg a)(hb:Dg b):sX a b=aB (val a+val b):=by
 unfold sX
 split
 .rw[I5 hb ha Z,nr]
 .rw[I5 ha hb Z]
theorem W6{a b:List Nat}(ha:Dg a)(hb:Dg b):sX (tr a) (tr b)=aB (val a+val b):=by
 rw[W0 (oB ha) (oB hb),qM ha,qM hb]
def fm(b:List Nat)(x i:Nat):Nat->List Nat×Nat->List Nat×Nat
 | 0,s=>s
 | k+1,s=>let t:=fm b x i k s
  (t.1.set (i+k) ((t.2+(t.1.getD (i+k) 0+x*b.getD k 0))%4294967296),(t.2+(t.1.getD (i+k) 0+x*b.getD k 0))/4294967296)
theorem qy(b:List Nat)(x i:Nat)(s:List Nat×Nat):∀k,(fm b x i k s).1.length=s.1.length
 | 0=>rfl
 | k+1=>by simp[fm,qy b x i s k]
theorem ti{b:List Nat}{x i:Nat}{s:List Nat×Nat}(hb:Dg b)(hx:x<4294967296)(hs:Dg s.1)(hc:s.2<4294967296):∀k,Dg (fm b x i k s).1/\(fm b x i k s).2<4294967296
 | 0=>⟨hs,hc⟩
 | k+1=>by
  obtain ⟨h1,h2⟩:=ti hb hx hs hc k;have h3:=h1 (i+k);have h4:=hb k;have h5:x*b.getD k 0<=4294967295*4294967295:=mP Z Z;refine ⟨h1.set _ _ (io _ Z),?_⟩;simp only[fm];omega
theorem Lc(b:List Nat)(x i:Nat)(s:List Nat×Nat):∀k,i+k<=s.1.length->val (fm b x i k s).1+4294967296^(i+k)*(fm b x i k s).2=val s.1+4294967296^i*(s.2+x*vs b k)
 | 0,_=>by simp[fm,nh]
 | k+1,h=>by
  have ih:=Lc b x i s k Z;have hl:=qy b x i s k;simp only[fm,hJ];generalize fm b x i k s=t at *;have h1:=wt t.1 (i+k) ((t.2+(t.1.getD (i+k) 0+x*b.getD k 0))%4294967296) Z;have h2:=tC (4294967296^(i+k)) 4294967296 (t.2+(t.1.getD (i+k) 0+x*b.getD k 0))
  have h3:4294967296^i*(s.2+x*(vs b k+4294967296^k*b.getD k 0))=4294967296^i*(s.2+x*vs b k)+4294967296^(i+k)*(x*b.getD k 0):=by
   rw[mQ];simp only[cV,jD];congr 2;simp only[<- cn];congr 1;rw[Nat.mul_right_comm]
  rw[h3];generalize hw:t.2+(t.1.getD (i+k) 0+x*b.getD k 0)=w at *;rw[<- hw,cV,cV,hw] at h2;rw[<- jD,ij];omega
def fV(a b:List Nat):Nat->List Nat
 | 0=>List.replicate (a.length+b.length) 0
 | i+1=>(fm b (a.getD i 0) i b.length (fV a b i,0)).1.set (i+b.length) (fm b (a.getD i 0) i b.length (fV a b i,0)).2
def vP(a b:List Nat):List Nat:=tr (fV a b a.length)
theorem qx(a b:List Nat):∀i,(fV a b i).length=a.length+b.length
 | 0=>by simp[fV]
 | i+1=>by simp[fV,qy,qx a b i]
theorem rI{a b:List Nat}(ha:Dg a)(hb:Dg b):∀i,Dg (fV a b i)
 | 0=>rp _
 | i+1=>by
  have ih:=rI ha hb i;obtain ⟨h1,h2⟩:=ti (i:=i) (s:=(fV a b i,0)) hb (ha i) ih aq b.length;exact h1.set _ _ h2
theorem D5(b:List Nat)(x i:Nat)(s:List Nat×Nat)(j:Nat):∀k,i+k<=j->(fm b x i k s).1.getD j 0=s.1.getD j 0
 | 0,_=>rfl
 | k+1,h=>by
  have ih:=D5 b x i s j k Z;rw[<- ih];simp only[fm,aK];rw[qU Z]
theorem Lb(a b:List Nat)(j:Nat):∀i,i+b.length<=j->(fV a b i).getD j 0=0
 | 0,h=>by
  simp only[fV,aK,sK];split<;>rfl
 | i+1,h=>by
  have ih:=Lb a b j i Z;rw[fV,po Z,D5 b (a.getD i 0) i (fV a b i,0) j b.length Z];exact ih
theorem D4(a b:List Nat):∀i,i<=a.length->val (fV a b i)=vs a i*val b
 | 0,_=>by simp[fV,AN,nh]
 | i+1,h=>by
  have ih:=D4 a b i Z;have hl:=qx a b i;have h1:=Lc b (a.getD i 0) i (fV a b i,0) b.length (by simp only[hl];omega)
  have h0:(fm b (a.getD i 0) i b.length (fV a b i,0)).1.getD (i+b.length) 0=0:=by
   rw[D5 _ _ _ _ _ _ (aI _)];exact Lb a b _ i (aI _)
  have h2:=wt (fm b (a.getD i 0) i b.length (fV a b i,0)).1 (i+b.length) (fm b (a.getD i 0) i b.length (fV a b i,0)).2 (by rw[qy];simp only[hl];omega);rw[h0,kh,iw] at h2;rw[fV,h2,h1,ih,gH (aI _),hJ,eW,bj,cn]
theorem qbA{a b:List Nat}(ha:Dg a)(hb:Dg b):vP a b=aB (val a*val b):=by
 rw[vP,jb (rI ha hb _),D4 _ _ _ (aI _),gH (aI _)]
theorem qbB{a b:List Nat}(ha:Dg a)(hb:Dg b):vP (tr a) (tr b)=aB (val a*val b):=by
 rw[qbA (oB ha) (oB hb),qM ha,qM hb]
def eZ(a b:List Nat):Nat->List Nat×Nat
 | 0=>(List.replicate a.length 0,0)
 | i+1=>if a.getD i 0<(eZ a b i).2+b.getD i 0 then ((eZ a b i).1.set i (a.getD i 0+4294967296-((eZ a b i).2+b.getD i 0)),1)
  else ((eZ a b i).1.set i (a.getD i 0-((eZ a b i).2+b.getD i 0)),0)
def AB(a b:List Nat):List Nat:=tr (eZ a b a.length).1
theorem tL(a b:List Nat):∀i,(eZ a b i).1.length=a.length
 | 0=>by simp[eZ]
 | i+1=>by simp only[eZ];split<;>simp[tL a b i]
theorem AD(a b:List Nat):∀i,(eZ a b i).2<=1
 | 0=>by simp[eZ]
 | i+1=>by simp only[eZ];split<;>simp
theorem tK{a b:List Nat}(ha:Dg a)(hb:Dg b):∀i,Dg (eZ a b i).1
 | 0=>rp _
 | i+1=>by
  have:=AD a b i;have h1:=ha i;have h2:=hb i;simp only[eZ]
  split
  .exact (tK ha hb i).set _ _ Z
  .exact (tK ha hb i).set _ _ Z
theorem MT(a b:List Nat)(j:Nat):∀i,i<=j->(eZ a b i).1.getD j 0=0
 | 0,_=>by
  simp only[eZ,aK,sK];split<;>rfl
 | i+1,h=>by
  have ih:=MT a b j i Z;simp only[eZ];split<;>simp only[]<;>rw[po Z,ih]
theorem MU{p x y b v1:Nat}{va vb r:Nat}(ih:r+vb=va+p*b) :
  (x<b+y->b+y<=x+v1->r+p*(x+v1-(b+y))+(vb+p*y)=va+p*x+p*v1*1)/\(¬ x<b+y->r+p*(x-(b+y))+(vb+p*y)=va+p*x+p*v1*0):=by
 constructor
 .intro h h';have e:=L3 p v1 x (b+y) h';rw[cV _ b] at e;rw[ii];omega
 .intro h;have e:=Ah p x (b+y) Z;rw[cV _ b] at e;rw[kh];omega
theorem qds{a b:List Nat}(ha:Dg a)(hb:Dg b)(i:Nat):i<=a.length->val (eZ a b i).1+vs b i=vs a i+4294967296^i*(eZ a b i).2:=by
 induction i with
 | zero=>
  intro _;rw[eZ,AN,nh,nh]
  rfl
 | succ i ih=>
  intro h;have ih:=ih Z;have hl:=tL a b i;have h0:=MT a b i i (aI _);have hc:=AD a b i;have h1:=ha i;have h2:=hb i;rw[hJ,hJ,ij,eZ];obtain ⟨s1,s2⟩:=MU (x:=a.getD i 0) (y:=b.getD i 0) (v1:=4294967296) ih
  have hs:∀v,val ((eZ a b i).1.set i v)=val (eZ a b i).1+4294967296^i*v:=by
   intro v;have:=wt (eZ a b i).1 i v Z
   rwa [h0,kh,iw] at this
  split
  .rename_i hlt;rw[hs];exact s1 hlt Z
  .rename_i hlt;rw[hs];exact s2 hlt
theorem Nj(a:List Nat)(i:Nat):∀k,vs a i<=vs a (i+k)
 | 0=>aI _
 | k+1=>by rw[<- jD,hJ];exact eP (Nj a i k) (Nat.le_add_right _ _)
theorem Ni(a:List Nat)(i:Nat):vs a i<=val a:=by
 have:=Nj a i a.length
 rwa [gH (by omega:a.length<=i+a.length)] at this
theorem Nh{a b:List Nat}(ha:Dg a)(h:val b<=val a):vs b a.length=val b:=by
 have h1:=jA ha;apply lT;intro hn;have hlt:vs b a.length<val b:=Nat.lt_of_le_of_ne (Ni _ _) hn
 have:∀k,vs b a.length<vs b (a.length+k)->4294967296^a.length<=vs b (a.length+k):=by
  intro k
  induction k with
  | zero=>intro h;exact absurd h (pZ _)
  | succ k ih=>
   intro hk;rw[<- jD,hJ] at hk ⊢
   by_cases h0:vs b a.length<vs b (a.length+k)
   .exact eP (ih h0) (Nat.le_add_right _ _)
   .have:b.getD (a.length+k) 0≠0:=by
     intro e;rw[e] at hk;omega
    have h3:4294967296^a.length<=4294967296^(a.length+k):=lF Z Z;have h4:4294967296^(a.length+k)*1<=4294967296^(a.length+k)*b.getD (a.length+k) 0:=iF _ Z;omega
 have:=this b.length (by rwa [gH (by omega:b.length<=a.length+b.length)]);rw[gH (by omega:b.length<=a.length+b.length)] at this;omega
theorem qdq{a b:List Nat}(ha:Dg a)(hb:Dg b)(h:val b<=val a):AB a b=aB (val a-val b):=by
 rw[AB,jb (tK ha hb _)];have h1:=qds ha hb a.length (aI _);rw[gH (aI _),Nh ha h] at h1;have h2:=jA (tK ha hb a.length);rw[tL] at h2;have h3:=jA ha;have hc:=AD a b a.length;congr 1
 have:(eZ a b a.length).2=0:=by
  apply lT;intro hn;have e:(eZ a b a.length).2=1:=Z;rw[e,ii] at h1;omega
 rw[this,kh,iw] at h1;omega
theorem qdr{a b:List Nat}(ha:Dg a)(hb:Dg b)(h:val b<=val a):AB (tr a) (tr b)=aB (val a-val b):=by
 rw[qdq (oB ha) (oB hb) (by rwa [qM ha,qM hb]),qM ha,qM hb]
end Go.Ab
namespace Go.Ab
section
variable {tk:TK} {k k':IntKind} {a b:Nat}
theorem tj:ae tk .gtr (.int k a) (.int k b)=some (.bool (decide (a>b))):=by rw[gI];congr 2;exact iz.2 Z
theorem bS:ae tk .lss (.int k a) (.int k b)=some (.bool (decide (a<b))):=by rw[bg];congr 2;exact iz.2 Z
theorem zW:ae tk .geq (.int k a) (.int k b)=some (.bool (decide (a≥b))):=by rw[je];congr 2;exact iz.2 Z
theorem vQ:ae tk .eql (.int k a) (.int k b)=some (.bool (decide (a=b))):=by rw[ik];congr 2;exact iz.2 Z
theorem D7:ae tk .neq (.int k a) (.int k b)=some (.bool (decide (a≠b))):=by rw[gt];congr 2;exact iz.2 Z
theorem pA:ae tk .gtr (.int k a) (.int k 0)=some (.bool (decide (a>0))):=tj (b:=0)
theorem vR:ae tk .geq (.int k a) (.int k 0)=some (.bool true):=by rw[je];congr 2
theorem D6:ae tk .lss (.int k a) (.int k 0)=some (.bool false):=by rw[bg];congr 2
theorem kH:ae tk .eql (.int k a) (.int k 0)=some (.bool (decide (a=0))):=vQ (b:=0)
theorem qbE:ae tk .neq (.int k a) (.int k 0)=some (.bool (decide (a≠0))):=D7 (b:=0)
theorem qz:ae tk .eql (.int k a) (.int k 1)=some (.bool (decide (a=1))):=vQ (b:=1)
theorem Le:ae tk .eql (.int k a) (.int k 2)=some (.bool (decide (a=2))):=vQ (b:=2)
theorem qbD:ae tk .geq (.int k a) (.int k 4294967296)=some (.bool (decide (a≥4294967296))):=zW (b:=4294967296)
theorem zX:ae tk .lss (.int k a) (.int k 4294967296)=some (.bool (decide (a<4294967296))):=bS (b:=4294967296)
theorem j0(h:a+b<18446744073709551616):ae tk .add (.int .u64 a) (.int .u64 b)=some (.int .u64 (a+b:Nat)):=by
 rw[iY,it Z Z];rfl
theorem wi(h:a*b<18446744073709551616):ae tk .mul (.int .u64 a) (.int .u64 b)=some (.int .u64 (a*b:Nat)):=by
 rw[qe,<- nU,it Z Z]
theorem rZ(h:b<=a)(h':a<18446744073709551616):ae tk .sub (.int .u64 a) (.int .u64 b)=some (.int .u64 (a-b:Nat)):=by
 rw[mh,it Z Z];congr 2;omega
theorem AJ(h:1<=a)(h':a<18446744073709551616):ae tk .sub (.int .u64 a) (.int .u64 1)=some (.int .u64 (a-1:Nat)):=rZ (b:=1) h h'
theorem rY(h:b≠0)(h':a<18446744073709551616):ae tk .quo (.int .u64 a) (.int .u64 b)=some (.int .u64 (a/b:Nat)):=by
 have e:ae tk .quo (.int .u64 a) (.int .u64 b)=if (b:Int)=0 then none else some (.int .u64 (IntKind.wrap .u64 ((a:Int).tdiv b))):=by cases tk<;>rfl
 rw[e,ag Z];have e2:(a:Int).tdiv b=((a/b:Nat):Int):=rfl;have:=qW a b;rw[e2];generalize a/b=q at *;rw[it Z Z]
theorem tS(h:b≠0)(h':a<18446744073709551616):ae tk .rem (.int .u64 a) (.int .u64 b)=some (.int .u64 (a%b:Nat)):=by
 have e:ae tk .rem (.int .u64 a) (.int .u64 b)=if (b:Int)=0 then none else some (.int .u64 ((a:Int).tmod b)):=by cases tk<;>rfl
 rw[e,ag Z]
 rfl
theorem qd3(h':a<18446744073709551616):ae tk .and (.int .u64 a) (.int .u64 4294967295)=some (.int .u64 (a%4294967296:Nat)):=by
 have e:ae tk .and (.int .u64 a) (.int .u64 4294967295)=some (.int .u64 (IntKind.wrap .u64 ((BitVec.ofInt 64 a &&& BitVec.ofInt 64 4294967295).toNat:Nat))):=by cases tk<;>rfl
 have e2:(BitVec.ofInt 64 (a:Int) &&& BitVec.ofInt 64 4294967295).toNat=a%4294967296:=by
  rw[BitVec.toNat_and,t7,t7];have h1:(((a:Nat):Int)%((2^64:Nat):Int)).toNat=a:=Z;have h2:((4294967295:Int)%((2^64:Nat):Int)).toNat=2^32-1:=Z;rw[h1,h2,Nat.and_two_pow_sub_one_eq_mod]
 rw[e,e2,it Z Z]
theorem wk(h:a<4294967296):ae tk .shl (.int .u64 a) (.int k' 32)=some (.int .u64 (a*4294967296:Nat)):=Zs tk k' a h
theorem AI:ae tk .shr (.int .u64 a) (.int k' 32)=some (.int .u64 (a/4294967296:Nat)):=by
 rw[vf tk k' a Z];rfl
theorem wj(h:a<4294967296)(h':b<4294967296):ae tk .or (.int .u64 (a*4294967296:Nat)) (.int .u64 b)=some (.int .u64 (a*4294967296+b:Nat)):=by
 have e:ae tk .or (.int .u64 (a*4294967296:Nat)) (.int .u64 b)=some (.int .u64 (IntKind.wrap .u64 ((BitVec.ofInt 64 (a*4294967296:Nat) ||| BitVec.ofInt 64 b).toNat:Nat))):=by cases tk<;>rfl
 have e2:(BitVec.ofInt 64 ((a*4294967296:Nat):Int) ||| BitVec.ofInt 64 (b:Int)).toNat=a*4294967296+b:=by
  rw[BitVec.toNat_or,t7,t7];have h1:(((b:Nat):Int)%((2^64:Nat):Int)).toNat=b:=Z;have h2:(((a*4294967296:Nat):Int)%((2^64:Nat):Int)).toNat=a*4294967296:=Z;rw[h1,h2];have:=Nat.two_pow_add_eq_or_of_lt (i:=32) (b:=b) Z a;rw[show a*4294967296=2^32*a by omega,<- this]
 rw[e,e2,it Z Z]
theorem iJ(h:a+b<9223372036854775808):ae tk .add (.int .i64 a) (.int .i64 b)=some (.int .i64 (a+b:Nat)):=by
 rw[iY,gz Z Z];rfl
theorem b6(h:a+1<9223372036854775808):ae tk .add (.int .i64 a) (.int .i64 1)=some (.int .i64 (a+1:Nat)):=iJ (b:=1) h
theorem jI(h:b<=a)(h':a<9223372036854775808):ae tk .sub (.int .i64 a) (.int .i64 b)=some (.int .i64 (a-b:Nat)):=by
 rw[mh,gz Z Z];congr 2;omega
theorem lh(h:1<=a)(h':a<9223372036854775808):ae tk .sub (.int .i64 a) (.int .i64 1)=some (.int .i64 (a-1:Nat)):=jI (b:=1) h h'
theorem Kg(h:2<=a)(h':a<9223372036854775808):ae tk .sub (.int .i64 a) (.int .i64 2)=some (.int .i64 (a-2:Nat)):=jI (b:=2) h h'
theorem mZ(h':a<9223372036854775808):ae tk .sub (.int .i64 a) (.int .i64 1)=some (.int .i64 ((a:Int)-1)):=by
 rw[mh,gz Z Z]
theorem vn(h:a<18446744073709551616):ba .u64 (.int k a)=some (.int .u64 a):=by rw[jF,it Z Z]
theorem jq:ba .u32 (.int k a)=some (.int .u32 (a%4294967296:Nat)):=by rw[jF,qO];rfl
theorem jp(d:Nat)(h:d<4294967296):ba .u64 (dg d)=some (.int .u64 d):=vn Z
theorem M9{s:Nat}(hs:s<32)(h:a<4294967296):ae tk .shl (.int .u32 a) (.int .u64 s)=some (.int .u32 (a*2^s%4294967296:Nat)):=by
 have e:ae tk .shl (.int .u32 a) (.int .u64 s)=nP true .u32 a s:=by cases tk<;>rfl
 have e3:IntKind.bits .u32=32:=rfl;rw[e,nP,ag Z,ai rfl,e3,cB,Nat.min_eq_left Z,qO];congr 2
theorem Fa{s:Nat}(hs:s<32):ae tk .shr (.int .u32 a) (.int .u64 s)=some (.int .u32 (a/2^s:Nat)):=by
 have e:ae tk .shr (.int .u32 a) (.int .u64 s)=nP false .u32 a s:=by cases tk<;>rfl
 have e3:IntKind.bits .u32=32:=rfl;rw[e,nP,ag Z,ag (by decide),e3,cB,Nat.min_eq_left Z,Int.fdiv_eq_ediv_of_nonneg _ (by exact Int.le_of_lt (Int.pow_pos Z))];congr 2
theorem qd2{s:Nat}(hs:s<32)(h:a<4294967296):ae tk .shl (.int .u64 a) (.int .u64 s)=some (.int .u64 (a*2^s:Nat)):=by
 have e:ae tk .shl (.int .u64 a) (.int .u64 s)=nP true .u64 a s:=by cases tk<;>rfl
 have e3:IntKind.bits .u64=64:=rfl;have h1:2^s<=2^31:=lF Z Z;have h2:a*2^s<=a*2^31:=iF _ h1;have h3:(a:Int)*2^s=((a*2^s:Nat):Int):=by rw[nU,Int.natCast_pow];rfl
 rw[e,nP,ag Z,ai rfl,e3,cB,Nat.min_eq_left Z,h3,it Z Z]
theorem qb4{x y s:Nat}(h:x<2^s)(hy:y%2^s=0):x ||| y=x+y:=by
 have e:y=2^s*(y/2^s):=by have:=oV y (2^s);omega
 rw[e,Nat.or_comm,<- Nat.two_pow_add_eq_or_of_lt h,nr]
theorem M8{s:Nat}(h:a<2^s)(hb:b%2^s=0)(hs:a+b<4294967296):ae tk .or (.int .u32 a) (.int .u32 b)=some (.int .u32 (a+b:Nat)):=by
 have e:ae tk .or (.int .u32 a) (.int .u32 b)=some (.int .u32 (IntKind.wrap .u32 ((BitVec.ofInt 32 a ||| BitVec.ofInt 32 b).toNat:Nat))):=by cases tk<;>rfl
 have e2:(BitVec.ofInt 32 (a:Int) ||| BitVec.ofInt 32 (b:Int)).toNat=a+b:=by
  rw[BitVec.toNat_or,t7,t7];have h1:(((a:Nat):Int)%((2^32:Nat):Int)).toNat=a:=Z;have h2:(((b:Nat):Int)%((2^32:Nat):Int)).toNat=b:=Z;rw[h1,h2,qb4 h hb]
 rw[e,e2,se Z Z]
theorem qdZ:ae tk .add (.int .u32 a) (.int .u32 b)=some (.int .u32 ((a+b)%4294967296:Nat)):=by
 rw[iY,qO];rfl
end
theorem ju{x:NV}{k:IntKind}{i:Nat}(h:i<x.ds.length):aE none x.av (.int k i)=some (.vptr [dg (x.ds.getD i 0)]):=by
 rw[NV.av,pw Z Z];simp
theorem zG{x:NV}{k:IntKind}(h:0<x.ds.length):aE none x.av (.int k 0)=some (.vptr [dg (x.ds.getD 0 0)]):=ju (i:=0) h
theorem fT(x:NV):aL false x.av=some (.int .i64 x.ds.length):=by simp[NV.av,aL]
theorem iL{m:af}{x:AV}:am none m (.vptr [x])=some x:=rfl
def oc(ds:List Nat):Option Ent:=some (.obj false (ds.map dg))
theorem Ek{m:af}{n:Nat}{ds:List Nat}(h:m[n]?=some (oc ds)):m.obj? n=some (false,ds.map dg):=by
 simp[af.obj?,af.get,h,oc]
theorem nL{m:af}{n:Nat}{ds:List Nat}{i:Nat}(h:m[n]?=some (oc ds))(hi:i<ds.length):am none m (.ptr n i)=some (dg (ds.getD i 0)):=by
 simp[am,Ek h,mX,aK,hi]
theorem kM{m:af}{n:Nat}{ds:List Nat}{i v:Nat}(h:m[n]?=some (oc ds))(hi:i<ds.length):aM none m (.ptr n i) (.int .u32 v)=some (m.set n (oc (ds.set i v))):=by
 have h1:i+1<=ds.length:=hi;simp only[aM,Ek h,O,Sh.size,bA,h1,aY,cu,c9,AV.cells,oc];congr 4;simp only[bf,a8,bq];rw[List.map_set,yj];simp[hi,dg,sN,List.map_drop]
theorem qw{e b:Nat}{m:af}{n:Nat}(h':n*b<=281474976710656)(h2:n<=9223372036854775807):fU none e none (.int .u32 0) b m (.int .i64 n) (.int .i64 n)=some (.arr m.length 0 n none,m++[oc (List.replicate n 0)]):=KZ h' h2
theorem qbf(nm n:Nat):aL false (.arr nm 0 n none)=some (.int .i64 n):=rfl
theorem qar{m:af}{nm:Nat}{ds:List Nat}(h:m[nm]?=some (oc ds)):bW m iI (.arr nm 0 ds.length none)=some (.lst none false .no (ds.map dg),[nm]):=by
 have h1:((ds.map dg).all c9)=true:=by simp[List.all_map,dg,c9]
 show (m.obj? nm).bind _=_;rw[Ek h];simp only[O,Sh.size,bA,bj,ii,aI,decide_true,ka,kP,aY,dk,iv (by simp:(ds.map dg).length<=ds.length)];rw[DU];simp only[O,h1,Et,kP,aY,jH];rw[iv aq]
theorem qC{cp:Nat->List AV->Option AV}{m:af}{g nm:Nat}{ds:List Nat}(h:m[nm]?=some (oc ds)):aF cp none m g [.arr nm 0 ds.length none]=(cp g [(NV.mk false .no ds).av]).map fun v=>(v,m.set nm none):=by
 simp only[aF,eU,qar h,O,iT,Option.isSome_none,oI,aW,oO,List.foldl_nil]
 rfl
end Go.Ab
namespace Go.Ab
open Go.Proofs
theorem bP{m:af}{e:Option Ent}{nm:Nat}(h:nm<m.length):af.get (m++[e]) nm=m.get nm:=by
 rw[Dv,ai h]
theorem bG{m:af}{e:Option Ent}{nm:Nat}(h:nm=m.length):af.get (m++[e]) nm=e:=by
 subst h;simp[af.get]
theorem bO{m:af}{k nm:Nat}{e:Option Ent}(h:nm≠k):af.get (m.set k e) nm=m.get nm:=by rw[eY,ag h]
theorem b7{m:af}{k nm:Nat}{e:Option Ent}(h:nm=k)(hk:k<m.length):af.get (m.set k e) nm=e:=by
 subst h;rw[eY,ai rfl,ai hk]
def tn:Option Ent->Option (Bool×List AV)
 | some (.obj b cs)=>some (b,cs)
 | _=>none
theorem jx(b:Bool)(cs:List AV):tn (some (.obj b cs))=some (b,cs):=rfl
theorem mC(m:af)(nm:Nat):m.obj? nm=tn (m.get nm):=by
 unfold af.obj? tn
 cases h:m.get nm with
 | none=>rfl
 | some e=>cases e<;>rfl
theorem cS(sh:Sh)(m:af)(nm off:Nat):am sh m (.ptr nm off)=(tn (m.get nm)).bind fun o=>mX sh o.2 off:=by
 rw[<- mC];rfl
def bH(sh:Sh)(m:af)(nm off:Nat)(v:AV)(o:Bool×List AV):Option af:=
 if off+sh.size<=o.2.length then if cu sh v then some (m.set nm (some (.obj o.1 (bf o.2 off v.cells)))) else none else none
theorem oA(sh:Sh)(m:af)(nm off:Nat)(v:AV):aM sh m (.ptr nm off) v=(tn (m.get nm)).bind (bH sh m nm off v):=by
 rw[<- mC];rfl
theorem pi(cs:List AV)(off:Nat):mX none cs off=cs[off]?:=rfl
theorem JG(a b c:AV):mX (some 3) [a,b,c] 0=some (.agg [a,b,c]):=rfl
theorem JH(a b c d:AV):mX (some 4) [a,b,c,d] 0=some (.agg [a,b,c,d]):=rfl
theorem iq(nm off:Nat):d7 (.ptr nm off)=some (.ptr nm off):=rfl
theorem fJ(o nm off:Nat):aR o (.ptr nm off)=some (.ptr nm (off+o)):=rfl
theorem bs{α β:Type}{x:Option α}{v:α}{f:α->Option β}{r:Option β}(h:x=some v)(k:f v=r):x.bind f=r:=by rw[h];exact k
theorem bK{α:Type}{x:Option α}{v:α}{f:α->OM}(h:x=some v)(k:∃m',f v=some (.bool true,m')):∃m',x.bind f=some (.bool true,m'):=by rw[h];exact k
theorem kq(v w:AV):aT (.tup [v,w]) 0=some v:=rfl
theorem kr(v w:AV):aT (.tup [v,w]) 1=some w:=rfl
structure Fr (m m':af) (F:List Nat):Prop where
 len:m.length<=m'.length
 get:∀x,x<m.length->x∉F->m'.get x=m.get x
theorem Fr.refl(m:af)(F:List Nat):Fr m m F:=⟨aI _,fun _ _ _=>rfl⟩
theorem Fr.trans{m m1 m2:af}{F F1:List Nat}(h:Fr m m1 F)(k:Fr m1 m2 F1)(hF:∀x∈F1,x∈F\/m.length<=x):Fr m m2 F:=
 ⟨eP h.len k.len,fun x hx hn=>(k.get x (mN hx h.len) fun h1=>by rcases hF x h1 with h2|h2<;>first|exact hn h2|omega).trans (h.get x hx hn)⟩
theorem Fr.mono{m m':af}{F F':List Nat}(h:Fr m m' F)(hs:∀x∈F,x∈F'):Fr m m' F':=⟨h.len,fun x hx hn=>h.get x hx fun h'=>hn (hs x h')⟩
theorem Fr.app(m:af)(e:Option Ent)(F:List Nat):Fr m (m++[e]) F:=⟨aq,fun x hx _=>bP hx⟩
theorem Fr.snoc{m m':af}{F:List Nat}(h:Fr m m' F)(e:Option Ent):Fr m (m'++[e]) F:=h.trans (Fr.app m' e []) (fun _ h=>by cases h)
theorem Fr.set{m m':af}{F:List Nat}(h:Fr m m' F){k:Nat}(e:Option Ent)(hk:k∈F\/m.length<=k):Fr m (m'.set k e) F:=
 ⟨by rw[ff];exact h.len,fun x hx hn=>by
  rw[bO (by rintro rfl;rcases hk with hk|hk;exact hn hk;omega)];exact h.get x hx hn⟩
def bM(n:ND):AV:=if n.var<0 then aw else .lst none false .no (n.kids.map (AV.int .i64))
def ND.av(n:ND):AV:=.agg [.I n.var,bM n,.I n.leaf]
def ji:Nat->List ND->List (AV×AV)
 | _,[]=>[]
 | k,n::l=>(.str ⟨n.key.toArray⟩,.I k)::ji (k+1) l
theorem qaY{a b:ND}(ha:a.ok)(hb:b.ok):fF (.str ⟨a.key.toArray⟩) (.str ⟨b.key.toArray⟩)=decide (a=b):=by
 simp only[fF,nA];refine iz.2 ⟨fun h=>qaZ ha hb ?_,fun h=>by rw[h]⟩;have:=cA (fun s:ByteArray=>s.data.toList) h;simpa using this
theorem Dl{n:ND}(hn:n.ok):∀(l:List ND) (k:Nat),(∀x∈l,x.ok)->(ji k l).find? (fun p=>fF p.1 (.str ⟨n.key.toArray⟩))=if n∈l then some (.str ⟨n.key.toArray⟩,.I (k+l.idxOf n:Nat)) else none
 | [],k,_=>rfl
 | x::l,k,h=>by
  rw[ji,List.find?_cons,qaY (h x cF) hn]
  by_cases he:x=n
  .subst he;simp
  .rw[eX he];simp only[];rw[Dl hn l (k+1) fun y hy=>h y (cP _ hy)];have:n∈x::l↔n∈l:=⟨fun h=>(cE.1 h).resolve_left (fun e=>he e.symm),cP _⟩
   by_cases hm:n∈l
   .rw[ai hm,ai (this.2 hm),List.idxOf_cons,cond_eq_ite,ag (by simpa using he)];congr 3;omega
   .rw[ag hm,ag (fun h=>hm (this.1 h))]
theorem JN(n:ND):∀(l:List ND) (k:Nat),ji k (l++[n])=ji k l++[(.str ⟨n.key.toArray⟩,.I (k+l.length:Nat))]
 | [],k=>rfl
 | x::l,k=>by
  rw[cc,ji,ji,JN n l (k+1)];simp only[cc,a8];congr 5;omega
theorem JO:∀(l:List ND) (k:Nat),(ji k l).length=l.length
 | [],_=>rfl
 | _::l,k=>by rw[ji,a8,JO l,a8]
theorem qa0{n:ND}(h:n.ok):n.key.length<=10000:=by
 rcases h with ⟨h1,h2,h3,h4⟩|⟨h1,h2,h3,h4,h5⟩
 .unfold ND.key Yd.nameB;rw[h1,ai (by decide)];have:=Yd.itoa_len (n:=n.leaf) ⟨Z,Z⟩;simp;omega
 .have:=Yd.part_len (var:=n.var) (ks:=n.kids) ⟨Z,Z⟩ (fun k hk=>by have:=h4 k hk;constructor<;>omega) n.kids.length (aI _);unfold Yd.part at this;rw[List.take_length] at this;unfold ND.key Yd.nameB;rw[ag Z];omega
theorem Kt{n:ND}(h:n.ok):(⟨n.key.toArray⟩:ByteArray).size<=maxLen:=by
 have:=qa0 h;simp only[ByteArray.size,List.size_toArray,maxLen];omega
theorem KU{m:af}{p:Nat}{l:List ND}{n:ND}(hp:m.get p=some (.mp .str (ji 0 l)))(hl:∀x∈l,x.ok)(hn:n.ok)(z:AV) :
  i6 .str z m (.mref p) (.str ⟨n.key.toArray⟩)=some (if n∈l then (.I (l.idxOf n:Nat),true) else (z,false)):=by
 have h1:gR m .str (.mref p)=some (p,ji 0 l):=by simp[gR,hp]
 have h2:gK .str (.str ⟨n.key.toArray⟩)=true:=eT (Kt hn);unfold i6;rw[h1];simp only[O,h2,aY,qu,Dl hn l 0 hl]
 by_cases hm:n∈l
 .rw[ai hm,ai hm];simp
 .rw[ag hm,ag hm]
theorem qd7{m:af}{p:Nat}{l:List ND}{n:ND}(hp:m.get p=some (.mp .str (ji 0 l)))(hl:∀x∈l,x.ok)(hn:n.ok)(hne:n∉l)(hlen:l.length<1073741824) :
  gM .str m (.mref p) (.str ⟨n.key.toArray⟩) (.I l.length)=some (m.set p (some (.mp .str (ji 0 (l++[n]))))):=by
 have h1:gR m .str (.mref p)=some (p,ji 0 l):=by simp[gR,hp]
 have h2:gK .str (.str ⟨n.key.toArray⟩)=true:=eT (Kt hn)
 have h3:(ji 0 l).any (fun p=>fF p.1 (.str ⟨n.key.toArray⟩))=false:=by
  have:=Dl hn l 0 hl;rw[ag hne,List.find?_eq_none] at this;rw[List.any_eq_false];exact this
 unfold gM;rw[h1,O,ai ⟨h2,rfl,by rw[JO];unfold maxLen;omega⟩,JN];simp only[i8,h3,bj]
inductive NA (m:af):AV->List ND->List Nat->Prop
 | none:NA m aw [] []
 | some (t:Nat) (l:List ND) (ht:m.get t=some (.tok l.length 3)):NA m (.lst (some 3) false (.tok t 74) (l.map ND.av)) l [t]
structure SAt (m:af) (s p:Nat) (arms na:AV) (most:Int) (l:List ND) (T:List Nat):Prop where
 hs:m.get s=some (.B [arms,na,.mref p,.I most])
 hp:m.get p=some (.mp .str (ji 0 l))
 hn:NA m na l T
 ok:∀x∈l,x.ok
 ne:s≠p
 hT:∀t∈T,t≠s/\t≠p
end Go.Ab
namespace Go.Ab
open Go.Proofs Go.Proofs.Tryz
theorem pD(m:af)(e:Ent):aC none m e=(m.length,m++[some e]):=rfl
theorem Jn{sh:Sh}{m:af}{v:AV}(h:cu sh v=true):cQ none sh m v=some (.ptr m.length 0,m++[some (Ent.B v.cells)]):=by
 unfold cQ;rw[ai h];rfl
theorem nC(k:IntKind)(n:Int)(m:af):cQ none none m (.int k n)=some (.ptr m.length 0,m++[some (Ent.B [.int k n])]):=rfl
theorem ml(nm o:Nat)(m:af):cQ none none m (.ptr nm o)=some (.ptr m.length 0,m++[some (Ent.B [.ptr nm o])]):=rfl
theorem sZ(a b:Int)(z:Bool)(o:Own)(ks:List AV)(m:af):cQ none (some 3) m (.agg [.I a,.lst none z o ks,.I b])=some (.ptr m.length 0,m++[some (Ent.B [.I a,.lst none z o ks,.I b])]):=rfl
theorem di(m:af):ck m 1=m++[some Ent.resv]:=rfl
theorem kO(b:Bool):il .not (.bool b)=some (.bool (!b)):=rfl
theorem zK(m:af)(a b c:AV):am (some 3) m (.vptr [a,b,c])=some (.agg [a,b,c]):=rfl
theorem KA(m:af)(a b c:AV):am none m (.vptr [a,b,c])=some a:=rfl
theorem Jt(k:IntKind)(n:Int):AV.cells (.int k n)=[.int k n]:=rfl
theorem Jb(k:IntKind)(n:Int):c9 (.int k n)=true:=rfl
theorem Jr(b:Bool):AV.cells (.bool b)=[.bool b]:=rfl
theorem I9(b:Bool):c9 (.bool b)=true:=rfl
theorem Jy(s:ByteArray):AV.cells (.str s)=[.str s]:=rfl
theorem Jg(s:ByteArray):c9 (.str s)=true:=rfl
theorem Ju(sh:Sh)(z:Bool)(o:Own)(es:List AV):AV.cells (.lst sh z o es)=[.lst sh z o es]:=rfl
theorem Jc(sh:Sh)(z:Bool)(o:Own)(es:List AV):c9 (.lst sh z o es)=true:=rfl
theorem Jx(nm off:Nat):AV.cells (.ptr nm off)=[.ptr nm off]:=rfl
theorem Jf(nm off:Nat):c9 (.ptr nm off)=true:=rfl
theorem Jq(nm off n:Nat)(sh:Sh):AV.cells (.arr nm off n sh)=[.arr nm off n sh]:=rfl
theorem I8(nm off n:Nat)(sh:Sh):c9 (.arr nm off n sh)=true:=rfl
theorem Js(f:Nat)(cs:List AV):AV.cells (.fn f cs)=[.fn f cs]:=rfl
theorem Ja(f:Nat)(cs:List AV):c9 (.fn f cs)=true:=rfl
theorem Jv(nm:Nat):AV.cells (.mref nm)=[.mref nm]:=rfl
theorem Jd(nm:Nat):c9 (.mref nm)=true:=rfl
theorem Jw:AV.cells .nilp=[.nilp]:=rfl
theorem Je:c9 .nilp=true:=rfl
theorem Jp(cs:List AV):AV.cells (.agg cs)=cs:=rfl
theorem MB(v:AV):cu none v=c9 v:=rfl
theorem MC(n:Nat)(cs:List AV):cu (some n) (.agg cs)=(cs.length==n&&cs.all c9):=rfl
theorem aX:type_of% @aQ/\type_of% @ff/\type_of% @a8/\type_of% @bq:=⟨@aQ,@ff,@a8,@bq⟩
theorem bJ:type_of% @lW/\type_of% @List.all_nil.{0}/\type_of% @Bool.and_true/\type_of% @kP/\type_of% @di/\type_of% @bA/\type_of% @zK/\type_of% @KA/\type_of% @ik/\type_of% @gt/\type_of% @bg/\type_of% @qd/\type_of% @gI/\type_of% @je/\type_of% @cr/\type_of% @kO/\type_of% @cS/\type_of% @oA/\type_of% @jx/\type_of% @pi/\type_of% @JG/\type_of% @JH/\type_of% @iq/\type_of% @fJ/\type_of% @bP/\type_of% @bG/\type_of% @bO/\type_of% @b7/\type_of% @pD/\type_of% @Jn/\type_of% @List.getElem?_cons_zero.{0}/\type_of% @List.getElem?_cons_succ.{0}/\type_of% @kq/\type_of% @kr/\type_of% @Jt/\type_of% @Jb/\type_of% @Jr/\type_of% @I9/\type_of% @Jy/\type_of% @Jg/\type_of% @Ju/\type_of% @Jc/\type_of% @Jx/\type_of% @Jf/\type_of% @Jq/\type_of% @I8/\type_of% @Js/\type_of% @Ja/\type_of% @Jv/\type_of% @Jd/\type_of% @Jw/\type_of% @Je/\type_of% @Jp/\type_of% @MB/\type_of% @MC/\type_of% @jX/\type_of% @a8/\type_of% @bq/\type_of% @List.take_succ_cons.{0}/\type_of% @List.take_zero.{0}/\type_of% @List.drop_succ_cons.{0}/\type_of% @dk/\type_of% @cc/\type_of% @bX/\type_of% @aW/\type_of% @bj/\type_of% @List.drop_nil.{0}/\type_of% @List.take_nil.{0}/\type_of% @aQ/\type_of% @ff:=⟨@lW,@List.all_nil.{0},@Bool.and_true,@kP,@di,@bA,@zK,@KA,@ik,@gt,@bg,@qd,@gI,@je,@cr,@kO,@cS,@oA,@jx,@pi,@JG,@JH,@iq,@fJ,@bP,@bG,@bO,@b7,@pD,@Jn,@List.getElem?_cons_zero.{0},@List.getElem?_cons_succ.{0},@kq,@kr,@Jt,@Jb,@Jr,@I9,@Jy,@Jg,@Ju,@Jc,@Jx,@Jf,@Jq,@I8,@Js,@Ja,@Jv,@Jd,@Jw,@Je,@Jp,@MB,@MC,@jX,@a8,@bq,@List.take_succ_cons.{0},@List.take_zero.{0},@List.drop_succ_cons.{0},@dk,@cc,@bX,@aW,@bj,@List.drop_nil.{0},@List.take_nil.{0},@aQ,@ff⟩
theorem cD{R:Type}(x y:Option R):au (.bool false) x y=y:=rfl
theorem gJ{R:Type}(x y:Option R):au (.bool true) x y=x:=rfl
theorem qcz{m:af}{s p:Nat}{arms na:AV}{most:Int}{l:List ND}{T:List Nat}(h:SAt m s p arms na most l T){n:ND}(hn:n.ok)(hm:n∈l)(z:Bool)(o:Own) :
  AC aa 139 [.ptr s 0,.agg [.I n.var,.lst none z o (n.kids.map (AV.int .i64)),.I n.leaf]] m=some (.I (l.idxOf n:Nat),m++[some (Ent.B [.I n.var,.lst none z o (n.kids.map (AV.int .i64)),.I n.leaf])]):=by
 have hs:=h.hs;have hp:=h.hp;have hsl:=bo hs;have hpl:=bo hp;have hp':af.get (m++[some (Ent.B [.I n.var,.lst none z o (n.kids.map (AV.int .i64)),.I n.leaf])]) p=some (Ent.mp .str (ji 0 l)):=by rw[bP hpl];exact hp
 have nm:=Lf hn z o;have lk:=KU hp' h.ok hn (.I 0);rw[ai hm] at lk;rw[Cz]
 repeat ((with_reducible first|apply bs|apply bK);(focus first|(simp (disch:=first|assumption|omega|simp only[aX]<;>omega|fail) only[bJ,beq_self_eq_true,bH,O,Sh.size,aY,bf,Nat.reduceAdd,Nat.reduceLeDiff,aI,hs,sZ,nm,lk]<;>rfl)|rfl);try dsimp only)
 rw[gJ]
theorem y5(a b:Int)(z:Bool)(o:Own)(ks:List AV):cq (some 3) [.agg [.I a,.lst none z o ks,.I b]]=some (.lst (some 3) false .full [.agg [.I a,lr (.lst none z o ks),.I b]]):=by
 cases o<;>rfl
theorem Xi(b:Nat)(m:af)(y:AV):bF (some b) false 74 (some 3) 40 m aw (.lst (some 3) false .full [y])=some (.lst (some 3) false (.tok b 74) [y],m.set b (some (Ent.tok 1 3))):=rfl
theorem Xk{b t:Nat}{m:af}{es:List AV}{y:AV}(ht:m.get t=some (Ent.tok es.length 3))(h:es.length<1073741824):bF (some b) false 74 (some 3) 40 m (.lst (some 3) false (.tok t 74) es) (.lst (some 3) false .full [y])=some (.lst (some 3) false (.tok t 74) (es++[y]),m.set t (some (Ent.tok (es.length+1) 3))):=by
 have h2:(es.length+1)*40<=fq:=by unfold fq;omega
 simp[bF,ht,Sh.size,h2]
theorem NA.move{m m':af}{na:AV}{l:List ND}{T:List Nat}(h:NA m na l T)(f:∀x∈T,m'.get x=m.get x):NA m' na l T:=by
 cases h with
 | none=>exact .none
 | some t l ht=>exact .some t l ((f t (by simp)).trans ht)
theorem SAt.move{m m':af}{s p:Nat}{arms na:AV}{most:Int}{l:List ND}{T:List Nat}(h:SAt m s p arms na most l T)(f:∀x∈s::p::T,m'.get x=m.get x):SAt m' s p arms na most l T:=
 ⟨(f s (by simp)).trans h.hs,(f p (by simp)).trans h.hp,h.hn.move fun x hx=>f x (by simp[hx]),h.ok,h.ne,h.hT⟩
theorem SAt.lt{m:af}{s p:Nat}{arms na:AV}{most:Int}{l:List ND}{T:List Nat}(h:SAt m s p arms na most l T):∀x∈s::p::T,x<m.length:=by
 intro x hx;simp only[cE] at hx
 rcases hx with rfl|rfl|hx
 .exact bo h.hs
 .exact bo h.hp
 .cases h.hn with
  | none=>cases hx
  | some t l ht=>
    obtain rfl:x=t:=by simpa using hx
    exact bo ht
def bB(m:af)(s:Nat)(F:List Nat)(arms:AV)(most:Int)(l:List ND):Prop:=∃p na T,SAt m s p arms na most l T/\F=s::p::T
theorem bB.move{m m':af}{s:Nat}{F:List Nat}{arms:AV}{most:Int}{l:List ND}(h:bB m s F arms most l)(f:∀x∈F,m'.get x=m.get x):bB m' s F arms most l:=by
 obtain ⟨p,na,T,h,rfl⟩:=h;exact ⟨p,na,T,h.move f,rfl⟩
theorem bB.lt{m:af}{s:Nat}{F:List Nat}{arms:AV}{most:Int}{l:List ND}(h:bB m s F arms most l):∀x∈F,x<m.length:=by
 obtain ⟨p,na,T,h,rfl⟩:=h;exact h.lt
theorem bB.fr{m m':af}{s:Nat}{F G:List Nat}{arms:AV}{most:Int}{l:List ND}(h:bB m s F arms most l)(f:Fr m m' G)(hd:∀x∈F,x∉G):bB m' s F arms most l:=h.move fun x hx=>f.get x (h.lt x hx) (hd x hx)
def Gr(m:af)(F F':List Nat):Prop:=∀x∈F',x∈F\/m.length<=x
theorem Gr.refl(m:af)(F:List Nat):Gr m F F:=fun _ h=>.inl h
theorem Gr.trans{m m1:af}{F F1 F2:List Nat}(hl:m.length<=m1.length)(h:Gr m F F1)(k:Gr m1 F1 F2):Gr m F F2:=fun x hx=>by
 rcases k x hx with h1|h1
 .exact h x h1
 .exact .inr Z
def gg(l:List ND)(n:ND):List ND:=if n∈l then l else l++[n]
theorem vE{l:List ND}{n:ND}(h:n∉l):l.idxOf n=l.length:=List.idxOf_eq_length h
theorem qcy{m:af}{s p:Nat}{arms na:AV}{most:Int}{l:List ND}{T:List Nat}(h:SAt m s p arms na most l T){n:ND}(hn:n.ok)(hm:n∉l){z:Bool}{o:Own}(hk:lr (.lst none z o (n.kids.map (AV.int .i64)))=bM n)
  (hl:(l.length:Int)<most) (hmo:most<=1073741824):∃m' na' T',AC aa 139 [.ptr s 0,.agg [.I n.var,.lst none z o (n.kids.map (AV.int .i64)),.I n.leaf]] m=some (.I l.length,m') /\
   SAt m' s p arms na' most (l++[n]) T'/\Fr m m' (s::p::T)/\∀t∈T',t∈T\/m.length<=t:=by
 have hs:=h.hs;have hp:=h.hp;have hsl:=bo hs;have hpl:=bo hp;have hne:=h.ne;have hne':p≠s:=fun e=>hne e.symm;have nm:=Lf hn z o
 have hok:∀x∈l++[n],x.ok:=fun x hx=>by
  rcases cI.1 hx with hx|hx
  .exact h.ok x hx
  .obtain rfl:x=n:=by simpa using hx
   exact hn
 have hll:l.length<1073741824:=Z;generalize hbx:some (Ent.B [.I n.var,.lst none z o (n.kids.map (AV.int .i64)),.I n.leaf])=bx;have hp':af.get (m++[bx]) p=some (Ent.mp .str (ji 0 l)):=by rw[bP hpl];exact hp
 have lk:=KU hp' h.ok hn (.I 0);rw[ag hm] at lk;have hbox:=sZ n.var n.leaf z o (n.kids.map (AV.int .i64)) m;rw[hbx] at hbox;have ldb:tn bx=some (true,[.I n.var,.lst none z o (n.kids.map (AV.int .i64)),.I n.leaf]):=by rw[<- hbx];rfl
 have hT:=h.hT;have hav:AV.agg [.I n.var,bM n,.I n.leaf]=n.av:=rfl;have up:=fun m' hp=>qd7 (m:=m') (p:=p) hp h.ok hn hm hll;have len1:∀y:AV,((l.map ND.av)++[y]).length=l.length+1:=fun y=>aq;have wr1:IntKind.wrap .i64 (((l.length+1:Nat):Int)-1)=l.length:=by rw[gz Z Z];omega
 have key:∃m' na' T',AC aa 139 [.ptr s 0,.agg [.I n.var,.lst none z o (n.kids.map (AV.int .i64)),.I n.leaf]] m=some (.I l.length,m') /\
   af.get m' s=some (Ent.B [arms,na',.mref p,.I most])/\af.get m' p=some (Ent.mp .str (ji 0 (l++[n])))/\NA m' na' (l++[n]) T'/\Fr m m' (s::p::T)/\(∀t∈T',t≠s/\t≠p)/\∀t∈T',t∈T\/m.length<=t:=by
  cases h.hn with
  | none=>
   have e:AC aa 139 [.ptr s 0,.agg [.I n.var,.lst none z o (n.kids.map (AV.int .i64)),.I n.leaf]] m=some (.I (0:Nat),(((((m++[bx])++[some Ent.resv]).set (m.length+1) (some (Ent.tok 1 3))).set s (some (Ent.B [arms,.lst (some 3) false (.tok (m.length+1) 74) [n.av],.mref p,.I most]))).set p (some (Ent.mp .str (ji 0 ([]++[n])))))):=by
    rw[Cz]
    repeat ((with_reducible first|apply bs|apply bK);(focus first|(simp (disch:=first|assumption|omega|simp only[aX]<;>omega|fail) only[bJ,beq_self_eq_true,bH,O,Sh.size,aY,bf,Nat.reduceAdd,Nat.reduceLeDiff,aI,hs,hbox,nm,lk,ldb]<;>rfl)|rfl);try dsimp only)
    rw[cD]
    repeat ((with_reducible first|apply bs|apply bK);(focus first|(simp (disch:=first|assumption|omega|simp only[aX]<;>omega|fail) only[bJ,beq_self_eq_true,bH,O,Sh.size,aY,bf,Nat.reduceAdd,Nat.reduceLeDiff,aI,hs,hbox,nm,lk,ldb]<;>rfl)|rfl);try dsimp only)
    rw[az,ag (by simp at hl ⊢;omega)]
    repeat ((with_reducible first|apply bs|apply bK);(focus first|(simp (disch:=first|assumption|omega|simp only[aX]<;>omega|fail) only[bJ,beq_self_eq_true,bH,O,Sh.size,aY,bf,Nat.reduceAdd,Nat.reduceLeDiff,aI,hs,hbox,nm,lk,ldb,y5,hk,Xi,hav]<;>rfl)|rfl);try dsimp only)
    rw[show IntKind.wrap .i64 ((1:Nat)-1:Int)=((([]:List ND).length:Nat):Int) from rfl,up _ ?hq,O]
    case hq=>exact (by simp (disch:=first|assumption|omega|simp only[aX]<;>omega|fail) only[di,bP,bG,bO,b7,hp]<;>rfl)
    repeat ((with_reducible first|apply bs|apply bK);(focus first|(simp (disch:=first|assumption|omega|simp only[aX]<;>omega|fail) only[bJ,beq_self_eq_true,bH,O,Sh.size,aY,bf,Nat.reduceAdd,Nat.reduceLeDiff,aI,hs]<;>rfl)|rfl);try dsimp only)
    rfl
   refine ⟨_,_,[m.length+1],e,(by simp (disch:=first|assumption|omega|simp only[aX]<;>omega|fail) only[di,bP,bG,bO,b7]<;>rfl),(by simp (disch:=first|assumption|omega|simp only[aX]<;>omega|fail) only[di,bP,bG,bO,b7]<;>rfl),?_,?_,?_,?_⟩
   .exact .some _ [n] (by simp (disch:=first|assumption|omega|simp only[aX]<;>omega|fail) only[di,bP,bG,bO,b7]<;>rfl)
   .exact ((((Fr.app m bx _).snoc _).set _ (.inr (by omega))).set _ (.inl (by simp))).set _ (.inl aq)
   .intro t ht;obtain rfl:t=m.length+1:=by simpa using ht
    omega
   .intro t ht;obtain rfl:t=m.length+1:=by simpa using ht
    omega
  | some t l ht=>
   have htl:=bo ht;have hts:=(hT t (by simp)).1;have htp:=(hT t (by simp)).2;have hts':s≠t:=fun e=>hts e.symm;have htp':p≠t:=fun e=>htp e.symm
   have e:AC aa 139 [.ptr s 0,.agg [.I n.var,.lst none z o (n.kids.map (AV.int .i64)),.I n.leaf]] m=some (.I l.length,(((((m++[bx])++[some Ent.resv]).set t (some (Ent.tok (l.length+1) 3))).set s (some (Ent.B [arms,.lst (some 3) false (.tok t 74) (l.map ND.av++[n.av]),.mref p,.I most]))).set p (some (Ent.mp .str (ji 0 (l++[n])))))):=by
    have ap:=fun m' b ht=>Xk (b:=b) (m:=m') (t:=t) (es:=l.map ND.av) (y:=n.av) ht (by simp;omega);simp only[bA] at ap;rw[Cz]
    repeat ((with_reducible first|apply bs|apply bK);(focus first|(simp (disch:=first|assumption|omega|simp only[aX]<;>omega|fail) only[bJ,beq_self_eq_true,bH,O,Sh.size,aY,bf,Nat.reduceAdd,Nat.reduceLeDiff,aI,hs,hbox,nm,lk,ldb]<;>rfl)|rfl);try dsimp only)
    rw[cD]
    repeat ((with_reducible first|apply bs|apply bK);(focus first|(simp (disch:=first|assumption|omega|simp only[aX]<;>omega|fail) only[bJ,beq_self_eq_true,bH,O,Sh.size,aY,bf,Nat.reduceAdd,Nat.reduceLeDiff,aI,hs,hbox,nm,lk,ldb,bA]<;>rfl)|rfl);try dsimp only)
    rw[az,ag Z]
    repeat ((with_reducible first|apply bs|apply bK);(focus first|(simp (disch:=first|assumption|omega|simp only[aX]<;>omega|fail) only[bJ,beq_self_eq_true,bH,O,Sh.size,aY,bf,Nat.reduceAdd,Nat.reduceLeDiff,aI,hs,hbox,nm,lk,ldb,y5,hk,hav]<;>rfl)|rfl);try dsimp only)
    rw[ap _ _ ?hq,O]
    case hq=>exact (by simp (disch:=first|assumption|omega|simp only[aX]<;>omega|fail) only[di,bP,bG,bO,b7,ht]<;>rfl)
    dsimp only
    repeat ((with_reducible first|apply bs|apply bK);(focus first|(simp (disch:=first|assumption|omega|simp only[aX]<;>omega|fail) only[bJ,beq_self_eq_true,bH,O,Sh.size,aY,bf,Nat.reduceAdd,Nat.reduceLeDiff,aI,hs,len1]<;>rfl)|rfl);try dsimp only)
    rw[wr1,up _ ?hq,O]
    case hq=>exact (by simp (disch:=first|assumption|omega|simp only[aX]<;>omega|fail) only[di,bP,bG,bO,b7,hp]<;>rfl)
    repeat ((with_reducible first|apply bs|apply bK);(focus first|(simp (disch:=first|assumption|omega|simp only[aX]<;>omega|fail) only[bJ,beq_self_eq_true,bH,O,Sh.size,aY,bf,Nat.reduceAdd,Nat.reduceLeDiff,aI,hs,len1]<;>rfl)|rfl);try dsimp only)
    rw[wr1]
   refine ⟨_,_,[t],e,(by simp (disch:=first|assumption|omega|simp only[aX]<;>omega|fail) only[di,bP,bG,bO,b7]<;>rfl),(by simp (disch:=first|assumption|omega|simp only[aX]<;>omega|fail) only[di,bP,bG,bO,b7]<;>rfl),?_,?_,?_,?_⟩
   .have e2:(l++[n]).map ND.av=l.map ND.av++[n.av]:=aq;rw[<- e2];refine .some t (l++[n]) ?_;rw[aQ]
    exact (by simp (disch:=first|assumption|omega|simp only[aX]<;>omega|fail) only[di,bP,bG,bO,b7]<;>rfl)
   .exact ((((Fr.app m bx _).snoc _).set _ (.inl (by simp))).set _ (.inl (by simp))).set _ (.inl aq)
   .intro x hx;obtain rfl:x=t:=by simpa using hx
    exact ⟨hts,htp⟩
   .intro x hx;exact .inl hx
 obtain ⟨m',na',T',e,k1,k2,k3,k4,k5,k6⟩:=key;exact ⟨m',na',T',e,⟨k1,k2,k3,hok,hne,k5⟩,k4,k6⟩
theorem Ez{m:af}{s:Nat}{F:List Nat}{arms:AV}{most:Int}{l:List ND}(h:bB m s F arms most l){n:ND}(hn:n.ok){z:Bool}{o:Own}(hk:lr (.lst none z o (n.kids.map (AV.int .i64)))=bM n)
  (hl:(l.length:Int)<most) (hmo:most<=1073741824):∃m' F',AC aa 139 [.ptr s 0,.agg [.I n.var,.lst none z o (n.kids.map (AV.int .i64)),.I n.leaf]] m=some (.I (l.idxOf n:Nat),m') /\
   bB m' s F' arms most (gg l n)/\Fr m m' F/\Gr m F F':=by
 obtain ⟨p,na,T,h,rfl⟩:=h
 by_cases hm:n∈l
 .refine ⟨_,s::p::T,qcz h hn hm z o,?_,Fr.app m _ _,Gr.refl _ _⟩;rw[gg,ai hm];exact ⟨p,na,T,h.move fun x hx=>bP (h.lt x hx),rfl⟩
 .obtain ⟨m',na',T',e,h1,h2,h3⟩:=qcy h hn hm hk hl hmo
  refine ⟨m',s::p::T',by rw[vE hm];exact e,?_,h2,fun x hx=>?_⟩
  .rw[gg,ag hm];exact ⟨p,na',T',h1,rfl⟩
  .simp only[cE] at hx ⊢
   rcases hx with rfl|rfl|hx
   .exact .inl (.inl rfl)
   .exact .inl (.inr (.inl rfl))
   .rcases h3 x hx with h|h
    .exact .inl (.inr (.inr h))
    .exact .inr h
end Go.Ab
namespace Go.Ab
noncomputable section
variable (a0 a1 a2:AV) (m:af)
open Go.Proofs.Tryz
theorem uR:AC aa 34 [a0,a1,a2] m=(cQ none none m a0).bind fun r1=>(cQ none none r1.2 a1).bind fun r2=>(cQ none none r2.2 a2).bind fun r3=>(am none r3.2 r1.1).bind fun v4=>(AC aa 80 [v4] r3.2).bind fun r5=>au r5.1 (some ((.tup [(.I 0),(.I 4)]),r5.2)) ((am none r5.2 r2.1).bind fun v6=>(ae .o .lss v6 (.I 0)).bind fun v7=>au v7 (some ((.tup [(.I 0),(.I 1)]),r5.2)) ((am none r5.2 r2.1).bind fun v8=>(am none r5.2 r1.1).bind fun v9=>(d7 v9).bind fun v10=>(aR 0 v10).bind fun v11=>(am none r5.2 v11).bind fun v12=>(aL false v12).bind fun v13=>(ae .o .geq v8 v13).bind fun v14=>au v14 (some ((.tup [(.I 0),(.I 1)]),r5.2)) ((am none r5.2 r3.1).bind fun v15=>(aL false v15).bind fun v16=>(am none r5.2 r1.1).bind fun v17=>(d7 v17).bind fun v18=>(aR 0 v18).bind fun v19=>(am none r5.2 v19).bind fun v20=>(am none r5.2 r2.1).bind fun v21=>(aE none v20 v21).bind fun v22=>(am none r5.2 v22).bind fun v23=>(ae .o .neq v16 v23).bind fun v24=>au v24 (some ((.tup [(.I 0),(.I 1)]),r5.2)) ((am none r5.2 r3.1).bind fun v25=>(AC aa 92 [v25,(.fn 97 [r1.1,r2.1])] r5.2).bind fun r26=>au r26.1 (some ((.tup [(.I 0),(.I 1)]),r26.2)) ((am none r26.2 r1.1).bind fun v27=>(AC aa 84 [v27,(.fn 98 [r1.1,r2.1,r3.1])] r26.2).bind fun r28=>(aT r28.1 0).bind fun v29=>(aT r28.1 1).bind fun v30=>some ((.tup [v29,v30]),r28.2)))))):=
(aZ aa 34 [a0,a1,a2] m (fn:=f34) (c:=aA f34) YD rfl).trans aj
theorem Ii:AC aa 97 [a0,a1,a2] m=(am none m a1).bind fun v1=>(AC aa 81 [v1,a0] m).bind fun r2=>(il .not r2.1).bind fun v3=>au v3 (pv (some (AV.tup [],r2.2)=some (AV.tup [],r2.2)) (some ((.bool true),r2.2))) ((am none r2.2 a1).bind fun v4=>(am none r2.2 a2).bind fun v5=>(AC aa 68 [v4,a0] r2.2).bind fun r6=>pv ((am none r6.2 a2).bind (fun v=>some (v,r6.2))=some (v5,r6.2)) ((ae .o .leq r6.1 v5).bind fun v7=>some (v7,r6.2))):=
(aZ aa 97 [a0,a1,a2] m (fn:=f97) (c:=aA f97) Zl rfl).trans aj
theorem Vy:AC aa 98 [a0,a1,a2] m=(am none m a0).bind fun v1=>(am none m a1).bind fun v2=>(am none m a2).bind fun v3=>(aF (AP aa) none m 88 [v3]).bind fun r4=>pv ((am none r4.2 a0).bind (fun v=>some (v,r4.2))=some (v1,r4.2)) (pv ((am none r4.2 a1).bind (fun v=>some (v,r4.2))=some (v2,r4.2)) ((AC aa 99 [v1,v2,r4.1] r4.2).bind fun r5=>some (r5.1,r5.2))):=
(aZ aa 98 [a0,a1,a2] m (fn:=f98) (c:=aA f98) Zm rfl).trans aj
end
end Go.Ab
namespace Go.Ab
open Go.Proofs Go.Proofs.Tryz
abbrev IA(z:Bool)(o:Own)(ns:List Int):AV:=.lst none z o (ns.map (AV.int .i64))
theorem gX(z:Bool)(o:Own)(ns:List Int):Fz (IA z o ns) (IA z o.fr ns):=fun m=>by cases o<;>rfl
theorem fc(z:Bool)(o:Own)(ns:List Int):aL false (IA z o ns)=some (.I ns.length):=by
 rw[jX,bA]
theorem fw{z:Bool}{o:Own}{ns:List Int}{k:IntKind}{i:Nat}(h:i<ns.length):aE none (IA z o ns) (.int k i)=some (.vptr [.I ns[i]]):=by
 simp[aE,h,AV.cells]
theorem vF{z:Bool}{o:Own}{ns:List Int}{k:IntKind}(h:0<ns.length):aE none (IA z o ns) (.int k 0)=some (.vptr [.I ns[0]]):=fw (i:=0) h
def rj(z:Bool)(ns:List Int):AV:=if z then aw else if ns=[] then .lst none false .full [] else IA false .no ns
theorem Iv(z:Bool)(o:Own)(ns:List Int)(hl:ns.length<=1000000):AP aa 88 [IA z o ns]=some (rj z ns):=by
 have e0:ae .sl .eql (IA z o ns) aw=some (.bool z):=rfl
 cases z with
 | true=>
  refine fH (m:=[]) (v:=aw) (l:=[]) ?_ rfl rfl;rw[CC,e0,O,gJ]
 | false=>
  cases ns with
  | nil=>
   refine fH (m:=[]) (v:=.lst none false .full []) (l:=[]) ?_ rfl rfl;rw[CC,e0,O,cD]
   rfl
  | cons n ns=>
   refine fH (m:=[some (Ent.tok (0+(ns.length+1)) 1)]) (v:=.lst none false (.tok 0 3) ((n::ns).map (AV.int .i64))) (l:=[]) ?_ rfl rfl;rw[CC,e0,O,cD,show cq none []=some (.lst none false .full []) from rfl,O];have hb:(0+(ns.length+1))*8<=fq:=by unfold fq;simp at hl;omega
   simp only[bF,cU,bq,a8,bA,hb,aY,or_true,iE,jJ,aC,bq,bX,O,Sh.size]
theorem vV(z:Bool)(o:Own)(ns:List Int)(hl:ns.length<=1000000)(m:af):aF (AP aa) none m 88 [IA z o ns]=some (rj z ns,m):=by
 rw[b8 (gX z o ns),Iv _ _ _ hl];rfl
theorem V1(n:Int):AP aa 94 [.I n]=some (.bool (decide (0<=n/\n<=2147483647))):=by
 refine fH (m:=[]) (v:=.bool (decide (0<=n/\n<=2147483647))) (l:=[]) ?_ rfl rfl;rw[Vv,je,O,az]
 by_cases h:n≥0
 .rw[ai h,qd,O];congr 3;exact iz.2 Z
 .rw[ag h];congr 3;exact (eX (by omega)).symm
theorem LF(n:Int)(m:af):aF (AP aa) none m 94 [.I n]=some (.bool (decide (0<=n/\n<=2147483647)),m):=by
 rw[b8 (ft _ _),V1];rfl
section
variable {m:af} {s:Nat} {F:List Nat} {arms:AV} {most:Int} {l:List ND}
theorem oH(h:bB m s F arms most l)(hm:most≠0):AC aa 80 [.ptr s 0] m=some (.bool false,m):=by
 obtain ⟨p,na,T,h,rfl⟩:=h;have hs:=h.hs;rw[Vk,show ae .pt .eql (.ptr s 0) .nilp=some (.bool false) from rfl,O,cD]
 repeat ((with_reducible first|apply bs|apply bK);(focus first|(simp (disch:=first|assumption|omega|simp only[aX]<;>omega|fail) only[bJ,beq_self_eq_true,bH,O,Sh.size,aY,bf,Nat.reduceAdd,Nat.reduceLeDiff,aI,hs]<;>rfl)|rfl);try dsimp only)
 rw[show (decide (most=0))=false from eX hm]
theorem sg(h:bB m s F arms most l)(i:Int):AC aa 81 [.ptr s 0,.I i] m=some (.bool (decide (0<=i/\i<l.length)),m):=by
 obtain ⟨p,na,T,h,rfl⟩:=h;have hs:=h.hs
 have hlen:aL false na=some (.I l.length):=by
  cases h.hn with
  | none=>rfl
  | some t l ht=>rw[jX,bA]
 rw[Vl,je,O,az]
 by_cases h0:i≥0
 .rw[ai h0]
  repeat ((with_reducible first|apply bs|apply bK);(focus first|(simp (disch:=first|assumption|omega|simp only[aX]<;>omega|fail) only[bJ,beq_self_eq_true,bH,O,Sh.size,aY,bf,Nat.reduceAdd,Nat.reduceLeDiff,aI,hs,hlen]<;>rfl)|rfl);try dsimp only)
  congr 3;exact iz.2 Z
 .rw[ag h0,show (decide (0<=i/\i<l.length))=false from eX Z]
def bY(a:Nat)(n:ND):Int:=if n.var≥0 then n.var else a
theorem ou{na:AV}{T:List Nat}(h:NA m na l T){i:Nat}(hi:i<l.length):aE (some 3) na (.I i)=some (.vptr [.I l[i].var,bM l[i],.I l[i].leaf]):=by
 cases h with
 | none=>simp at hi
 | some t l ht=>simp[aE,hi];rfl
theorem qa2(n:ND):c9 (bM n)=true:=by unfold bM;split<;>rfl
theorem qa1(n:ND):(bM n).cells=[bM n]:=by unfold bM;split<;>rfl
theorem yZ(n:ND)(m:af)(h:af.get m m.length=none):aM (some 3) (m++[some (Ent.B [.I 0,aw,.I 0])]) (.ptr m.length 0) (.agg [.I n.var,bM n,.I n.leaf])=some (m++[some (Ent.B [.I n.var,bM n,.I n.leaf])]):=by
 have e:cu (some 3) (.agg [.I n.var,bM n,.I n.leaf])=true:=by unfold bM;split<;>rfl
 rw[oA,bG rfl,jx,O];simp[bH,Sh.size,e,bf,AV.cells]
theorem zC(m:af):af.get m m.length=none:=by simp[af.get]
theorem tU{z:Bool}{o:Own}{ar:List Int}(h:bB m s F (IA z o ar) most l){i:Nat}(hi:i<l.length):∃m',AC aa 68 [.ptr s 0,.I i] m=some (.I (bY ar.length l[i]),m')/\Fr m m' []:=by
 obtain ⟨p,na,T,h,rfl⟩:=h;have hs:=h.hs;have hsl:=bo hs;have hidx:=ou h.hn hi;have bx:=yZ l[i] m (zC m);refine ⟨_,?_,Fr.app m (some (Ent.B [.I l[i].var,bM l[i],.I l[i].leaf])) []⟩;rw[Vb]
 repeat ((with_reducible first|apply bs|apply bK);(focus first|(simp (disch:=first|assumption|omega|simp only[aX]<;>omega|fail) only[bJ,beq_self_eq_true,bH,O,Sh.size,aY,bf,Nat.reduceAdd,Nat.reduceLeDiff,aI,hs,hidx,bx]<;>rfl)|rfl);try dsimp only)
 rw[az]
 by_cases hv:l[i].var≥0
 .rw[ai hv]
  repeat ((with_reducible first|apply bs|apply bK);(focus first|(simp (disch:=first|assumption|omega|simp only[aX]<;>omega|fail) only[bJ,beq_self_eq_true,bH,O,Sh.size,aY,bf,Nat.reduceAdd,Nat.reduceLeDiff,aI,hs]<;>rfl)|rfl);try dsimp only)
  rw[bY,ai hv]
 .rw[ag hv]
  repeat ((with_reducible first|apply bs|apply bK);(focus first|(simp (disch:=first|assumption|omega|simp only[aX]<;>omega|fail) only[bJ,beq_self_eq_true,bH,O,Sh.size,aY,bf,Nat.reduceAdd,Nat.reduceLeDiff,aI,hs,fc]<;>rfl)|rfl);try dsimp only)
  rw[bY,ag hv]
def gC(x:Int):ND:=⟨-1,[],x⟩
theorem KB{x:Int}(h:0<=x/\x<=2147483647):(gC x).ok:=.inl ⟨rfl,rfl,h⟩
theorem Fs(h:bB m s F arms most l){x:Int}(hx:0<=x/\x<=2147483647)(hl:(l.length:Int)<most)(hmo:most<=1073741824) :
  ∃m' F',AC aa 96 [.ptr s 0,.I x] m=some (.I (l.idxOf (gC x):Nat),m')/\bB m' s F' arms most (gg l (gC x))/\Fr m m' F/\Gr m F F':=by
 obtain ⟨m',F',e,h1,h2,h3⟩:=Ez h (KB hx) (z:=true) (o:=.full) rfl hl hmo;refine ⟨m',F',?_,h1,h2,h3⟩;have e:AC aa 139 [.ptr s 0,.agg [.I (-1),aw,.I x]] m=_:=e;rw[Vx,show e9 (.agg [(.I 0),aw,(.I 0)]) [(0,none,(.I (-1))),(2,none,.I x)]=some (.agg [.I (-1),aw,.I x]) from rfl,O,e,O]
def cW(v:Int)(ks:List Int):ND:=⟨v,ks,0⟩
def jm(l:List ND)(v:Int)(ks:List Int):Int×List ND:=if ks.all (fun k=>k==ks.headD 0) then (ks.headD 0,l) else (((l.idxOf (cW v ks):Nat):Int),gg l (cW v ks))
theorem Ef(l:List ND)(v k0:Int)(ks:List Int):jm l v (k0::ks)=if (k0::ks).all (fun k=>k==k0) then (k0,l) else (((l.idxOf (cW v (k0::ks)):Nat):Int),gg l (cW v (k0::ks))):=rfl
theorem IS(x0:AV)(v:Int)(z:Bool)(o:Own)(k0:Int)(ks:List Int)(hlen:(k0::ks).length<=1000)(K:KT):∀j i:Nat,i+j=(k0::ks).length ->
  yg x0 (.I v) (IA z o (k0::ks)) (IA z o (k0::ks)) (.I (k0::ks).length) (.I i) m K =
   if ((k0::ks).drop i).all (fun k=>k==k0) then K (.exit 0) (Cx (IA z o (k0::ks)) m) else
    (AC aa 139 [x0,.agg [.I v,IA z o (k0::ks),.I 0]] m).bind fun r8=>K .ret (Cy r8.1 r8.2)
 | 0,i,h=>by
  rw[Hi,bg,O,az,ag Z,fQ Z];rfl
 | j+1,i,h=>by
  have hi:i<(k0::ks).length:=Z;rw[Hi,bg,O,az,ai Z,fw hi,O,cr,O,vF aq,O,cr,O,gt,O,az,ic hi,lW];have hb:∀(a b:Int),e9 (.agg [(.I 0),aw,(.I 0)]) [(0,none,.I v),(1,none,IA z o (k0::ks))]=some (.agg [.I v,IA z o (k0::ks),.I 0]):=fun _ _=>rfl
  by_cases he:(k0::ks)[i]=k0
  .rw[ag (by simpa using he),b6 Z,O,IS x0 v z o k0 ks hlen K j (i+1) Z,show ((k0::ks)[i]==k0)=true by simpa using he,jc]
  .rw[ai (by simpa using he),hb 0 0,O,show ((k0::ks)[i]==k0)=false by simpa using he,oI];rfl
theorem AQ(h:bB m s F arms most l){v:Int}{z:Bool}{o:Own}{ks:List Int}(hne:ks≠[])(hn:(cW v ks).ok)(hz:z=false)(ho:o=.no\/∃t e,o=.tok t e)(hl:(l.length:Int)<most)(hmo:most<=1073741824) :
  ∃m' F',AC aa 99 [.ptr s 0,.I v,IA z o ks] m=some (.I (jm l v ks).1,m')/\bB m' s F' arms most (jm l v ks).2/\Fr m m' F/\Gr m F F':=by
 obtain ⟨k0,ks,rfl⟩:=List.exists_cons_of_ne_nil hne;subst hz
 have hv:¬ v<0/\(k0::ks).length<=64:=by
  rcases hn with ⟨_,h2,_⟩|⟨h1,_,_,_,h5⟩
  .cases h2
  .exact ⟨by simp only[cW] at h1;omega,h5⟩
 rw[Vz,fc,O];have w:=IS (m:=m) (.ptr s 0) v false o k0 ks Z (w9 (aD f99)) (k0::ks).length 0 Z;rw[dk] at w;rw[show (AV.I 0)=.I ((0:Nat):Int) from rfl,w,Ef]
 by_cases ha:((k0::ks).all fun k=>k==k0)=true
 .rw[ai ha,ai ha,Tr,vF aq,O,cr,O];exact ⟨m,F,rfl,h,Fr.refl _ _,Gr.refl _ _⟩
 .rw[ag ha,ag ha]
  have hk:lr (.lst none false o (((cW v (k0::ks)).kids).map (AV.int .i64)))=bM (cW v (k0::ks)):=by
   unfold bM;rw[ag (show ¬ (cW v (k0::ks)).var<0 from hv.1)]
   rcases ho with rfl|⟨t,e,rfl⟩<;>rfl
  obtain ⟨m',F',e,h1,h2,h3⟩:=Ez h hn (z:=false) (o:=o) hk hl hmo;refine ⟨m',F',?_,h1,h2,h3⟩;have e:AC aa 139 [.ptr s 0,.agg [.I v,IA false o (k0::ks),.I 0]] m=_:=e;rw[e,O,Tq]
theorem nD{f g:Nat}{vs:List AV}{m:af}{K:AV->af->OM}(h1:((aa.lib g).isNone&&(aa.libm g).isNone)=true)(h2:aa.inl f g=true)(h3:aa.thaw f g=false)(h4:aa.frzc f g=false:=by rfl):iP aa f (AP aa) (AC aa) none g vs m K=(AC aa g vs m).bind fun r=>K r.1 r.2:=by
 have h5:aa.lib g=none/\aa.libm g=none:=by
  rw[cg] at h1;exact ⟨Option.isNone_iff_eq_none.1 h1.1,Option.isNone_iff_eq_none.1 h1.2⟩
 unfold iP;rw[h5.2,h5.1,h2,h4,h3]
theorem Fq{g:Nat}{caps:List AV}{id:Int}{l':List ND}(h:bB m s F arms most l)(h1:((aa.lib g).isNone&&(aa.libm g).isNone)=true)(h2:aa.inl 84 g=true)(h3:aa.thaw 84 g=false)
  (hc:∀m1,Fr m m1 []->∃m' F',AC aa g caps m1=some (.I id,m')/\bB m' s F' arms most l'/\Fr m1 m' F/\Gr m1 F F') :
  ∃m' F',AC aa 84 [.ptr s 0,.fn g caps] m=some (.tup [.I id,.I 0],m')/\bB m' s F' arms most l'/\Fr m m' F/\Gr m F F':=by
 have hlt:=h.lt;obtain ⟨p,na,T,h,rfl⟩:=h;have hs:=h.hs;have hsl:=bo hs
 have hlen:aL false na=some (.I l.length):=by
  cases h.hn with
  | none=>rfl
  | some t l ht=>rw[jX,bA]
 obtain ⟨m2,F2,e2,k1,k2,k3⟩:=hc (List.set (((m++[some (Ent.B [.ptr s 0])])++[some (Ent.B [.I 0])])++[some (Ent.B [.I 0])]++[some (Ent.B [.I 0])]) (m.length+1+1+1) (some (Ent.B [.I l.length]))) (((((Fr.app m _ _).snoc _).snoc _).snoc _).set _ (.inr Z));have len2:=k2.len;simp only[ff,aQ,a8,bq] at len2
 have g1:af.get m2 (m.length+1)=some (Ent.B [.I 0]):=by
  rw[k2.get _ aq (fun hx=>by have:=hlt _ hx;omega)];exact (by simp (disch:=first|assumption|omega|simp only[aX]<;>omega|fail) only[di,bP,bG,bO,b7]<;>rfl)
 have g2:af.get m2 (m.length+2)=some (Ent.B [.I 0]):=by
  rw[k2.get _ aq (fun hx=>by have:=hlt _ hx;omega)];exact (by simp (disch:=first|assumption|omega|simp only[aX]<;>omega|fail) only[di,bP,bG,bO,b7]<;>rfl)
 have e:AC aa 84 [.ptr s 0,.fn g caps] m=some (.tup [.I id,.I 0],(m2.set (m.length+1) (some (Ent.B [.I id]))).set (m.length+1+1) (some (Ent.B [.I 0]))):=by
  rw[Ig]
  repeat ((with_reducible first|apply bs|apply bK);(focus first|(simp (disch:=first|assumption|omega|simp only[aX]<;>omega|fail) only[bJ,beq_self_eq_true,bH,O,Sh.size,aY,bf,Nat.reduceAdd,Nat.reduceLeDiff,aI,hs,hlen,ml]<;>rfl)|rfl);try dsimp only)
  rw[bX,nD h1 h2 h3,e2,O];dsimp only
  repeat ((with_reducible first|apply bs|apply bK);(focus first|(simp (disch:=first|assumption|omega|simp only[aX]<;>omega|fail) only[bJ,beq_self_eq_true,bH,O,Sh.size,aY,bf,Nat.reduceAdd,Nat.reduceLeDiff,aI,g1,g2]<;>rfl)|rfl);try dsimp only)
 refine ⟨_,F2,e,?_,?_,?_⟩
 .refine k1.move fun x hx=>?_
  have hx2:x≠m.length+1/\x≠m.length+1+1:=by
   rcases k3 x hx with h|h
   .have:=hlt x h;omega
   .simp only[ff,aQ,a8,bq] at h;omega
  rw[bO hx2.2,bO hx2.1]
 .have f1:Fr m m2 (s::p::T):=Fr.trans (((((Fr.app m _ _).snoc _).snoc _).snoc _).set _ (.inr Z)) k2 fun x hx=>.inl hx;exact (f1.set _ (.inr (by omega))).set _ (.inr Z)
 .intro x hx
  rcases k3 x hx with h|h
  .exact .inl h
  .simp only[ff,aQ,a8,bq] at h;exact .inr Z
end
end Go.Ab
namespace Go.Ab
open Go.Proofs Go.Proofs.Tryz
section
variable {m:af} {s:Nat} {F:List Nat} {arms:AV} {most:Int} {l:List ND}
theorem not_mem_nil{F:List Nat}:∀x∈F,x∉([]:List Nat):=fun _ _ h=>by cases h
theorem bB.app(h:bB m s F arms most l){m':af}(f:Fr m m' []):bB m' s F arms most l:=h.fr f not_mem_nil
def px(l:List ND)(x:Int):(Int×Int)×List ND:=if 0<=x/\x<=2147483647 then ((((l.idxOf (gC x):Nat):Int),0),gg l (gC x)) else ((0,1),l)
theorem NF{b1 b2:Nat}{x:Int}(h:bB m s F arms most l)(h1:m.get b1=some (Ent.B [.ptr s 0]))(h2:m.get b2=some (Ent.B [.I x]))(hx:0<=x/\x<=2147483647)(hl:(l.length:Int)<most)(hmo:most<=1073741824) :
  ∃m' F',AC aa 95 [.ptr b1 0,.ptr b2 0] m=some (.I (l.idxOf (gC x):Nat),m')/\bB m' s F' arms most (gg l (gC x))/\Fr m m' F/\Gr m F F':=by
 obtain ⟨m',F',e,k⟩:=Fs h hx hl hmo;refine ⟨m',F',?_,k⟩;rw[Vw]
 repeat ((with_reducible first|apply bs|apply bK);(focus first|(simp (disch:=first|assumption|omega|simp only[aX]<;>omega|fail) only[bJ,beq_self_eq_true,bH,O,Sh.size,aY,bf,Nat.reduceAdd,Nat.reduceLeDiff,aI,h1,h2,e]<;>rfl)|rfl);try dsimp only)
theorem Fk(h:bB m s F arms most l)(x:Int)(hl:(l.length:Int)<most)(hmo:most<=1073741824) :
  ∃m' F',AC aa 33 [.ptr s 0,.I x] m=some (.tup [.I (px l x).1.1,.I (px l x).1.2],m')/\bB m' s F' arms most (px l x).2/\Fr m m' F/\Gr m F F':=by
 have f2:Fr m ((m++[some (Ent.B [.ptr s 0])])++[some (Ent.B [.I x])]) []:=(Fr.app m _ _).snoc _;have h2:=h.app f2;have e50:=oH h2 Z;have hlt:=h.lt
 by_cases hx:0<=x/\x<=2147483647
 .have hd:decide (0<=x/\x<=2147483647)=true:=eT hx
  obtain ⟨m',F',e52,k1,k2,k3⟩:=Fq (g:=95) (caps:=[.ptr m.length 0,.ptr (m.length+1) 0]) (id:=(l.idxOf (gC x):Nat)) h2 rfl rfl rfl
   (fun m1 fr=>NF (h2.app fr) (by rw[fr.get _ aq aq];exact (by simp (disch:=first|assumption|omega|simp only[aX]<;>omega|fail) only[di,bP,bG,bO,b7]<;>rfl)) (by rw[fr.get _ aq aq];exact (by simp (disch:=first|assumption|omega|simp only[aX]<;>omega|fail) only[di,bP,bG,bO,b7]<;>rfl)) hx hl hmo)
  refine ⟨m',F',?_,by rw[px,ai hx];exact k1,Fr.trans (f2.mono aq) k2 fun _ h=>.inl h,Gr.trans f2.len (Gr.refl m F) k3⟩;rw[Ia,px,ai hx]
  repeat ((with_reducible first|apply bs|apply bK);(focus first|(simp (disch:=first|assumption|omega|simp only[aX]<;>omega|fail) only[bJ,beq_self_eq_true,bH,O,Sh.size,aY,bf,Nat.reduceAdd,Nat.reduceLeDiff,aI,ml,nC,e50]<;>rfl)|rfl);try dsimp only)
  rw[cD]
  repeat ((with_reducible first|apply bs|apply bK);(focus first|(simp (disch:=first|assumption|omega|simp only[aX]<;>omega|fail) only[bJ,beq_self_eq_true,bH,O,Sh.size,aY,bf,Nat.reduceAdd,Nat.reduceLeDiff,aI,ml,nC,LF,hd]<;>rfl)|rfl);try dsimp only)
  rw[hZ,cD]
  repeat ((with_reducible first|apply bs|apply bK);(focus first|(simp (disch:=first|assumption|omega|simp only[aX]<;>omega|fail) only[bJ,beq_self_eq_true,bH,O,Sh.size,aY,bf,Nat.reduceAdd,Nat.reduceLeDiff,aI,e52]<;>rfl)|rfl);try dsimp only)
 .have hd:decide (0<=x/\x<=2147483647)=false:=eX hx;refine ⟨_,F,?_,by rw[px,ag hx];exact h2,f2.mono aq,Gr.refl _ _⟩;rw[Ia,px,ag hx]
  repeat ((with_reducible first|apply bs|apply bK);(focus first|(simp (disch:=first|assumption|omega|simp only[aX]<;>omega|fail) only[bJ,beq_self_eq_true,bH,O,Sh.size,aY,bf,Nat.reduceAdd,Nat.reduceLeDiff,aI,ml,nC,e50]<;>rfl)|rfl);try dsimp only)
  rw[cD]
  repeat ((with_reducible first|apply bs|apply bK);(focus first|(simp (disch:=first|assumption|omega|simp only[aX]<;>omega|fail) only[bJ,beq_self_eq_true,bH,O,Sh.size,aY,bf,Nat.reduceAdd,Nat.reduceLeDiff,aI,ml,nC,LF,hd]<;>rfl)|rfl);try dsimp only)
  rw[ka,gJ]
def oq(a:Nat)(l:List ND)(v k:Int):Bool:=decide (0<=k/\k<l.length)&&decide (v<bY a (l.getD k.toNat ⟨0,[],0⟩))
def py(ar:List Int)(l:List ND)(v:Int)(ks:List Int):(Int×Int)×List ND:=
 if 0<=v/\v<ar.length/\(ks.length:Int)=ar.getD v.toNat 0/\ks.all (oq ar.length l v)=true then (((jm l v ks).1,0),(jm l v ks).2) else ((0,1),l)
theorem NG{z:Bool}{o:Own}{ar:List Int}{b1 b2:Nat}{k v:Int}(h:bB m s F (IA z o ar) most l)(h1:m.get b1=some (Ent.B [.ptr s 0]))(h2:m.get b2=some (Ent.B [.I v])) :
  ∃m',AC aa 97 [.I k,.ptr b1 0,.ptr b2 0] m=some (.bool (!oq ar.length l v k),m')/\Fr m m' []:=by
 have e56:=sg h k;have hl1:=bo h1;have hl2:=bo h2
 by_cases hk:0<=k/\k<l.length
 .have hd:decide (0<=k/\k<l.length)=true:=eT hk;obtain ⟨i,rfl⟩:=jO hk.1;have hi:i<l.length:=Z;obtain ⟨m',e57,f⟩:=tU h hi;refine ⟨m',?_,f⟩;have h2':m'.get b2=some (Ent.B [.I v]):=(f.get _ hl2 (by simp)).trans h2;rw[Ii]
  repeat ((with_reducible first|apply bs|apply bK);(focus first|(simp (disch:=first|assumption|omega|simp only[aX]<;>omega|fail) only[bJ,beq_self_eq_true,bH,O,Sh.size,aY,bf,Nat.reduceAdd,Nat.reduceLeDiff,aI,h1,e56]<;>rfl)|rfl);try dsimp only)
  rw[hd,hZ,cD]
  repeat ((with_reducible first|apply bs|apply bK);(focus first|(simp (disch:=first|assumption|omega|simp only[aX]<;>omega|fail) only[bJ,beq_self_eq_true,bH,O,Sh.size,aY,bf,Nat.reduceAdd,Nat.reduceLeDiff,aI,h1,h2,e57]<;>rfl)|rfl);try dsimp only)
  rw[qq (by simp only[cS,h2',jx,O];rfl)]
  repeat ((with_reducible first|apply bs|apply bK);(focus first|(simp (disch:=first|assumption|omega|simp only[aX]<;>omega|fail) only[bJ,beq_self_eq_true,bH,O,Sh.size,aY,bf,Nat.reduceAdd,Nat.reduceLeDiff,aI]<;>rfl)|rfl);try dsimp only)
  rw[oq,hd,jc,cB,aK,bn hi,bQ];congr 3;rw[<- decide_not];exact iz.2 Z
 .have hd:decide (0<=k/\k<l.length)=false:=eX hk;refine ⟨m,?_,Fr.refl _ _⟩;rw[Ii]
  repeat ((with_reducible first|apply bs|apply bK);(focus first|(simp (disch:=first|assumption|omega|simp only[aX]<;>omega|fail) only[bJ,beq_self_eq_true,bH,O,Sh.size,aY,bf,Nat.reduceAdd,Nat.reduceLeDiff,aI,h1,e56]<;>rfl)|rfl);try dsimp only)
  rw[hd,ka,gJ,qq rfl,oq,hd,oI,ka]
theorem IX{z:Bool}{o:Own}{ks:List Int}{g:Nat}{caps:List AV}{p:Int->Bool}(hlen:ks.length<=100000)(h1:((aa.lib g).isNone&&(aa.libm g).isNone)=true)(h2:aa.inl 145 g=true)(h3:aa.thaw 145 g=false)(m0:af)
  (hc:∀m1 k,Fr m0 m1 []->∃m',AC aa g (.I k::caps) m1=some (.bool (p k),m')/\Fr m1 m' []):∀(j i:Nat) (m1:af),i+j=ks.length->Fr m0 m1 [] ->
  ∃m' v,nX (IA z o ks) (.fn g caps) (.I ks.length) (.I i) m1 (nV (aD f145))=some (.I v,m')/\decide (v≥0)=(ks.drop i).any p/\Fr m0 m' []
 | 0,i,m1,h,f=>by
  refine ⟨m1,-1,?_,?_,f⟩
  .rw[xA,bg,O,az,ag Z,FL]
  .rw[fQ Z];rfl
 | j+1,i,m1,h,f=>by
  have hi:i<ks.length:=Z;obtain ⟨m2,e,f2⟩:=hc m1 ks[i] f;have f3:Fr m0 m2 []:=Fr.trans f f2 fun x hx=>by cases hx
  have e0:nX (IA z o ks) (.fn g caps) (.I ks.length) (.I i) m1 (nV (aD f145)) =
    au (.bool (p ks[i])) (some (.I i,m2)) (nX (IA z o ks) (.fn g caps) (.I ks.length) (.I (i+1:Nat)) m2 (nV (aD f145))):=by
   rw[xA,bg,O,az,ai Z,fw hi,O,cr,O,show jj (.fn g caps)=some (g,caps) from rfl,O,nD h1 h2 h3,List.singleton_append,e,O,FK,b6 Z,O]
  rw[e0,ic hi,List.any_cons]
  cases hp:p ks[i] with
  | true=>
   rw[gJ];exact ⟨m2,i,rfl,aq,f3⟩
  | false=>
   rw[cD];obtain ⟨m',v,e1,e2,e3⟩:=IX hlen h1 h2 h3 m0 hc j (i+1) m2 Z f3;exact ⟨m',v,e1,by rw[e2,Bool.false_or],e3⟩
theorem Fo{z:Bool}{o:Own}{ks:List Int}{g:Nat}{caps:List AV}{p:Int->Bool}(hlen:ks.length<=100000)(h1:((aa.lib g).isNone&&(aa.libm g).isNone)=true)(h2:aa.inl 145 g=true)(h3:aa.thaw 145 g=false)
  (hc:∀m1 k,Fr m m1 []->∃m',AC aa g (.I k::caps) m1=some (.bool (p k),m')/\Fr m1 m' []):∃m',AC aa 92 [IA z o ks,.fn g caps] m=some (.bool (ks.any p),m')/\Fr m m' []:=by
 obtain ⟨m',v,e1,e2,e3⟩:=IX (z:=z) (o:=o) hlen h1 h2 h3 m hc ks.length 0 m Z (Fr.refl _ _);refine ⟨m',?_,e3⟩;rw[Ih,H4,fc,O,show (AV.I 0)=.I ((0:Nat):Int) from rfl,e1,O,show ((0:Nat):Int)=0 from rfl];rw[je,O,e2,dk]
theorem NH{z:Bool}{o:Own}{ar:List Int}{b1 b2 b3:Nat}{v:Int}{kz:Bool}{ko:Own}{ks:List Int}(h:bB m s F (IA z o ar) most l)(h1:m.get b1=some (Ent.B [.ptr s 0]))(h2:m.get b2=some (Ent.B [.I v]))(h3:m.get b3=some (Ent.B [IA kz ko ks]))
  (hne:ks≠[]) (hz:kz=false) (hn:(cW v ks).ok) (hl:(l.length:Int)<most) (hmo:most<=1073741824) :
  ∃m' F',AC aa 98 [.ptr b1 0,.ptr b2 0,.ptr b3 0] m=some (.I (jm l v ks).1,m')/\bB m' s F' (IA z o ar) most (jm l v ks).2/\Fr m m' F/\Gr m F F':=by
 subst hz
 have hkl:ks.length<=64:=by
  rcases hn with ⟨_,h2,_⟩|⟨_,_,_,_,h5⟩
  .exact absurd h2 hne
  .exact h5
 have hcl:rj false ks=IA false .no ks:=by unfold rj;rw[ag aq,ag hne]
 have c49:=fun m=>vV false ko ks Z m;obtain ⟨m',F',e,k⟩:=AQ h hne hn (z:=false) rfl (.inl rfl) hl hmo;refine ⟨m',F',?_,k⟩;rw[Vy]
 repeat ((with_reducible first|apply bs|apply bK);(focus first|(simp (disch:=first|assumption|omega|simp only[aX]<;>omega|fail) only[bJ,beq_self_eq_true,bH,O,Sh.size,aY,bf,Nat.reduceAdd,Nat.reduceLeDiff,aI,h1,h2,h3,c49,hcl]<;>rfl)|rfl);try dsimp only)
 rw[qq (by simp only[cS,h1,jx,O];rfl),qq (by simp only[cS,h2,jx,O];rfl)]
 repeat ((with_reducible first|apply bs|apply bK);(focus first|(simp (disch:=first|assumption|omega|simp only[aX]<;>omega|fail) only[bJ,beq_self_eq_true,bH,O,Sh.size,aY,bf,Nat.reduceAdd,Nat.reduceLeDiff,aI,e]<;>rfl)|rfl);try dsimp only)
theorem CP(ks:List Int)(p:Int->Bool):ks.any (fun k=>!p k) = !ks.all p:=by
 induction ks with
 | nil=>rfl
 | cons k ks ih=>rw[List.any_cons,lW,ih,Bool.not_and]
theorem vh(z:Bool)(o:Own)(es:List AV)(m:af):cQ none none m (.lst none z o es)=some (.ptr m.length 0,m++[some (Ent.B [.lst none z o es])]):=rfl
theorem Nr{z:Bool}{o:Own}{ar:List Int}{kz:Bool}{ko:Own}{ks:List Int}(h:bB m s F (IA z o ar) most l)(v:Int)(hz:kz=true->ks=[])(har:∀a∈ar,1<=a/\a<=64)(harl:ar.length<=16)(hkl:ks.length<=1000)(hl:(l.length:Int)<most)(hmo:most<=100000) :
  ∃m' F',AC aa 34 [.ptr s 0,.I v,IA kz ko ks] m=some (.tup [.I (py ar l v ks).1.1,.I (py ar l v ks).1.2],m')/\bB m' s F' (IA z o ar) most (py ar l v ks).2/\Fr m m' F/\Gr m F F':=by
 have f3:Fr m (((m++[some (Ent.B [.ptr s 0])])++[some (Ent.B [.I v])])++[some (Ent.B [IA kz ko ks])]) []:=((Fr.app m _ _).snoc _).snoc _;have h3:=h.app f3;have e50:=oH h3 Z
 have hs:∃na p,af.get m s=some (Ent.B [IA z o ar,na,.mref p,.I most]):=by
  obtain ⟨p,na,T,h,rfl⟩:=h;exact ⟨na,p,h.hs⟩
 obtain ⟨na,p,hs⟩:=hs;have hsl:=bo hs;have bad:¬ (0<=v/\v<ar.length/\(ks.length:Int)=ar.getD v.toNat 0/\ks.all (oq ar.length l v)=true)->py ar l v ks=((0,1),l):=fun hb=>by rw[py,ag hb]
 by_cases hv0:v<0
 .refine ⟨_,F,?_,by rw[bad Z];exact h3,f3.mono aq,Gr.refl _ _⟩;rw[uR,bad Z]
  repeat ((with_reducible first|apply bs|apply bK);(focus first|(simp (disch:=first|assumption|omega|simp only[aX]<;>omega|fail) only[bJ,beq_self_eq_true,bH,O,Sh.size,aY,bf,Nat.reduceAdd,Nat.reduceLeDiff,aI,ml,nC,vh,e50]<;>rfl)|rfl);try dsimp only)
  rw[cD]
  repeat ((with_reducible first|apply bs|apply bK);(focus first|(simp (disch:=first|assumption|omega|simp only[aX]<;>omega|fail) only[bJ,beq_self_eq_true,bH,O,Sh.size,aY,bf,Nat.reduceAdd,Nat.reduceLeDiff,aI]<;>rfl)|rfl);try dsimp only)
  rw[az,ai hv0]
 by_cases hv1:v≥ar.length
 .refine ⟨_,F,?_,by rw[bad Z];exact h3,f3.mono aq,Gr.refl _ _⟩;rw[uR,bad Z]
  repeat ((with_reducible first|apply bs|apply bK);(focus first|(simp (disch:=first|assumption|omega|simp only[aX]<;>omega|fail) only[bJ,beq_self_eq_true,bH,O,Sh.size,aY,bf,Nat.reduceAdd,Nat.reduceLeDiff,aI,ml,nC,vh,e50]<;>rfl)|rfl);try dsimp only)
  rw[cD]
  repeat ((with_reducible first|apply bs|apply bK);(focus first|(simp (disch:=first|assumption|omega|simp only[aX]<;>omega|fail) only[bJ,beq_self_eq_true,bH,O,Sh.size,aY,bf,Nat.reduceAdd,Nat.reduceLeDiff,aI]<;>rfl)|rfl);try dsimp only)
  rw[az,ag hv0]
  repeat ((with_reducible first|apply bs|apply bK);(focus first|(simp (disch:=first|assumption|omega|simp only[aX]<;>omega|fail) only[bJ,beq_self_eq_true,bH,O,Sh.size,aY,bf,Nat.reduceAdd,Nat.reduceLeDiff,aI,hs]<;>rfl)|rfl);try dsimp only)
  rw[az,ai hv1]
 obtain ⟨i,rfl⟩:=jO (by omega:0<=v);have hi:i<ar.length:=Z;have hix:=fw (z:=z) (o:=o) (k:=.i64) hi;have hai:ar.getD ((i:Int).toNat) 0=ar[i]:=by rw[cB,aK,bn hi,bQ]
 have hab:=har ar[i] (bp hi);by_cases hk:(ks.length:Int)=ar[i]
 case neg=>
  refine ⟨_,F,?_,by rw[bad (by rw[hai];omega)];exact h3,f3.mono aq,Gr.refl _ _⟩;rw[uR,bad (by rw[hai];omega)]
  repeat ((with_reducible first|apply bs|apply bK);(focus first|(simp (disch:=first|assumption|omega|simp only[aX]<;>omega|fail) only[bJ,beq_self_eq_true,bH,O,Sh.size,aY,bf,Nat.reduceAdd,Nat.reduceLeDiff,aI,ml,nC,vh,e50]<;>rfl)|rfl);try dsimp only)
  rw[cD]
  repeat ((with_reducible first|apply bs|apply bK);(focus first|(simp (disch:=first|assumption|omega|simp only[aX]<;>omega|fail) only[bJ,beq_self_eq_true,bH,O,Sh.size,aY,bf,Nat.reduceAdd,Nat.reduceLeDiff,aI]<;>rfl)|rfl);try dsimp only)
  rw[az,ag hv0]
  repeat ((with_reducible first|apply bs|apply bK);(focus first|(simp (disch:=first|assumption|omega|simp only[aX]<;>omega|fail) only[bJ,beq_self_eq_true,bH,O,Sh.size,aY,bf,Nat.reduceAdd,Nat.reduceLeDiff,aI,hs]<;>rfl)|rfl);try dsimp only)
  rw[az,ag hv1]
  repeat ((with_reducible first|apply bs|apply bK);(focus first|(simp (disch:=first|assumption|omega|simp only[aX]<;>omega|fail) only[bJ,beq_self_eq_true,bH,O,Sh.size,aY,bf,Nat.reduceAdd,Nat.reduceLeDiff,aI,hs,hix]<;>rfl)|rfl);try dsimp only)
  rw[az,ai hk]
 have hne:ks≠[]:=fun e=>by rw[e] at hk;simp at hk;omega
 have hzf:kz=false:=by cases kz with
  | false=>rfl
  | true=>exact absurd (hz rfl) hne
 obtain ⟨m4,e47,f4⟩:=Fo (m:=(((m++[some (Ent.B [.ptr s 0])])++[some (Ent.B [.I i])])++[some (Ent.B [IA kz ko ks])])) (z:=kz) (o:=ko) (ks:=ks) (g:=97) (caps:=[.ptr m.length 0,.ptr (m.length+1) 0]) (p:=fun k=>!oq ar.length l i k) Z rfl rfl rfl
  (fun m1 k fr=>NG (h3.app fr) (by rw[fr.get _ aq aq];exact (by simp (disch:=first|assumption|omega|simp only[aX]<;>omega|fail) only[di,bP,bG,bO,b7]<;>rfl)) (by rw[fr.get _ aq aq];exact (by simp (disch:=first|assumption|omega|simp only[aX]<;>omega|fail) only[di,bP,bG,bO,b7]<;>rfl)))
 rw[CP] at e47;have h4:=h3.app f4;have f34:Fr m m4 []:=Fr.trans f3 f4 fun x hx=>by cases hx
 have g1:m4.get m.length=some (Ent.B [.ptr s 0]):=by rw[f4.get _ aq aq];exact (by simp (disch:=first|assumption|omega|simp only[aX]<;>omega|fail) only[di,bP,bG,bO,b7]<;>rfl)
 have g2:m4.get (m.length+1)=some (Ent.B [.I i]):=by rw[f4.get _ aq aq];exact (by simp (disch:=first|assumption|omega|simp only[aX]<;>omega|fail) only[di,bP,bG,bO,b7]<;>rfl)
 have g3:m4.get (m.length+1+1)=some (Ent.B [IA kz ko ks]):=by rw[f4.get _ aq aq];exact (by simp (disch:=first|assumption|omega|simp only[aX]<;>omega|fail) only[di,bP,bG,bO,b7]<;>rfl)
 by_cases ha:ks.all (oq ar.length l i)=true
 case neg=>
  have ha':ks.all (oq ar.length l i)=false:=by simpa using ha
  refine ⟨_,F,?_,by rw[bad (by rw[ha'];simp)];exact h4,f34.mono aq,Gr.refl _ _⟩;rw[uR,bad (by rw[ha'];simp)]
  repeat ((with_reducible first|apply bs|apply bK);(focus first|(simp (disch:=first|assumption|omega|simp only[aX]<;>omega|fail) only[bJ,beq_self_eq_true,bH,O,Sh.size,aY,bf,Nat.reduceAdd,Nat.reduceLeDiff,aI,ml,nC,vh,e50]<;>rfl)|rfl);try dsimp only)
  rw[cD]
  repeat ((with_reducible first|apply bs|apply bK);(focus first|(simp (disch:=first|assumption|omega|simp only[aX]<;>omega|fail) only[bJ,beq_self_eq_true,bH,O,Sh.size,aY,bf,Nat.reduceAdd,Nat.reduceLeDiff,aI]<;>rfl)|rfl);try dsimp only)
  rw[az,ag hv0]
  repeat ((with_reducible first|apply bs|apply bK);(focus first|(simp (disch:=first|assumption|omega|simp only[aX]<;>omega|fail) only[bJ,beq_self_eq_true,bH,O,Sh.size,aY,bf,Nat.reduceAdd,Nat.reduceLeDiff,aI,hs]<;>rfl)|rfl);try dsimp only)
  rw[az,ag hv1]
  repeat ((with_reducible first|apply bs|apply bK);(focus first|(simp (disch:=first|assumption|omega|simp only[aX]<;>omega|fail) only[bJ,beq_self_eq_true,bH,O,Sh.size,aY,bf,Nat.reduceAdd,Nat.reduceLeDiff,aI,hs,hix]<;>rfl)|rfl);try dsimp only)
  rw[az,ag Z]
  repeat ((with_reducible first|apply bs|apply bK);(focus first|(simp (disch:=first|assumption|omega|simp only[aX]<;>omega|fail) only[bJ,beq_self_eq_true,bH,O,Sh.size,aY,bf,Nat.reduceAdd,Nat.reduceLeDiff,aI,e47]<;>rfl)|rfl);try dsimp only)
  rw[ha',ka,gJ]
 have good:py ar l i ks=(((jm l i ks).1,0),(jm l i ks).2):=by rw[py,ai ⟨Z,Z,by rw[hai];exact hk,ha⟩]
 have hn:(cW i ks).ok:=by
  refine .inr ⟨by simp only[cW];omega,by simp only[cW];omega,rfl,fun k hk'=>?_,by simp only[cW];omega⟩;have:=fe.1 ha k hk';unfold oq at this;simp only[cg,lc] at this;omega
 obtain ⟨m',F',e52,k1,k2,k3⟩:=Fq (g:=98) (caps:=[.ptr m.length 0,.ptr (m.length+1) 0,.ptr (m.length+1+1) 0]) (id:=(jm l i ks).1) (l':=(jm l i ks).2) h4 rfl rfl rfl
  (fun m1 fr=>NH (h4.app fr) (by rw[fr.get _ (bo g1) aq];exact g1) (by rw[fr.get _ (bo g2) aq];exact g2) (by rw[fr.get _ (bo g3) aq];exact g3) hne hzf hn hl Z)
 refine ⟨m',F',?_,by rw[good];exact k1,Fr.trans (f34.mono aq) k2 fun _ h=>.inl h,Gr.trans f34.len (Gr.refl m F) k3⟩;rw[uR,good]
 repeat ((with_reducible first|apply bs|apply bK);(focus first|(simp (disch:=first|assumption|omega|simp only[aX]<;>omega|fail) only[bJ,beq_self_eq_true,bH,O,Sh.size,aY,bf,Nat.reduceAdd,Nat.reduceLeDiff,aI,ml,nC,vh,e50]<;>rfl)|rfl);try dsimp only)
 rw[cD]
 repeat ((with_reducible first|apply bs|apply bK);(focus first|(simp (disch:=first|assumption|omega|simp only[aX]<;>omega|fail) only[bJ,beq_self_eq_true,bH,O,Sh.size,aY,bf,Nat.reduceAdd,Nat.reduceLeDiff,aI]<;>rfl)|rfl);try dsimp only)
 rw[az,ag hv0]
 repeat ((with_reducible first|apply bs|apply bK);(focus first|(simp (disch:=first|assumption|omega|simp only[aX]<;>omega|fail) only[bJ,beq_self_eq_true,bH,O,Sh.size,aY,bf,Nat.reduceAdd,Nat.reduceLeDiff,aI,hs]<;>rfl)|rfl);try dsimp only)
 rw[az,ag hv1]
 repeat ((with_reducible first|apply bs|apply bK);(focus first|(simp (disch:=first|assumption|omega|simp only[aX]<;>omega|fail) only[bJ,beq_self_eq_true,bH,O,Sh.size,aY,bf,Nat.reduceAdd,Nat.reduceLeDiff,aI,hs,hix]<;>rfl)|rfl);try dsimp only)
 rw[az,ag Z]
 repeat ((with_reducible first|apply bs|apply bK);(focus first|(simp (disch:=first|assumption|omega|simp only[aX]<;>omega|fail) only[bJ,beq_self_eq_true,bH,O,Sh.size,aY,bf,Nat.reduceAdd,Nat.reduceLeDiff,aI,e47]<;>rfl)|rfl);try dsimp only)
 rw[ha,hZ,cD]
 repeat ((with_reducible first|apply bs|apply bK);(focus first|(simp (disch:=first|assumption|omega|simp only[aX]<;>omega|fail) only[bJ,beq_self_eq_true,bH,O,Sh.size,aY,bf,Nat.reduceAdd,Nat.reduceLeDiff,aI,g1,e52]<;>rfl)|rfl);try dsimp only)
theorem Nt(h:bB m s F arms most l)(hm:most≠0):AC aa 30 [.ptr s 0] m=some (.I l.length,m):=by
 have e50:=oH h hm;obtain ⟨p,na,T,h,rfl⟩:=h;have hs:=h.hs
 have hlen:aL false na=some (.I l.length):=by
  cases h.hn with
  | none=>rfl
  | some t l ht=>rw[jX,bA]
 rw[U0]
 repeat ((with_reducible first|apply bs|apply bK);(focus first|(simp (disch:=first|assumption|omega|simp only[aX]<;>omega|fail) only[bJ,beq_self_eq_true,bH,O,Sh.size,aY,bf,Nat.reduceAdd,Nat.reduceLeDiff,aI,e50]<;>rfl)|rfl);try dsimp only)
 rw[cD]
 repeat ((with_reducible first|apply bs|apply bK);(focus first|(simp (disch:=first|assumption|omega|simp only[aX]<;>omega|fail) only[bJ,beq_self_eq_true,bH,O,Sh.size,aY,bf,Nat.reduceAdd,Nat.reduceLeDiff,aI,hs,hlen]<;>rfl)|rfl);try dsimp only)
end
end Go.Ab
namespace Go.Ab
theorem rN{α:Type}{l:List α}(h:l.Nodup){i j:Nat}(hi:i<l.length)(hj:j<l.length)(e:l[i]=l[j]):i=j:=by
 have hp:=List.pairwise_iff_getElem.1 h
 rcases Nat.lt_trichotomy i j with hh|hh|hh
 .exact absurd e (hp i j hi hj hh)
 .exact hh
 .exact absurd e.symm (hp j i hj hi hh)
structure GoodL (ar:List Int) (l:List ND):Prop where
 ok:∀n∈l,n.ok
 nd:l.Nodup
 var:∀(i:Nat) (h:i<l.length),0<=l[i].var->l[i].var<ar.length/\(l[i].kids.length:Int)=ar.getD l[i].var.toNat 0
 kid:∀(i:Nat) (h:i<l.length),0<=l[i].var->∀k∈l[i].kids,∃t:Nat,k=t/\t<i/\∀(ht:t<l.length),l[i].var<bY ar.length l[t]
 dif:∀(i:Nat) (h:i<l.length),0<=l[i].var->∃k∈l[i].kids,k≠l[i].kids.headD 0
def sem(l:List ND)(a:Nat->Nat):Nat->Nat->Int
 | 0,_=>0
 | n+1,i=>match l[i]? with
  | none=>0
  | some x=>if x.var<0 then x.leaf else sem l a n (x.kids.getD (a x.var.toNat) 0).toNat
def S(l:List ND)(a:Nat->Nat)(i:Nat):Int:=sem l a (i+1) i
def cO(ar:List Int)(a:Nat->Nat):Prop:=∀v,v<ar.length->(a v:Int)<ar.getD v 0
def upd(a:Nat->Nat)(v k:Nat):Nat->Nat:=fun w=>if w=v then k else a w
theorem cO.upd{ar:List Int}{a:Nat->Nat}(h:cO ar a){v k:Nat}(hk:(k:Int)<ar.getD v 0):cO ar (upd a v k):=fun w hw=>by
 unfold Ab.upd
 split
 .rename_i e;rw[e];exact hk
 .exact h w hw
section
variable {ar:List Int} {l:List ND}
theorem jW(g:GoodL ar l){i:Nat}(hi:i<l.length)(hv:0<=l[i].var){k:Nat}(hk:(k:Int)<ar.getD l[i].var.toNat 0) :
  ∃t:Nat,l[i].kids.getD k 0=t/\t<i/\∀(ht:t<l.length),l[i].var<bY ar.length l[t]:=by
 have hl:=(g.var i hi hv).2;have hkl:k<l[i].kids.length:=Z;rw[aK,bn hkl,bQ];exact g.kid i hi hv _ (bp hkl)
theorem Mv(g:GoodL ar l){a:Nat->Nat}(ha:cO ar a):∀(n i m:Nat),i<l.length->i<n->i<m->sem l a n i=sem l a m i
 | 0,i,m,_,h,_=>Z
 | n+1,i,0,_,_,h=>Z
 | n+1,i,m+1,hi,_,_=>by
  simp only[sem,bn hi]
  by_cases hv:l[i].var<0
  .rw[ai hv,ai hv]
  .rw[ag hv,ag hv];obtain ⟨hv1,hv2⟩:=g.var i hi Z;obtain ⟨t,e,ht,_⟩:=jW g hi Z (ha l[i].var.toNat Z);rw[e,cB];exact Mv g ha n t m Z Z Z
theorem mT{a:Nat->Nat}{i:Nat}(hi:i<l.length)(hv:l[i].var<0):S l a i=l[i].leaf:=by
 simp only[S,sem,bn hi,ai hv]
theorem nw(g:GoodL ar l){a:Nat->Nat}(ha:cO ar a){i:Nat}(hi:i<l.length)(hv:¬ l[i].var<0):S l a i=S l a (l[i].kids.getD (a l[i].var.toNat) 0).toNat:=by
 obtain ⟨hv1,hv2⟩:=g.var i hi Z;obtain ⟨t,e,ht,_⟩:=jW g hi Z (ha l[i].var.toNat Z);rw[e,cB];unfold S;rw[sem];simp only[bn hi,ag hv,e,cB];exact Mv g ha _ _ _ Z Z Z
theorem p8(g:GoodL ar l){a:Nat->Nat}(ha:cO ar a){v k:Nat}(hk:(k:Int)<ar.getD v 0):∀(i:Nat) (hi:i<l.length),(v:Int)<bY ar.length l[i]->S l (upd a v k) i=S l a i:=by
 intro i
 induction i using Nat.strongRecOn with
 | ind i ih=>
  intro hi hv
  by_cases hn:l[i].var<0
  .rw[mT hi hn,mT hi hn]
  .rw[bY,ai Z] at hv;have hne:l[i].var.toNat≠v:=Z;have e:upd a v k l[i].var.toNat=a l[i].var.toNat:=by unfold upd;rw[ag hne]
   rw[nw g (ha.upd hk) hi hn,nw g ha hi hn,e];obtain ⟨hv1,hv2⟩:=g.var i hi Z;obtain ⟨t,e,ht,h2⟩:=jW g hi Z (ha l[i].var.toNat Z);rw[e,cB];exact ih t ht Z (by have:=h2 Z;omega)
theorem sV(g:GoodL ar l){a:Nat->Nat}(ha:cO ar a){i:Nat}(hi:i<l.length){v k:Nat}(hv:l[i].var=v)(hk:(k:Int)<ar.getD v 0):S l (upd a v k) i=S l a (l[i].kids.getD k 0).toNat:=by
 have hvt:l[i].var.toNat=v:=Z;rw[nw g (ha.upd hk) hi Z,hvt];have e:upd a v k v=k:=by unfold upd;rw[ai rfl]
 rw[e];obtain ⟨t,e,ht,h2⟩:=jW g hi Z (k:=k) (by rw[hvt];exact hk);rw[e,cB];exact p8 g ha hk t Z (by have:=h2 Z;omega)
theorem KL{x y:List Int}(hl:x.length=y.length)(h:∀k,k<x.length->x.getD k 0=y.getD k 0):x=y:=by
 apply List.ext_getElem hl;intro i h1 h2;have:=h i h1
 rwa [aK,aK,bn h1,bn h2] at this
theorem Eg(g:GoodL ar l)(h1:∀x∈ar,1<=x){i j:Nat}(hi:i<l.length)(hv:0<=l[i].var)(h:∀k:Nat,(k:Int)<ar.getD l[i].var.toNat 0->l[i].kids.getD k 0=j):False:=by
 obtain ⟨k,hk,hne⟩:=g.dif i hi hv;have hl:=(g.var i hi hv).2
 have all:∀k∈l[i].kids,k=j:=fun k hk=>by
  obtain ⟨t,ht,e⟩:=ig hk;have:=h t Z;rw[aK,bn ht,bQ] at this;rw[<- e,this]
 apply hne;rw[all k hk]
 cases hh:l[i].kids with
 | nil=>rw[hh] at hk;cases hk
 | cons x y=>rw[List.headD_cons];exact (all x (by rw[hh];exact cF)).symm
theorem rf(h1:∀x∈ar,1<=x):cO ar fun _=>0:=fun v hv=>by
 have:=h1 (ar[v]) (bp hv);rw[aK,bn hv,bQ];show ((0:Nat):Int)<_;omega
theorem canon(g:GoodL ar l)(h1:∀x∈ar,1<=x):∀(n i j:Nat) (hi:i<l.length) (hj:j<l.length),i+j<n->(∀a,cO ar a->S l a i=S l a j)->i=j:=by
 intro n
 induction n with
 | zero=>intro i j _ _ h;omega
 | succ n ih=>
  have half:∀(i j:Nat) (hi:i<l.length) (hj:j<l.length),i+j<n+1->(∀a,cO ar a->S l a i=S l a j)->¬ l[i].var<0->l[i].var<bY ar.length l[j]->False:=by
   intro i j hi hj hn h hv hlt;refine Eg g h1 hi (j:=j) Z fun k hk=>?_;obtain ⟨t,e,ht,h2⟩:=jW g hi Z hk;have hvt:((l[i].var.toNat:Nat):Int)=l[i].var:=Z;rw[e];congr 1;refine ih t j Z hj Z fun a ha=>?_;have e1:=sV g ha hi (v:=l[i].var.toNat) (k:=k) hvt.symm hk;rw[e,cB] at e1;rw[<- e1,h _ (ha.upd hk)];exact p8 g ha hk j hj Z
  intro i j hi hj hn h
  by_cases hvi:l[i].var<0
  .by_cases hvj:l[j].var<0
   .have hs:=h _ (rf h1);rw[mT hi hvi,mT hj hvj] at hs
    have e:l[i]=l[j]:=by
     have oi:=g.ok _ (bp hi);have oj:=g.ok _ (bp hj)
     rcases oi with ⟨a1,a2,_⟩|⟨a1,_⟩
     .rcases oj with ⟨b1,b2,_⟩|⟨b1,_⟩
      .generalize l[i]=x at *;generalize l[j]=y at *;obtain ⟨xv,xk,xl⟩:=x;obtain ⟨yv,yk,yl⟩:=y;simp only at a1 a2 b1 b2 hs;rw[a1,a2,b1,b2,hs]
      .omega
     .omega
    exact rN g.nd hi hj e
   .refine (half j i hj hi Z (fun a ha=>(h a ha).symm) hvj ?_).elim;rw[bY,ag Z];exact (g.var j hj (by omega)).1
  .by_cases hlt:l[i].var<bY ar.length l[j]
   .exact (half i j hi hj hn h hvi hlt).elim
   .have hvj:¬ l[j].var<0:=fun hh=>hlt (by rw[bY,ag Z];exact (g.var i hi (by omega)).1);rw[bY,ai Z] at hlt
    by_cases hlt2:l[j].var<l[i].var
    .exact (half j i hj hi Z (fun a ha=>(h a ha).symm) hvj (by rw[bY,ai Z];exact hlt2)).elim
    .have hv:l[i].var=l[j].var:=Z;have vi:=g.var i hi Z;have vj:=g.var j hj Z
     have hk:l[i].kids=l[j].kids:=by
      refine KL (by rw[hv] at vi;omega) fun k hk=>?_;have hki:(k:Int)<ar.getD l[i].var.toNat 0:=Z;have hkj:(k:Int)<ar.getD l[j].var.toNat 0:=by rw[<- hv];exact hki
      obtain ⟨t,e,ht,h2⟩:=jW g hi Z hki;obtain ⟨u,e',hu,h2'⟩:=jW g hj Z hkj;rw[e,e'];congr 1;refine ih t u Z Z Z fun a ha=>?_;have e1:=sV g ha hi (v:=l[i].var.toNat) (k:=k) Z hki;have e2:=sV g ha hj (v:=l[i].var.toNat) (k:=k) Z hki;rw[e,cB] at e1;rw[e',cB] at e2;rw[<- e1,<- e2,h _ (ha.upd hki)]
     have e:l[i]=l[j]:=by
      have oi:=g.ok _ (bp hi);have oj:=g.ok _ (bp hj)
      have li:l[i].leaf=0:=by
       rcases oi with ⟨a1,_⟩|⟨_,_,a3,_⟩
       .omega
       .exact a3
      have lj:l[j].leaf=0:=by
       rcases oj with ⟨a1,_⟩|⟨_,_,a3,_⟩
       .omega
       .exact a3
      generalize l[i]=x at *;generalize l[j]=y at *;obtain ⟨xv,xk,xl⟩:=x;obtain ⟨yv,yk,yl⟩:=y;simp only at hv hk li lj;rw[hv,hk,li,lj]
     exact rN g.nd hi hj e
theorem oZ(g:GoodL ar l)(r:List ND){a:Nat->Nat}(ha:cO ar a):∀(i:Nat),i<l.length->S (l++r) a i=S l a i:=by
 have key:∀(n i:Nat),i<l.length->i<n->sem (l++r) a n i=sem l a n i:=by
  intro n
  induction n with
  | zero=>intro i _ h;omega
  | succ n ih=>
   intro i hi _;simp only[sem,kS hi,bn hi]
   by_cases hv:l[i].var<0
   .rw[ai hv,ai hv]
   .rw[ag hv,ag hv];obtain ⟨hv1,hv2⟩:=g.var i hi Z;obtain ⟨t,e,ht,_⟩:=jW g hi Z (ha l[i].var.toNat Z);rw[e,cB];exact ih t Z Z
 intro i hi;exact key _ i hi Z
theorem J9:GoodL ar []:=⟨aq,aq,fun i h=>by simp at h,fun i h=>by simp at h,fun i h=>by simp at h⟩
theorem qaE(g:GoodL ar l){n:ND}(hn:n.ok)(hne:n∉l)(h1:0<=n.var->n.var<ar.length/\(n.kids.length:Int)=ar.getD n.var.toNat 0/\(∀k∈n.kids,∃t:Nat,k=t/\∃ht:t<l.length,n.var<bY ar.length l[t])/\∃k∈n.kids,k≠n.kids.headD 0):GoodL ar (l++[n]):=by
 have old:∀i (h:i<(l++[n]).length),(∃h':i<l.length,(l++[n])[i]=l[i])\/(i=l.length/\(l++[n])[i]=n):=fun i h=>by
  by_cases hi:i<l.length
  .exact .inl ⟨hi,List.getElem_append_left hi⟩
  .have:i=l.length:=by simp at h;omega
   subst this;exact .inr ⟨rfl,aq⟩
 refine ⟨fun x hx=>?_,?_,fun i h hv=>?_,fun i h hv k hk=>?_,fun i h hv=>?_⟩
 .rcases cI.1 hx with hx|hx
  .exact g.ok x hx
  .obtain rfl:x=n:=by simpa using hx
   exact hn
 .rw[List.nodup_append]
  exact ⟨g.nd,aq,fun a ha b hb e=>by
   obtain rfl:b=n:=by simpa using hb
   exact hne (e▸ha)⟩
 .rcases old i h with ⟨h',e⟩|⟨_,e⟩
  .rw[e] at hv ⊢;exact g.var i h' hv
  .rw[e] at hv ⊢;exact ⟨(h1 hv).1,(h1 hv).2.1⟩
 .rcases old i h with ⟨h',e⟩|⟨hil,e⟩
  .rw[e] at hv hk ⊢;obtain ⟨t,a1,a2,a3⟩:=g.kid i h' hv k hk;refine ⟨t,a1,a2,fun ht=>?_⟩;rw[List.getElem_append_left Z];exact a3 Z
  .rw[e] at hv hk ⊢;obtain ⟨t,a1,ht,a3⟩:=(h1 hv).2.2.1 k hk;refine ⟨t,a1,Z,fun ht'=>?_⟩;rw[List.getElem_append_left ht];exact a3
 .rcases old i h with ⟨h',e⟩|⟨_,e⟩
  .rw[e] at hv ⊢;exact g.dif i h' hv
  .rw[e] at hv ⊢;exact (h1 hv).2.2.2
theorem DC(n:ND)(l:List ND):∃r,gg l n=l++r/\r.length<=1/\∃h:l.idxOf n<(gg l n).length,(gg l n)[l.idxOf n]=n:=by
 unfold gg
 by_cases hm:n∈l
 .rw[ai hm];exact ⟨[],aq,aq,List.idxOf_lt_length_of_mem hm,List.getElem_idxOf _⟩
 .rw[ag hm];have e:=vE hm;refine ⟨[n],rfl,aq,by rw[e];simp,?_⟩;simp[e]
theorem J7(g:GoodL ar l){n:ND}(hn:n.ok)(h1:0<=n.var->n.var<ar.length/\(n.kids.length:Int)=ar.getD n.var.toNat 0/\(∀k∈n.kids,∃t:Nat,k=t/\∃ht:t<l.length,n.var<bY ar.length l[t])/\∃k∈n.kids,k≠n.kids.headD 0):GoodL ar (gg l n):=by
 unfold gg
 split
 .exact g
 .rename_i hm;exact qaE g hn hm h1
end
end Go.Ab
namespace Go.Ab
def aN:List Int->Nat
 | []=>1
 | n::r=>n.toNat*aN r
def dd:List Int->Nat->(Nat->Nat)->Nat
 | [],_,_=>0
 | n::r,v,a=>a v*aN r+dd r (v+1) a
theorem JM{ar:List Int}{v:Nat}(hv:v<ar.length):ar.drop v=ar.getD v 0::ar.drop (v+1):=by
 rw[aK,bn hv,bQ];exact ic hv
theorem nb{ar:List Int}{v:Nat}(hv:v<ar.length)(a:Nat->Nat):dd (ar.drop v) v a=a v*aN (ar.drop (v+1))+dd (ar.drop (v+1)) (v+1) a:=by
 rw[JM hv,dd]
theorem mH{ar:List Int}{v:Nat}(hv:v<ar.length):aN (ar.drop v)=(ar.getD v 0).toNat*aN (ar.drop (v+1)):=by
 rw[JM hv,aN]
theorem om{ar:List Int}{a:Nat->Nat}(ha:cO ar a):∀(d v:Nat),v+d=ar.length->dd (ar.drop v) v a<aN (ar.drop v)
 | 0,v,h=>by rw[fQ Z];simp[dd,aN]
 | d+1,v,h=>by
  have hv:v<ar.length:=Z;have ih:=om ha d (v+1) Z;have hk:=ha v hv;rw[nb hv,mH hv];have h2:a v+1<=(ar.getD v 0).toNat:=Z
  calc a v*aN (ar.drop (v+1))+dd (ar.drop (v+1)) (v+1) a<a v*aN (ar.drop (v+1))+aN (ar.drop (v+1)):=Z
   _=(a v+1)*aN (ar.drop (v+1)):=by rw[eW,jP]
   _<=_:=fL _ h2
theorem DB{ar:List Int}{a:Nat->Nat}{w k:Nat}:∀(d v:Nat),v+d=ar.length->w<v->dd (ar.drop v) v (upd a w k)=dd (ar.drop v) v a
 | 0,v,h,_=>by rw[fQ Z];rfl
 | d+1,v,h,hw=>by
  have hv:v<ar.length:=Z;rw[nb hv,nb hv,DB d (v+1) Z Z];have:upd a w k v=a v:=by unfold upd;rw[ag Z]
  rw[this]
theorem DA{ar:List Int}(h1:∀x∈ar,1<=x):∀(d v i:Nat),v+d=ar.length->i<aN (ar.drop v)->∃a,cO ar a/\dd (ar.drop v) v a=i
 | 0,v,i,h,hi=>by
  rw[fQ Z] at hi ⊢;simp only[aN] at hi;exact ⟨_,rf h1,by simp only[dd];omega⟩
 | d+1,v,i,h,hi=>by
  have hv:v<ar.length:=Z;rw[mH hv] at hi;have hpos:0<aN (ar.drop (v+1)):=kD fun e=>by rw[e] at hi;omega
  obtain ⟨a,ha,e⟩:=DA h1 d (v+1) (i%aN (ar.drop (v+1))) Z (io _ hpos);have hk:i/aN (ar.drop (v+1))<(ar.getD v 0).toNat:=Nat.div_lt_of_lt_mul (by rw[bU];exact hi);have hdm:=oV i (aN (ar.drop (v+1)));generalize i/aN (ar.drop (v+1))=q at hk hdm;refine ⟨upd a v q,ha.upd Z,?_⟩;rw[nb hv,DB d (v+1) Z Z,e];have:upd a v q v=q:=by unfold upd;rw[ai rfl]
  rw[this,bU];exact hdm
def part(t:List Int)(n k:Nat):List Int:=(t.drop (k*n)).take n
theorem part_len{t:List Int}{n k a:Nat}(ht:t.length=a*n)(hk:k<a):(part t n k).length=n:=by
 unfold part;rw[iu,mM,ht]
 have:k*n+n<=a*n:=by
  have:=fL n (show k+1<=a by omega)
  rwa [eW,jP] at this
 omega
theorem LD{t:List Int}{n k r:Nat}(hr:r<n):(part t n k).getD r 0=t.getD (k*n+r) 0:=by
 unfold part;simp only[aK,mb,ai hr,nq]
theorem qcb{t:List Int}{n k:Nat}:∀x∈part t n k,x∈t:=fun x hx=>List.drop_subset _ _ (List.take_subset _ _ hx)
structure TabV (ar:List Int) (l:List ND) (id v:Nat) (t:List Int):Prop where
 len:t.length=aN (ar.drop v)
 lt:id<l.length
 top:∀h:id<l.length,(v:Int)<=bY ar.length l[id]
 val:∀a,cO ar a->S l a id=t.getD (dd (ar.drop v) v a) 0
theorem TabV.app{ar:List Int}{l:List ND}{id v:Nat}{t:List Int}(g:GoodL ar l)(h:TabV ar l id v t)(r:List ND):TabV ar (l++r) id v t:=
 ⟨h.len,by have:=h.lt;simp;omega,fun hh=>by rw[List.getElem_append_left h.lt];exact h.top h.lt,fun a ha=>by rw[oZ g r ha id h.lt];exact h.val a ha⟩
theorem qdE{ar:List Int}{l:List ND}{i j v:Nat}{t:List Int}(g:GoodL ar l)(h1:∀x∈ar,1<=x)(hi:TabV ar l i v t)(hj:TabV ar l j v t):i=j:=
 canon g h1 _ i j hi.lt hj.lt (Nat.lt_succ_self _) fun a ha=>(hi.val a ha).trans (hj.val a ha).symm
section
variable {ar:List Int} {l:List ND}
theorem zZ(g:GoodL ar l)(h1:∀x∈ar,1<=x/\x<=64)(hal:ar.length<=16){v:Nat}(hv:v<ar.length){ks:List Nat}(hl:(ks.length:Int)=ar.getD v 0)(hk:∀k∈ks,∃h:k<l.length,(v:Int)<bY ar.length l[k])(hll:l.length<=900000) :
  ∃r id,jm l v (ks.map Int.ofNat)=(((id:Nat):Int),l++r)/\r.length<=1/\(ks.length=1->r=[])/\GoodL ar (l++r)/\∃h:id<(l++r).length,(v:Int)<=bY ar.length (l++r)[id]/\∀a,cO ar a->S (l++r) a id=S l a (ks.getD (a v) 0):=by
 have hav:=h1 (ar[v]) (bp hv);have hget:ar.getD v 0=ar[v]:=by rw[aK,bn hv,bQ]
 rw[hget] at hl
 obtain ⟨k0,kt,rfl⟩:∃k0 kt,ks=k0::kt:=by
  cases ks with
  | nil=>simp at hl;omega
  | cons k0 kt=>exact ⟨k0,kt,rfl⟩
 rw[cU,Ef];obtain ⟨hk0,hk0v⟩:=hk k0 cF
 by_cases hall:((Int.ofNat k0::kt.map Int.ofNat).all fun k=>k==Int.ofNat k0)=true
 .rw[ai hall]
  refine ⟨[],k0,by rw[aW];rfl,aq,fun _=>rfl,by rw[aW];exact g,by rw[aW];exact hk0,?_,fun a ha=>?_⟩
  .simp only[aW];omega
  .have hlt:a v<(k0::kt).length:=by have:=ha v hv;rw[hget] at this;omega
   have:(k0::kt).getD (a v) 0=k0:=by
    rw[aK,bn hlt,bQ];have h2:=fe.1 hall (Int.ofNat (k0::kt)[a v]) (by rw[<- cU];exact List.mem_map_of_mem (bp hlt));exact Int.ofNat.inj (by simpa using h2)
   rw[this,aW]
 .rw[ag hall]
  have hmem:∀k∈(Int.ofNat k0::kt.map Int.ofNat),∃t:Nat,k=t/\∃ht:t<l.length,(v:Int)<bY ar.length l[t]:=fun k hk'=>by
   rw[<- cU] at hk';obtain ⟨t,ht,rfl⟩:=ga.1 hk';exact ⟨t,rfl,hk t ht⟩
  have hok:(cW v (Int.ofNat k0::kt.map Int.ofNat)).ok:=by
   refine .inr ⟨by simp only[cW];omega,by simp only[cW];omega,rfl,fun k hk'=>?_,?_⟩
   .obtain ⟨t,rfl,ht,_⟩:=hmem k hk';omega
   .simp only[cW,a8,bA];simp only[a8] at hl;omega
  obtain ⟨r,er,hr,hidl,hid⟩:=DC (cW v (Int.ofNat k0::kt.map Int.ofNat)) l
  have gi:GoodL ar (gg l (cW v (Int.ofNat k0::kt.map Int.ofNat))):=by
   refine J7 g hok fun _=>⟨by simp only[cW];omega,?_,hmem,?_⟩
   .simp only[cW,a8,bA,cB];rw[hget];simpa using hl
   .simp only[cW];rw[Bool.not_eq_true,List.all_eq_false] at hall;obtain ⟨k,hk',hne⟩:=hall;exact ⟨k,hk',by simpa using hne⟩
  rw[er] at gi hidl ⊢
  have hid:(l++r)[l.idxOf (cW v (Int.ofNat k0::kt.map Int.ofNat))]=cW v (Int.ofNat k0::kt.map Int.ofNat):=by
   have:∀(y:List ND) (h:l.idxOf (cW v (Int.ofNat k0::kt.map Int.ofNat))<y.length),gg l (cW v (Int.ofNat k0::kt.map Int.ofNat))=y->y[l.idxOf (cW v (Int.ofNat k0::kt.map Int.ofNat))]=cW v (Int.ofNat k0::kt.map Int.ofNat):=fun y h e=>by subst e;exact hid
   exact this _ hidl er
  refine ⟨r,_,rfl,hr,fun hone=>?_,gi,hidl,?_,fun a ha=>?_⟩
  .exfalso;have:kt=[]:=by simpa using hone
   rw[this] at hall;simp at hall
  .rw[hid,bY,ai (by simp only[cW];omega)];exact lC _
  .have e:=nw gi ha hidl (by rw[hid];simp only[cW];omega);rw[hid] at e;have hlt:a v<(k0::kt).length:=by have:=ha v hv;rw[hget] at this;omega
   rw[e,show (cW (↑v) (Int.ofNat k0::kt.map Int.ofNat)).kids=Int.ofNat k0::kt.map Int.ofNat from rfl,show (cW (↑v) (Int.ofNat k0::kt.map Int.ofNat)).var=v from rfl,cB]
   have e2:(Int.ofNat k0::kt.map Int.ofNat).getD (a v) 0=(((k0::kt).getD (a v) 0:Nat):Int):=by
    rw[<- cU,aK,pU,aK,bn hlt];rfl
   rw[e2,cB];refine oZ g r ha _ ?_;rw[aK,bn hlt,bQ];exact (hk _ (bp hlt)).1
theorem KC(g:GoodL ar l){x:Int}(hx:0<=x/\x<=2147483647):∃r,gg l (gC x)=l++r/\r.length<=1/\GoodL ar (l++r)/\TabV ar (l++r) (l.idxOf (gC x)) ar.length [x]:=by
 obtain ⟨r,er,hr,hidl,hid⟩:=DC (gC x) l;have gi:GoodL ar (gg l (gC x)):=J7 g (KB hx) fun h=>by simp[gC] at h
 rw[er] at gi;have hidl':l.idxOf (gC x)<(l++r).length:=by rw[<- er];exact hidl
 have hid':(l++r)[l.idxOf (gC x)]=gC x:=by
  have:∀(y:List ND) (h:l.idxOf (gC x)<y.length),gg l (gC x)=y->y[l.idxOf (gC x)]=gC x:=fun y h e=>by subst e;exact hid
  exact this _ hidl' er
 refine ⟨r,er,hr,gi,⟨by rw[List.drop_length];rfl,hidl',fun _=>?_,fun a ha=>?_⟩⟩
 .rw[hid',bY,ag (by simp[gC])];exact lC _
 .rw[mT hidl' (by rw[hid'];simp[gC]),hid',List.drop_length];rfl
theorem qdC(g:GoodL ar l)(h1:∀x∈ar,1<=x/\x<=64)(hal:ar.length<=16){v:Nat}(hv:v<ar.length){ks:List Nat}{t:List Int}(hl:(ks.length:Int)=ar.getD v 0)(ht:t.length=aN (ar.drop v))(hk:∀(k:Nat) (h:k<ks.length),TabV ar l ks[k] (v+1) (part t (aN (ar.drop (v+1))) k))(hll:l.length<=100000) :
  ∃r id,jm l v (ks.map Int.ofNat)=(((id:Nat):Int),l++r)/\r.length<=1/\(ks.length=1->r=[])/\GoodL ar (l++r)/\TabV ar (l++r) id v t:=by
 have hget:ar.getD v 0=ar[v]:=by rw[aK,bn hv,bQ]
 obtain ⟨r,id,e,hr,hr1,gi,hidl,htop,hS⟩:=zZ g h1 hal hv hl (fun k hk'=>by
  obtain ⟨i,hi,e⟩:=ig hk';have:=hk i hi;rw[e] at this
  exact ⟨this.lt,by have:=this.top this.lt;omega⟩) Z
 refine ⟨r,id,e,hr,hr1,gi,ht,hidl,fun _=>htop,fun a ha=>?_⟩;have hlt:a v<ks.length:=by have:=ha v hv;omega
 have hn:=om ha (ar.length-(v+1)) (v+1) Z;rw[hS a ha,aK,bn hlt,bQ,(hk _ hlt).val a ha,LD hn,nb hv]
end
end Go.Ab
namespace Go.Ab
noncomputable section
variable (a0 x3:AV) (m:af) (K:KT)
open Go.Proofs.Tryz
def BL:St:=⟨(aH (aG (x3::bh (aO (aG []))))),m⟩
def uj:OM:=bD 10 (jS (c2 (c2 (aA f10)))) 4 (aH (aG (x3::bh (aO (aG []))))) m K
abbrev Og:KT:=bi 10 (aV (aA f10)) K
abbrev Oh:KT:=be 0 (Og K)
abbrev wI:KT:=(Oh K)
theorem TV:AC aa 10 [a0] m=(cq none []).bind fun v1=>(aL false a0).bind fun v2=>(rH false v2 (.I 17)).bind fun v3=>(jZ none a0 none (some v3) none).bind fun v4=>(bF none false 3 none 8 m v1 v4).bind fun r5=>(aF (AP aa) none r5.2 11 [r5.1]).bind fun r6=>(ae .o .neq r6.1 (.I 0)).bind fun v7=>au v7 (some (r5.1,r6.2)) (uj r5.1 r6.2 (wI (aD f10))):=
(aZ aa 10 [a0] m (fn:=f10) (c:=aA f10) Xp rfl).trans aj
theorem FT:uj x3 m K=(aL false x3).bind fun v1=>(ae .o .gtr v1 (.I 0)).bind fun v2=>au v2 ((aF (AP aa) none m 12 [x3,(.I 300)]).bind fun r3=>(ae .o .eql r3.1 (.I 0)).bind fun v4=>au v4 ((aL false x3).bind fun v5=>(ae .o .sub v5 (.I 1)).bind fun v6=>(jZ none x3 none (some v6) none).bind fun v7=>uj v7 r3.2 K) (K (.exit 0) (BL x3 r3.2))) (K (.exit 0) (BL x3 m)):=
(bC (bw _) _ _ _).trans aj
theorem FF:wI (aD f10) (.exit 0) (BL x3 m)=some (x3,m):=aj
theorem Uk:AC aa 13 [] m=(cq none [(.I 2)]).bind fun v1=>(AC aa 32 [v1] m).bind fun r2=>(aT r2.1 0).bind fun v3=>(aT r2.1 1).bind fun v4=>(ae .o .neq v4 (.I 0)).bind fun v5=>au v5 (some ((.bool false),r2.2)) ((ae .pt .eql v3 .nilp).bind fun v6=>au v6 (some ((.bool false),r2.2)) ((AC aa 33 [v3,(.I 7)] r2.2).bind fun r7=>(aT r7.1 0).bind fun v8=>(aT r7.1 1).bind fun v9=>(AC aa 35 [v3,v8] r7.2).bind fun r10=>(aT r10.1 0).bind fun v11=>(aT r10.1 1).bind fun v12=>(aM (some 3) (aC none r10.2 (.B [(.I 0),aw,(.I 0)])).2 (.ptr (aC none r10.2 .resv).1 0) v11).bind fun m13=>(ae .o .eql v9 (.I 0)).bind fun v14=>au v14 ((ae .o .eql v12 (.I 0)).bind fun v15=>au v15 ((aR 2 (.ptr (aC none r10.2 .resv).1 0)).bind fun v16=>(am none m13 v16).bind fun v17=>(ae .o .eql v17 (.I 7)).bind fun v18=>au v18 ((aR 0 (.ptr (aC none r10.2 .resv).1 0)).bind fun v19=>(am none m13 v19).bind fun v20=>(ae .o .eql v20 (.I (-1))).bind fun v21=>some (v21,m13)) (some ((.bool false),m13))) (some ((.bool false),m13))) (some ((.bool false),m13)))):=
(aZ aa 13 [] m (fn:=f13) (c:=aA f13) XF rfl).trans aj
end
end Go.Ab
namespace Go.Ab
noncomputable section
variable (a0 a1 x0 x1 x2 x3 x4 x5 x8 x9 x10 x12 x13 x29 x30:AV) (m:af) (K:KT)
open Go.Proofs.Tryz
def BQ:St:=⟨(bh (aJ (aG []))),m⟩
def yB:St:=⟨(aH (x2::bh (aH []))),m⟩
def xg:OM:=bD 11 (bI (c2 (c2 (aA f11)))) 4 (aO (x8::x9::x10::aO (aH []))) m K
abbrev OH:KT:=bi 11 (c2 (c2 (c2 (aA f11)))) K
abbrev OI:KT:=be 0 (OH K)
abbrev A2:KT:=(OI K)
theorem TZ:AC aa 11 [a0] m=(aL false a0).bind fun v1=>(ae .o .gtr v1 (.I 16)).bind fun v2=>au v2 (some ((.I 2),m)) ((aL false a0).bind fun v3=>xg a0 v3 (.I 0) m (A2 (aD f11))):=
(aZ aa 11 [a0] m (fn:=f11) (c:=aA f11) Xt rfl).trans aj
theorem FV:xg x8 x9 x10 m K=(ae .o .lss x10 x9).bind fun v1=>au v1 ((aE none x8 x10).bind fun v2=>(am none m v2).bind fun v3=>(ae .o .lss v3 (.I 1)).bind fun v4=>au v4 (K .ret (yB (.I 1) m)) ((ae .o .gtr v3 (.I 64)).bind fun v5=>au v5 (K .ret (yB (.I 1) m)) ((ae .o .add x10 (.I 1)).bind fun v6=>xg x8 x9 v6 m K))) (K (.exit 0) (BQ m)):=
(bC (bw _) _ _ _).trans aj
theorem OK:A2 (aD f11) (.exit 0) (BQ  m)=some ((.I 0),m):=aj
theorem OJ:A2 (aD f11) .ret (yB x2 m)=some (x2,m):=aj
def Ho:St:=⟨(aJ (aG (x5::bh []))),m⟩
def HQ:St:=⟨(aJ (x4::bh (aG []))),m⟩
def xm:OM:=bD 12 (bI (c2 (c2 (aA f12)))) 3 (aG (x1::aH (aG (x5::aH (x8::x9::x10::aO (aH (aG []))))))) m K
abbrev O7:KT:=bi 12 (c2 (c2 (c2 (aA f12)))) K
abbrev O8:KT:=be 0 (O7 K)
abbrev wK:KT:=(O8 K)
theorem Ud:AC aa 12 [a0,a1] m=(aL false a0).bind fun v1=>xm a1 (.I 1) a0 v1 (.I 0) m (wK (aD f12)):=
(aZ aa 12 [a0,a1] m (fn:=f12) (c:=aA f12) Xx rfl).trans aj
theorem F6:xm x1 x5 x8 x9 x10 m K=(ae .o .lss x10 x9).bind fun v1=>au v1 ((aE none x8 x10).bind fun v2=>(am none m v2).bind fun v3=>(ae .o .mul x5 v3).bind fun v4=>(ae .o .gtr v4 x1).bind fun v5=>au v5 (K .ret (HQ (.I 0) m)) ((ae .o .add x10 (.I 1)).bind fun v6=>xm x1 v4 x8 x9 v6 m K)) (K (.exit 0) (Ho x5 m)):=
(bC (bw _) _ _ _).trans aj
theorem Pa:wK (aD f12) (.exit 0) (Ho x5 m)=some (x5,m):=aj
theorem O9:wK (aD f12) .ret (HQ x4 m)=some (x4,m):=aj
def HB:St:=⟨(bh (aO (aH []))),m⟩
def HV:St:=⟨(aJ (x4::bh (aJ (aG [])))),m⟩
def xR:OM:=bD 27 (bI (c2 (c2 (aA f27)))) 4 (x0::x1::aO (aH (x12::x13::aO (aJ [])))) m K
abbrev RJ:KT:=bi 27 (c2 (c2 (c2 (aA f27)))) K
abbrev RK:KT:=be 0 (RJ K)
abbrev wZ:KT:=(RK K)
theorem UX:AC aa 27 [a0,a1] m=(aL false a0).bind fun v1=>(aL false a1).bind fun v2=>(ae .o .neq v1 v2).bind fun v3=>au v3 (some ((.bool false),m)) ((aL false a0).bind fun v4=>xR a0 a1 v4 (.I 0) m (wZ (aD f27))):=
(aZ aa 27 [a0,a1] m (fn:=f27) (c:=aA f27) Yv rfl).trans aj
theorem GO:xR x0 x1 x12 x13 m K=(ae .o .lss x13 x12).bind fun v1=>au v1 ((aE none x0 x13).bind fun v2=>(am none m v2).bind fun v3=>(aE none x1 x13).bind fun v4=>(am none m v4).bind fun v5=>(ae .o .neq v3 v5).bind fun v6=>au v6 (K .ret (HV (.bool false) m)) ((ae .o .add x13 (.I 1)).bind fun v7=>xR x0 x1 x12 v7 m K)) (K (.exit 0) (HB m)):=
(bC (bw _) _ _ _).trans aj
theorem RM:wZ (aD f27) (.exit 0) (HB  m)=some ((.bool true),m):=aj
theorem RL:wZ (aD f27) .ret (HV x4 m)=some (x4,m):=aj
def HK:St:=⟨(bh (aO (aH (aG [])))),m⟩
def HX:St:=⟨(aJ (x4::bh (aJ (aH [])))),m⟩
def ye:OM:=bD 89 (bI (c2 (c2 (aA f89)))) 4 (x0::x1::aO (aH (x12::x13::aO (aJ (aG []))))) m K
abbrev S4:KT:=bi 89 (c2 (c2 (c2 (aA f89)))) K
abbrev S5:KT:=be 0 (S4 K)
abbrev w7:KT:=(S5 K)
theorem Vr:AC aa 89 [a0,a1] m=(aL false a0).bind fun v1=>(aL false a1).bind fun v2=>(ae .o .neq v1 v2).bind fun v3=>au v3 (some ((.bool false),m)) ((aL false a0).bind fun v4=>ye a0 a1 v4 (.I 0) m (w7 (aD f89))):=
(aZ aa 89 [a0,a1] m (fn:=f89) (c:=aA f89) Zd rfl).trans aj
theorem He:ye x0 x1 x12 x13 m K=(ae .o .lss x13 x12).bind fun v1=>au v1 ((aE (some 3) x0 x13).bind fun v2=>(am (some 3) m v2).bind fun v3=>(aE (some 3) x1 x13).bind fun v4=>(am (some 3) m v4).bind fun v5=>(aF (AP aa) (some m.length) m 142 [v3,v5]).bind fun r6=>(il .not r6.1).bind fun v7=>au v7 (K .ret (HX (.bool false) r6.2)) ((ae .o .add x13 (.I 1)).bind fun v8=>ye x0 x1 x12 v8 r6.2 K)) (K (.exit 0) (HK m)):=
(bC (bw _) _ _ _).trans aj
theorem S7:w7 (aD f89) (.exit 0) (HK  m)=some ((.bool true),m):=aj
theorem S6:w7 (aD f89) .ret (HX x4 m)=some (x4,m):=aj
def Hp:St:=⟨(bm (aO (aJ (aG [])))),m⟩
def HR:St:=⟨(aJ (x4::bm (aO []))),m⟩
def xu:OM:=bD 142 (bI (c2 (c2 (aA f142)))) 4 (aH (x2::x3::bh (aO (aG (x29::x30::aO (aJ (aH []))))))) m K
abbrev PA:KT:=bi 142 (c2 (c2 (c2 (aA f142)))) K
abbrev PB:KT:=be 0 (PA K)
abbrev wM:KT:=(PB K)
theorem Uu:AC aa 142 [a0,a1] m=(cQ none (some 3) m a0).bind fun r1=>(cQ none (some 3) r1.2 a1).bind fun r2=>(aR 0 r1.1).bind fun v3=>(am none r2.2 v3).bind fun v4=>(aR 0 r2.1).bind fun v5=>(am none r2.2 v5).bind fun v6=>(ae .o .neq v4 v6).bind fun v7=>au v7 (some ((.bool false),r2.2)) ((aR 2 r1.1).bind fun v8=>(am none r2.2 v8).bind fun v9=>(aR 2 r2.1).bind fun v10=>(am none r2.2 v10).bind fun v11=>(ae .o .neq v9 v11).bind fun v12=>au v12 (some ((.bool false),r2.2)) ((aR 1 r1.1).bind fun v13=>(am none r2.2 v13).bind fun v14=>(aL false v14).bind fun v15=>(aR 1 r2.1).bind fun v16=>(am none r2.2 v16).bind fun v17=>(aL false v17).bind fun v18=>(ae .o .neq v15 v18).bind fun v19=>au v19 (some ((.bool false),r2.2)) ((aR 1 r1.1).bind fun v20=>(am none r2.2 v20).bind fun v21=>(aL false v21).bind fun v22=>xu r1.1 r2.1 v22 (.I 0) r2.2 (wM (aD f142))))):=
(aZ aa 142 [a0,a1] m (fn:=f142) (c:=aA f142) XS rfl).trans aj
theorem Gg:xu x2 x3 x29 x30 m K=(ae .o .lss x30 x29).bind fun v1=>au v1 ((aR 1 x2).bind fun v2=>(am none m v2).bind fun v3=>(aE none v3 x30).bind fun v4=>(am none m v4).bind fun v5=>(aR 1 x3).bind fun v6=>(am none m v6).bind fun v7=>(aE none v7 x30).bind fun v8=>(am none m v8).bind fun v9=>(ae .o .neq v5 v9).bind fun v10=>au v10 (K .ret (HR (.bool false) m)) ((ae .o .add x30 (.I 1)).bind fun v11=>xu x2 x3 x29 v11 m K)) (K (.exit 0) (Hp m)):=
(bC (bw _) _ _ _).trans aj
theorem PD:wM (aD f142) (.exit 0) (Hp  m)=some ((.bool true),m):=aj
theorem PC:wM (aD f142) .ret (HR x4 m)=some (x4,m):=aj
end
end Go.Ab
namespace Go.Ab
open Go.Proofs Go.Proofs.Tryz
def lH(n:Int):Bool:=decide (1<=n/\n<=64)
def jE(ns:List Int):Int:=if ns.length>16 then 2 else if ns.all lH then 0 else 1
theorem IH(z:Bool)(o:Own)(ns:List Int)(hl:ns.length<=16)(m:af)(K:KT):∀j i:Nat,i+j=ns.length->xg (IA z o ns) (.I ns.length) (.I i) m K=if (ns.drop i).all lH then K (.exit 0) (BQ m) else K .ret (yB (.I 1) m)
 | 0,i,h=>by
  rw[FV,bS,O,az,ag Z,fQ Z];rfl
 | j+1,i,h=>by
  have hi:i<ns.length:=Z;have ih:=IH z o ns hl m K j (i+1) Z;rw[FV,bS,O,az,ai hi,fw hi,O,cr,O,bg,O,az,ic hi,lW]
  by_cases h1:ns[i]<1
  .rw[ai h1,show lH ns[i]=false from eX Z];rfl
  .rw[ag h1,gI,O,az]
   by_cases h2:ns[i]>64
   .rw[ai h2,show lH ns[i]=false from eX Z];rfl
   .rw[ag h2,b6 Z,O,ih,show lH ns[i]=true from eT Z,jc]
theorem VD(z:Bool)(o:Own)(ns:List Int):AP aa 11 [IA z o ns]=some (.I (jE ns)):=by
 refine fH (m:=[]) (v:=.I (jE ns)) (l:=[]) ?_ rfl rfl;unfold jE;rw[TZ,fc,O,show ((16:Int))=((16:Nat):Int) from rfl,tj,O,az]
 by_cases h:ns.length>16
 .rw[ai h,ai h]
 .rw[ag h,ag h,O,show ((0:Int))=((0:Nat):Int) from rfl,IH z o ns Z [] _ ns.length 0 Z,dk]
  by_cases h2:ns.all lH=true
  .rw[ai h2,ai h2,OK];rfl
  .rw[ag h2,ag h2,OJ]
theorem LE(z:Bool)(o:Own)(ns:List Int)(d:Option Nat)(m:af):aF (AP aa) d m 11 [IA z o ns]=some (.I (jE ns),m):=by
 rw[b8 (gX z o ns),VD];rfl
theorem re{ns:List Int}(h:jE ns=0):ns.length<=16/\∀a∈ns,1<=a/\a<=64:=by
 unfold jE at h
 split at h
 .cases h
 .split at h
  .rename_i h1 h2;exact ⟨Z,fun a ha=>by have:=fe.1 h2 a ha;exact rO this⟩
  .cases h
def i7(most:Int):Int->List Int->Int
 | acc,[]=>acc
 | acc,n::l=>if acc*n>most then 0 else i7 most (acc*n) l
theorem IP(z:Bool)(o:Own)(ns:List Int)(hl:ns.length<=16)(hb:∀a∈ns,1<=a/\a<=64)(most:Int)(hm:0<=most/\most<=1048576)(m:af):∀(j i:Nat) (acc:Int),i+j=ns.length->1<=acc->acc<=most\/acc=1 ->
  xm (.I most) (.I acc) (IA z o ns) (.I ns.length) (.I i) m (wK (aD f12))=some (.I (i7 most acc (ns.drop i)),m)
 | 0,i,acc,h,h1,h2=>by
  rw[F6,bS,O,az,ag Z,fQ Z,Pa];rfl
 | j+1,i,acc,h,h1,h2=>by
  have hi:i<ns.length:=Z;have ha:=hb ns[i] (bp hi);have p1:acc*ns[i]<=1048576*64:=Int.mul_le_mul Z ha.2 Z Z
  have p2:1<=acc*ns[i]:=by
   have:=Int.mul_le_mul h1 ha.1 Z Z;simpa using this
  rw[F6,bS,O,az,ai hi,fw hi,O,cr,O,qe,O,gz Z Z,gI,O,az,ic hi,i7]
  by_cases h3:acc*ns[i]>most
  .rw[ai h3,ai h3,O9]
  .rw[ag h3,ag h3,b6 Z,O];exact IP z o ns hl hb most hm m j (i+1) _ Z p2 (.inl Z)
theorem VV(z:Bool)(o:Own)(ns:List Int)(hl:ns.length<=16)(hb:∀a∈ns,1<=a/\a<=64)(most:Int)(hm:0<=most/\most<=1048576):AP aa 12 [IA z o ns,.I most]=some (.I (i7 most 1 ns)):=by
 refine fH (m:=[]) (v:=.I (i7 most 1 ns)) (l:=[]) ?_ rfl rfl;rw[Ud,fc,O,show ((0:Int))=((0:Nat):Int) from rfl,IP z o ns hl hb most hm [] ns.length 0 1 Z Z (.inr rfl),dk]
theorem tz(z:Bool)(o:Own)(ns:List Int)(hl:ns.length<=16)(hb:∀a∈ns,1<=a/\a<=64)(most:Int)(hm:0<=most/\most<=1048576)(d:Option Nat)(m:af):aF (AP aa) d m 12 [IA z o ns,.I most]=some (.I (i7 most 1 ns),m):=by
 rw[eC (gX z o ns) (ft _ _),VV z _ ns hl hb most hm];rfl
theorem Xj(m:af)(z:Bool)(o:Own)(ns:List Int)(hl:ns.length<=1000000):∃o' m',bF none false 3 none 8 m (.lst none false .full []) (IA z o ns)=some (IA false o' ns,m')/\Fr m m' []/\(o'=.full/\ns=[]\/o'=.tok m.length 3):=by
 cases ns with
 | nil=>exact ⟨.full,m,rfl,Fr.refl _ _,.inl ⟨rfl,rfl⟩⟩
 | cons n ns=>
  have hb:(0+(ns.length+1))*8<=fq:=by unfold fq;simp at hl;omega
  refine ⟨.tok m.length 3,m++[some (Ent.tok (0+(ns.length+1)) 1)],?_,Fr.app m _ _,.inr rfl⟩;simp only[bF,cU,bq,a8,bA,hb,aY,or_true,iE,jJ,aC,bX,Sh.size]
  rfl
theorem ET(z:Bool)(o:Own)(ns:List Int)(k:IntKind)(i:Nat)(h:i<=ns.length):jZ none (IA z o ns) none (some (.int k i)) none=some (IA z .no (ns.take i)):=by
 simp[jZ,mJ,gP,h,sN]
def Dw(r:List Int):Prop:=jE r=0->i7 300 1 r≠0
theorem IG:∀(n:Nat) (r:List Int) (o:Own) (m:af),r.length=n->jE r=0->∃o' r' m',uj (IA false o r) m (wI (aD f10))=some (IA false o' r',m')/\jE r'=0/\i7 300 1 r'≠0
 | 0,r,o,m,hn,hr=>by
  obtain rfl:r=[]:=kR hn;refine ⟨o,[],m,?_,hr,by decide⟩;rw[FT,fc,O,gI,O,az,ag aq,FF]
 | n+1,r,o,m,hn,hr=>by
  obtain ⟨h1,h2⟩:=re hr;rw[FT,fc,O,gI,O,az,ai Z,tz _ _ _ h1 h2 300 Z,O,ik,O,az]
  by_cases hp:i7 300 1 r=0
  .rw[ai hp,O,lh Z Z,O,ET _ _ _ _ _ Z,O];refine IG n (r.take (r.length-1)) .no m (by rw[iu];omega) ?_;unfold jE;rw[ag (by rw[iu];omega),ai];exact fe.2 fun a ha=>eT (h2 a (List.take_subset _ _ ha))
  .rw[ag hp,FF];exact ⟨o,r,m,rfl,hr,hp⟩
theorem VA(z:Bool)(o:Own)(ns:List Int):∃o' r,AP aa 10 [IA z o ns]=some (IA false o' r)/\Dw r/\r.length<=17/\(o'=.no\/o'=.full):=by
 have key:∃o' r m',AC aa 10 [IA z o ns] []=some (IA false o' r,m')/\Dw r/\r.length<=17:=by
  have hmin:rH false (.I ns.length) (.I 17)=some (.I (min ns.length 17:Nat)):=by
   simp only[rH,aY,iE,jJ];congr 2;split<;>omega
  obtain ⟨o1,m1,ha,_,_⟩:=Xj [] z .no (ns.take (min ns.length 17)) (by rw[iu];omega)
  have e0:AC aa 10 [IA z o ns] []=au (.bool (decide (jE (ns.take (min ns.length 17))≠0))) (some (IA false o1 (ns.take (min ns.length 17)),m1)) (uj (IA false o1 (ns.take (min ns.length 17))) m1 (wI (aD f10))):=by
   rw[TV,show cq none []=some (.lst none false .full []) from rfl,O,fc,O,hmin,O,ET _ _ _ _ _ Z,O,ha,O,LE,O,gt,O]
  rw[e0,az]
  by_cases hz:jE (ns.take (min ns.length 17))≠0
  .rw[ai hz];exact ⟨_,_,_,rfl,fun h=>absurd h hz,by rw[iu];omega⟩
  .rw[ag hz];obtain ⟨o',r',m',e,h1,h2⟩:=IG _ _ o1 m1 rfl (Decidable.not_not.1 hz);exact ⟨o',r',m',e,fun _=>h2,by have:=(re h1).1;omega⟩
 obtain ⟨o',r,m',e,h1,h2⟩:=key
 refine ⟨o'.fr,r,?_,h1,h2,?_⟩
 .unfold AP gO;rw[e,O,gX false o' r m',O]
  rfl
 .cases o'<;>simp[Own.fr]
def kz(n:ND):Bool:=if n.var<0 then true else false
def ko(n:ND):Own:=if n.var<0 then .full else .no
theorem qs{n:ND}(h:n.ok):bM n=IA (kz n) (ko n) n.kids:=by
 unfold bM kz ko
 split
 .rename_i hv
  rcases h with ⟨_,h2,_⟩|⟨h1,_⟩
  .rw[h2];rfl
  .omega
 .rfl
theorem IT{m:af}{b1 b2:Nat}{a1 a2 c1 c2:AV}{z1 z2:Bool}{o1 o2:Own}{k1 k2:List Int}(hb1:m.get b1=some (Ent.B [a1,IA z1 o1 k1,c1]))(hb2:m.get b2=some (Ent.B [a2,IA z2 o2 k2,c2]))(hl:k1.length=k2.length)(hl2:k1.length<=100000):∀j i:Nat,i+j=k1.length ->
  xu (.ptr b1 0) (.ptr b2 0) (.I k1.length) (.I i) m (wM (aD f142))=some (.bool (decide (k1.drop i=k2.drop i)),m)
 | 0,i,h=>by
  rw[Gg,bg,O,az,ag Z,fQ Z,fQ Z,PD];rfl
 | j+1,i,h=>by
  have hi:i<k1.length:=Z;have hi2:i<k2.length:=Z;have x1:=fw (z:=z1) (o:=o1) (k:=.i64) hi;have x2:=fw (z:=z2) (o:=o2) (k:=.i64) hi2;have ih:=IT hb1 hb2 hl hl2 j (i+1) Z;rw[Gg,bg,O,az,ai Z]
  repeat ((with_reducible first|apply bs|apply bK);(focus first|(simp (disch:=first|assumption|omega|simp only[aX]<;>omega|fail) only[bJ,beq_self_eq_true,bH,O,Sh.size,aY,bf,Nat.reduceAdd,Nat.reduceLeDiff,aI,hb1,hb2,x1,x2]<;>rfl)|rfl);try dsimp only)
  rw[az,ic hi,ic hi2]
  by_cases he:k1[i]=k2[i]
  .rw[ag (by simpa using he),b6 Z,O,ih];congr 3;exact iz.2 (by rw[he];exact ⟨fun e=>by rw[e],fun e=>(List.cons.inj e).2⟩)
  .rw[ai he,PC];congr 3;exact (eX (fun e=>he (List.cons.inj e).1)).symm
theorem Iw{a b:ND}(ha:a.ok)(hb:b.ok):AP aa 142 [a.av,b.av]=some (.bool (decide (a=b))):=by
 have hav:a.av=.agg [.I a.var,IA (kz a) (ko a) a.kids,.I a.leaf]:=by rw[ND.av,qs ha]
 have hbv:b.av=.agg [.I b.var,IA (kz b) (ko b) b.kids,.I b.leaf]:=by rw[ND.av,qs hb]
 have hl:∀{n:ND},n.ok->n.kids.length<=64:=fun h=>by
  rcases h with ⟨_,h2,_⟩|⟨_,_,_,_,h5⟩
  .rw[h2];simp
  .exact h5
 have l1:=hl ha;have l2:=hl hb;rw[hav,hbv]
 have key:AC aa 142 [.agg [.I a.var,IA (kz a) (ko a) a.kids,.I a.leaf],.agg [.I b.var,IA (kz b) (ko b) b.kids,.I b.leaf]] []=some (.bool (decide (a=b)),[some (Ent.B [.I a.var,IA (kz a) (ko a) a.kids,.I a.leaf]),some (Ent.B [.I b.var,IA (kz b) (ko b) b.kids,.I b.leaf])]):=by
  rw[Uu]
  repeat ((with_reducible first|apply bs|apply bK);(focus first|(simp (disch:=first|assumption|omega|simp only[aX]<;>omega|fail) only[bJ,beq_self_eq_true,bH,O,Sh.size,aY,bf,Nat.reduceAdd,Nat.reduceLeDiff,aI,sZ,fc]<;>rfl)|rfl);try dsimp only)
  rw[az]
  by_cases h1:a.var=b.var
  .rw[ag (by simpa using h1)]
   repeat ((with_reducible first|apply bs|apply bK);(focus first|(simp (disch:=first|assumption|omega|simp only[aX]<;>omega|fail) only[bJ,beq_self_eq_true,bH,O,Sh.size,aY,bf,Nat.reduceAdd,Nat.reduceLeDiff,aI,sZ,fc]<;>rfl)|rfl);try dsimp only)
   rw[az]
   by_cases h2:a.leaf=b.leaf
   .rw[ag (by simpa using h2)]
    repeat ((with_reducible first|apply bs|apply bK);(focus first|(simp (disch:=first|assumption|omega|simp only[aX]<;>omega|fail) only[bJ,beq_self_eq_true,bH,O,Sh.size,aY,bf,Nat.reduceAdd,Nat.reduceLeDiff,aI,sZ,fc]<;>rfl)|rfl);try dsimp only)
    rw[az]
    by_cases h3:a.kids.length=b.kids.length
    .rw[ag Z]
     repeat ((with_reducible first|apply bs|apply bK);(focus first|(simp (disch:=first|assumption|omega|simp only[aX]<;>omega|fail) only[bJ,beq_self_eq_true,bH,O,Sh.size,aY,bf,Nat.reduceAdd,Nat.reduceLeDiff,aI,sZ,fc]<;>rfl)|rfl);try dsimp only)
     have w:=IT (m:=[some (Ent.B [.I a.var,IA (kz a) (ko a) a.kids,.I a.leaf])]++[some (Ent.B [.I b.var,IA (kz b) (ko b) b.kids,.I b.leaf])]) (b1:=0) (b2:=1) rfl rfl h3 Z a.kids.length 0 Z;rw[dk,dk] at w;refine w.trans ?_;congr 3;refine iz.2 ⟨fun e=>?_,fun e=>by rw[e]⟩;obtain ⟨av,ak,al⟩:=a;obtain ⟨bv,bk,bl⟩:=b;simp only at h1 h2 e;rw[h1,h2,e]
    .rw[ai Z];congr 3;exact (eX (fun e=>h3 (by rw[e]))).symm
   .rw[ai h2];congr 3;exact (eX (fun e=>h2 (by rw[e]))).symm
  .rw[ai h1];congr 3;exact (eX (fun e=>h1 (by rw[e]))).symm
 refine fH key rfl rfl
theorem Dt(n:ND):Fz n.av n.av:=fun m=>by
 unfold ND.av bM;split<;>rfl
theorem qci{a b:ND}(ha:a.ok)(hb:b.ok)(d:Option Nat)(m:af):aF (AP aa) d m 142 [a.av,b.av]=some (.bool (decide (a=b)),m):=by
 rw[eC (Dt a) (Dt b),Iw ha hb];rfl
abbrev NL(z:Bool)(o:Own)(l:List ND):AV:=.lst (some 3) z o (l.map ND.av)
theorem Ds(z:Bool)(o:Own)(l:List ND):Fz (NL z o l) (NL z o.fr l):=fun m=>by cases o<;>rfl
theorem DN(z:Bool)(o:Own)(l:List ND):aL false (NL z o l)=some (.I l.length):=by rw[jX,bA]
theorem zF{z:Bool}{o:Own}{l:List ND}{i:Nat}(hi:i<l.length):aE (some 3) (NL z o l) (.I i)=some (.vptr [.I l[i].var,bM l[i],.I l[i].leaf]):=by
 simp[aE,hi];rfl
theorem kG(m:af)(n:ND):am (some 3) m (.vptr [.I n.var,bM n,.I n.leaf])=some n.av:=rfl
theorem IJ(z1 z2:Bool)(o1 o2:Own)(l1 l2:List ND)(h1:∀x∈l1,x.ok)(h2:∀x∈l2,x.ok)(hl:l1.length=l2.length)(hl2:l1.length<=100000)(m:af):∀j i:Nat,i+j=l1.length ->
  ye (NL z1 o1 l1) (NL z2 o2 l2) (.I l1.length) (.I i) m (w7 (aD f89))=some (.bool (decide (l1.drop i=l2.drop i)),m)
 | 0,i,h=>by
  rw[He,bg,O,az,ag Z,fQ Z,fQ Z,S7];rfl
 | j+1,i,h=>by
  have hi:i<l1.length:=Z;have hi2:i<l2.length:=Z;rw[He,bg,O,az,ai Z,zF hi,O,kG,O,zF hi2,O,kG,O,qci (h1 _ (bp hi)) (h2 _ (bp hi2)),O,kO,O,ic hi,ic hi2]
  by_cases he:l1[i]=l2[i]
  .rw[eT he,hZ,cD,b6 Z,O,IJ z1 z2 o1 o2 l1 l2 h1 h2 hl hl2 m j (i+1) Z];congr 3;exact iz.2 (by rw[he];exact ⟨fun e=>by rw[e],fun e=>(List.cons.inj e).2⟩)
  .rw[eX he,ka,gJ,S6];congr 3;exact (eX (fun e=>he (List.cons.inj e).1)).symm
theorem qef(z1 z2:Bool)(o1 o2:Own)(l1 l2:List ND)(h1:∀x∈l1,x.ok)(h2:∀x∈l2,x.ok)(hl2:l1.length<=100000):AP aa 89 [NL z1 o1 l1,NL z2 o2 l2]=some (.bool (decide (l1=l2))):=by
 refine fH (m:=[]) (v:=.bool (decide (l1=l2))) (l:=[]) ?_ rfl rfl;rw[Vr,DN,O,DN,O,gt,O,az]
 by_cases hl:l1.length=l2.length
 .rw[ag Z,O,show (AV.I 0)=.I ((0:Nat):Int) from rfl,IJ z1 z2 o1 o2 l1 l2 h1 h2 hl hl2 [] l1.length 0 Z,dk,dk]
 .rw[ai Z,eX (fun e=>hl (by rw[e]))]
theorem qce(z1 z2:Bool)(o1 o2:Own)(l1 l2:List ND)(h1:∀x∈l1,x.ok)(h2:∀x∈l2,x.ok)(hl2:l1.length<=100000)(d:Option Nat)(m:af):aF (AP aa) d m 89 [NL z1 o1 l1,NL z2 o2 l2]=some (.bool (decide (l1=l2)),m):=by
 rw[eC (Ds z1 o1 l1) (Ds z2 o2 l2),qef z1 z2 _ _ l1 l2 h1 h2 hl2];rfl
end Go.Ab
namespace Go.Ab
open Go.Proofs Go.Proofs.Tryz
theorem At{m:af}{k:Nat}{a b c a' b' c':AV}(h:m.get k=some (Ent.B [a,b,c]))(hs:cu (some 3) (.agg [a',b',c'])=true):aM (some 3) m (.ptr k 0) (.agg [a',b',c'])=some (m.set k (some (Ent.B [a',b',c']))):=by
 rw[oA,h,jx,O];simp[bH,Sh.size,hs,bf,AV.cells]
theorem ES(a b:Int)(z:Bool)(o:Own)(es:List AV):cu (some 3) (.agg [.I a,.lst none z o es,.I b])=true:=rfl
section
variable {m:af} {s:Nat} {F:List Nat} {arms:AV} {most:Int} {l:List ND}
theorem ZL{n:ND}(h:n.ok)(hne:¬ n.var<0->n.kids≠[]):rj (kz n) n.kids=bM n:=by
 unfold rj kz bM
 by_cases hv:n.var<0
 .rw[ai hv,ai rfl,ai hv]
 .rw[ag hv,ag aq,ag hv,ag (hne hv)]
def rM(l:List ND)(i:Int):AV×Int:=if 0<=i/\i<l.length then ((l.getD i.toNat ⟨0,[],0⟩).av,0) else (.agg [.I 0,aw,.I 0],1)
def DL(l:List ND):Prop:=∀n∈l,¬ n.var<0->n.kids≠[]
theorem Nu(h:bB m s F arms most l)(hm:most≠0)(hk:DL l)(i:Int):∃m',AC aa 35 [.ptr s 0,.I i] m=some (.tup [(rM l i).1,.I (rM l i).2],m')/\Fr m m' []:=by
 have f1:Fr m (m++[some (Ent.B [.I 0,aw,.I 0])]) []:=Fr.app m _ _;have h1:=h.app f1;have e50:=oH h1 hm;have e56:=sg h1 i
 have hs:∃na p T,af.get m s=some (Ent.B [arms,na,.mref p,.I most])/\NA m na l T/\∀x∈l,x.ok:=by
  obtain ⟨p,na,T,h,rfl⟩:=h;exact ⟨na,p,T,h.hs,h.hn,h.ok⟩
 obtain ⟨na,p,T,hs,hna,hok⟩:=hs;have hsl:=bo hs
 by_cases hi:0<=i/\i<l.length
 .have hd:decide (0<=i/\i<l.length)=true:=eT hi;obtain ⟨t,rfl⟩:=jO hi.1;have ht:t<l.length:=Z;have hnv:rM l t=(l[t].av,0):=by rw[rM,ai hi,cB,aK,bn ht,bQ]
  have hidx:=ou hna ht;have hto:=hok _ (bp ht);have bx:=yZ l[t] (m++[some (Ent.B [.I 0,aw,.I 0])]) (zC _);simp only[aQ,a8,bq,bj] at bx;have kk:=qs hto
  have hl64:l[t].kids.length<=1000000:=by
   rcases hto with ⟨_,h2,_⟩|⟨_,_,_,_,h5⟩
   .rw[h2];simp
   .omega
  have c49:=fun m=>vV (kz l[t]) (ko l[t]) l[t].kids hl64 m;rw[<- kk,ZL hto (hk _ (bp ht))] at c49;have oka:=qa2 l[t];have cel:=qa1 l[t]
  have e:∃m',AC aa 35 [.ptr s 0,.I t] m=some (.tup [l[t].av,.I 0],m')/\m'=List.set ((((m++[some (Ent.B [.I 0,aw,.I 0])])++[some (Ent.B [.I l[t].var,bM l[t],.I l[t].leaf])]).set (m.length+1) (some (Ent.B [.I l[t].var,bM l[t],.I l[t].leaf])))) m.length (some (Ent.B [.I l[t].var,bM l[t],.I l[t].leaf])):=by
   refine ⟨_,?_,rfl⟩;rw[Ib]
   repeat ((with_reducible first|apply bs|apply bK);(focus first|(simp (disch:=first|assumption|omega|simp only[aX]<;>omega|fail) only[bJ,beq_self_eq_true,bH,O,Sh.size,aY,bf,Nat.reduceAdd,Nat.reduceLeDiff,aI,e50]<;>rfl)|rfl);try dsimp only)
   rw[cD]
   repeat ((with_reducible first|apply bs|apply bK);(focus first|(simp (disch:=first|assumption|omega|simp only[aX]<;>omega|fail) only[bJ,beq_self_eq_true,bH,O,Sh.size,aY,bf,Nat.reduceAdd,Nat.reduceLeDiff,aI,e56]<;>rfl)|rfl);try dsimp only)
   rw[hd,hZ,cD]
   repeat ((with_reducible first|apply bs|apply bK);(focus first|(simp (disch:=first|assumption|omega|simp only[aX]<;>omega|fail) only[bJ,beq_self_eq_true,bH,O,Sh.size,aY,bf,Nat.reduceAdd,Nat.reduceLeDiff,aI,hs,hidx,bx,c49,oka,cel]<;>rfl)|rfl);try dsimp only)
   rfl
  obtain ⟨m',e,rfl⟩:=e;refine ⟨_,by rw[hnv];exact e,((f1.snoc _).set _ (.inr (by omega))).set _ (.inr Z)⟩
 .have hd:decide (0<=i/\i<l.length)=false:=eX hi;have hnv:rM l i=(.agg [.I 0,aw,.I 0],1):=by rw[rM,ag hi]
  have hb:e9 (.agg [(.I 0),aw,(.I 0)]) []=some (.agg [(.I 0),aw,(.I 0)]):=rfl
  have sa:=At (m:=m++[some (Ent.B [.I 0,aw,.I 0])]) (k:=m.length) (a:=.I 0) (b:=aw) (c:=.I 0) (by simp (disch:=first|assumption|omega|simp only[aX]<;>omega|fail) only[di,bP,bG,bO,b7]<;>rfl) (ES 0 0 true .full [])
  refine ⟨_,?_,f1.set (k:=m.length) (some (Ent.B [.I 0,aw,.I 0])) (.inr (aI _))⟩;rw[Ib,hnv]
  repeat ((with_reducible first|apply bs|apply bK);(focus first|(simp (disch:=first|assumption|omega|simp only[aX]<;>omega|fail) only[bJ,beq_self_eq_true,bH,O,Sh.size,aY,bf,Nat.reduceAdd,Nat.reduceLeDiff,aI,e50]<;>rfl)|rfl);try dsimp only)
  rw[cD]
  repeat ((with_reducible first|apply bs|apply bK);(focus first|(simp (disch:=first|assumption|omega|simp only[aX]<;>omega|fail) only[bJ,beq_self_eq_true,bH,O,Sh.size,aY,bf,Nat.reduceAdd,Nat.reduceLeDiff,aI,e56]<;>rfl)|rfl);try dsimp only)
  rw[hd,ka,gJ]
  repeat ((with_reducible first|apply bs|apply bK);(focus first|(simp (disch:=first|assumption|omega|simp only[aX]<;>omega|fail) only[bJ,beq_self_eq_true,bH,O,Sh.size,aY,bf,Nat.reduceAdd,Nat.reduceLeDiff,aI,hb,sa]<;>rfl)|rfl);try dsimp only)
theorem Fp(k:Int)(m:af):AC aa 93 [.I k] m=some (.bool (!lH k),m):=by
 rw[Vu,bg,O,az]
 by_cases h1:k<1
 .rw[ai h1,lH,eX Z];rfl
 .rw[ag h1,gI,O,lH,<- decide_not];congr 3;exact iz.2 Z
theorem y9(z:Bool)(ns:List Int)(h:z=true->ns=[]):∃z' o',rj z ns=IA z' o' ns/\(o'=.no\/o'=.full)/\(z'=true->ns=[]):=by
 cases z with
 | true=>rw[h rfl];exact ⟨true,.full,rfl,.inr rfl,fun _=>rfl⟩
 | false=>
  cases ns with
  | nil=>exact ⟨false,.full,rfl,.inr rfl,fun h=>by cases h⟩
  | cons n ns=>exact ⟨false,.no,rfl,.inl rfl,fun h=>by cases h⟩
theorem Fj(m:af)(z:Bool)(o:Own)(ns:List Int)(hz:z=true->ns=[])(he:jE ns=0) :
  ∃m' s F z' o',AC aa 32 [IA z o ns] m=some (.tup [.ptr s 0,.I 0],m')/\bB m' s F (IA z' o' ns) 4000 []/\Fr m m' []/\(∀x∈F,m.length<=x)/\(z'=true->ns=[]):=by
 obtain ⟨h1,h2⟩:=re he;obtain ⟨m1,e47,f1⟩:=Fo (m:=m) (z:=z) (o:=o) (ks:=ns) (g:=93) (caps:=[]) (p:=fun k=>!lH k) Z rfl rfl rfl (fun m1 k _=>⟨m1,Fp k m1,Fr.refl _ _⟩);have ha:ns.all lH=true:=fe.2 fun a ha=>eT (h2 a ha);rw[CP,ha,hZ] at e47;obtain ⟨z',o',ec,_,hzz⟩:=y9 z ns hz;have c49:=fun m=>vV z o ns Z m;rw[ec] at c49;have l1:=f1.len
 refine ⟨(m1++[some (Ent.mp .str [])])++[some (Ent.B [IA z' o' ns,aw,.mref m1.length,.I 4000])],m1.length+1,[m1.length+1,m1.length],z',o',?_,?_,(f1.snoc _).snoc _,?_,hzz⟩
 .have hb:e9 (.agg [aw,aw,.nilm,(.I 0)]) [(0,none,IA z' o' ns),(2,none,(.mref m1.length)),(3,none,(.I 4000))]=some (.agg [IA z' o' ns,aw,.mref m1.length,.I 4000]):=rfl;have hx:∀m,cQ none (some 4) m (.agg [IA z' o' ns,aw,.mref m1.length,.I 4000])=some (.ptr m.length 0,m++[some (Ent.B [IA z' o' ns,aw,.mref m1.length,.I 4000])]):=fun m=>rfl;rw[H9,fc,O,gI,O,az,ag Z,e47,O,cD]
  repeat ((with_reducible first|apply bs|apply bK);(focus first|(simp (disch:=first|assumption|omega|simp only[aX]<;>omega|fail) only[bJ,beq_self_eq_true,bH,O,Sh.size,aY,bf,Nat.reduceAdd,Nat.reduceLeDiff,aI,c49,hb,hx]<;>rfl)|rfl);try dsimp only)
 .refine ⟨m1.length,aw,[],⟨(by simp (disch:=first|assumption|omega|simp only[aX]<;>omega|fail) only[di,bP,bG,bO,b7]<;>rfl),(by simp (disch:=first|assumption|omega|simp only[aX]<;>omega|fail) only[di,bP,bG,bO,b7]<;>rfl),.none,aq,Z,aq⟩,rfl⟩
 .intro x hx;simp only[cE,sO,or_false] at hx;omega
theorem VF:AP aa 13 []=some (.bool true):=by
 have key:∃m',AC aa 13 [] []=some (.bool true,m'):=by
  obtain ⟨m1,s,F,z',o',e1,h1,_,_⟩:=Fj [] false .full [2] (fun h=>by cases h) (by decide);obtain ⟨m2,F2,e2,h2,_,_⟩:=Fk h1 7 (by decide) Z;have hr:px [] 7=((0,0),[gC 7]):=by decide
  rw[hr] at e2 h2
  obtain ⟨m3,e3,f3⟩:=Nu h2 Z (by
    intro n hn hv;obtain rfl:n=gC 7:=by simpa using hn
    exact absurd (show (gC 7).var<0 by decide) hv) 0
  have hnv:rM [gC 7] 0=(.agg [.I (-1),aw,.I 7],0):=rfl;rw[hnv] at e3;have e1:AC aa 32 [.lst none false .full [.I 2]] []=_:=e1
  have sa:=At (m:=m3++[some (Ent.B [.I 0,aw,.I 0])]) (k:=m3.length) (a:=.I 0) (b:=aw) (c:=.I 0) (by simp (disch:=first|assumption|omega|simp only[aX]<;>omega|fail) only[di,bP,bG,bO,b7]<;>rfl) (ES (-1) 7 true .full [])
  refine ⟨List.set (m3++[some (Ent.B [.I 0,aw,.I 0])]) m3.length (some (Ent.B [.I (-1),aw,.I 7])),?_⟩;rw[Uk,show cq none [(.I 2)]=some (.lst none false .full [.I 2]) from rfl,O]
  repeat ((with_reducible first|apply bs|apply bK);(focus first|(simp (disch:=first|assumption|omega|simp only[aX]<;>omega|fail) only[bJ,beq_self_eq_true,bH,O,Sh.size,aY,bf,Nat.reduceAdd,Nat.reduceLeDiff,aI,e1]<;>rfl)|rfl);try dsimp only)
  rw[eX (by decide),cD,show ae .pt .eql (.ptr s 0) .nilp=some (.bool false) from rfl,O,cD]
  repeat ((with_reducible first|apply bs|apply bK);(focus first|(simp (disch:=first|assumption|omega|simp only[aX]<;>omega|fail) only[bJ,beq_self_eq_true,bH,O,Sh.size,aY,bf,Nat.reduceAdd,Nat.reduceLeDiff,aI,e2,e3,sa]<;>rfl)|rfl);try dsimp only)
  rw[eT (by decide),gJ]
  repeat ((with_reducible first|apply bs|apply bK);(focus first|(simp (disch:=first|assumption|omega|simp only[aX]<;>omega|fail) only[bJ,beq_self_eq_true,bH,O,Sh.size,aY,bf,Nat.reduceAdd,Nat.reduceLeDiff,aI]<;>rfl)|rfl);try dsimp only)
  rw[eT (by decide),gJ]
  repeat ((with_reducible first|apply bs|apply bK);(focus first|(simp (disch:=first|assumption|omega|simp only[aX]<;>omega|fail) only[bJ,beq_self_eq_true,bH,O,Sh.size,aY,bf,Nat.reduceAdd,Nat.reduceLeDiff,aI]<;>rfl)|rfl);try dsimp only)
  rw[eT (by decide),gJ]
  repeat ((with_reducible first|apply bs|apply bK);(focus first|(simp (disch:=first|assumption|omega|simp only[aX]<;>omega|fail) only[bJ,beq_self_eq_true,bH,O,Sh.size,aY,bf,Nat.reduceAdd,Nat.reduceLeDiff,aI]<;>rfl)|rfl);try dsimp only)
  rfl
 obtain ⟨m',e⟩:=key;unfold AP gO;rw[e]
 rfl
theorem vU(d:Option Nat)(m:af):aF (AP aa) d m 13 []=some (.bool true,m):=by rw[Ep,VF];rfl
end
inductive NR (e:Nat) (m:af):AV->List ND->List Nat->Prop
 | none:NR e m aw [] []
 | some (t:Nat) (l:List ND) (ht:m.get t=some (.tok l.length 3)):NR e m (.lst (some 3) false (.tok t e) (l.map ND.av)) l [t]
theorem pF{e:Nat}{m m':af}{x:AV}{l:List ND}{T:List Nat}(h:NR e m x l T)(f:∀k∈T,m'.get k=m.get k):NR e m' x l T:=by
 cases h with
 | none=>exact .none
 | some t l ht=>exact .some t l ((f t (by simp)).trans ht)
theorem pE{e:Nat}{m:af}{x:AV}{l:List ND}{T:List Nat}(h:NR e m x l T):∀k∈T,k<m.length:=by
 cases h with
 | none=>simp
 | some t l ht=>
   intro k hk;obtain rfl:k=t:=by simpa using hk
   exact bo ht
theorem Eh{e:Nat}{m:af}{x:AV}{l:List ND}{T:List Nat}(h:NR e m x l T):aL false x=some (.I l.length):=by
 cases h with
 | none=>rfl
 | some t l ht=>rw[jX,bA]
theorem qbQ{e:Nat}{m:af}{x:AV}{l:List ND}{T:List Nat}(h:NR e m x l T){i:Nat}(hi:i<l.length):aE (some 3) x (.I i)=some (.vptr [.I l[i].var,bM l[i],.I l[i].leaf]):=by
 cases h with
 | none=>simp at hi
 | some t l ht=>exact zF hi
theorem Zw(n:ND):cq (some 3) [n.av]=some (NL false .full [n]):=by
 show cq (some 3) [.agg [.I n.var,bM n,.I n.leaf]]=some (.lst (some 3) false .full [.agg [.I n.var,bM n,.I n.leaf]]);unfold bM;split<;>rfl
theorem Kh{n:ND}:∀{l:List ND} {i:Nat} (hi:i<l.length),l[i]=n->(∀t (ht:t<l.length),t<i->l[t]≠n)->l.idxOf n=i
 | [],i,hi,_,_=>by simp at hi
 | x::l,0,_,h,_=>by
  have h:x=n:=h;rw[h];simp
 | x::l,i+1,hi,h,hne=>by
  have hx:x≠n:=hne 0 aq Z
  rw[List.idxOf_cons,cond_eq_ite,ag (by simpa using hx),Kh (l:=l) (i:=i) (by simpa using hi) (by simpa using h) (fun t ht hti=>by
   have:=hne (t+1) (by simpa using ht) Z
   simpa using this)]
end Go.Ab
namespace Go.Ab
noncomputable section
variable (a0 a1 a2 a3 x0 x1 x2 x3 x5 x6 x7 x8 x9 x10 x11 x12 x13 x14 x15 x79 x80:AV) (m:af) (K:KT)
open Go.Proofs.Tryz
def Ht:St:=⟨(aJ (aG (x5::bh (aO (aH []))))),m⟩
def sv:OM:=bD 14 (bI (c2 (c2 (aA f14)))) 3 (x0::x1::aH (aG (x5::x6::bh (aO (aG []))))) m K
abbrev PP:KT:=bi 14 (c2 (c2 (c2 (aA f14)))) K
abbrev PQ:KT:=be 0 (PP K)
abbrev wP:KT:=(PQ K)
theorem Ut:AC aa 14 [a0,a1] m=sv a0 a1 aw (.I 0) m (wP (aD f14)):=
(aZ aa 14 [a0,a1] m (fn:=f14) (c:=aA f14) XQ rfl).trans aj
theorem Gj:sv x0 x1 x5 x6 m K=(aF (AP aa) none m 12 [x0,(.I 300)]).bind fun r1=>(ae .o .lss x6 r1.1).bind fun v2=>au v2 ((aL false x1).bind fun v3=>(ae .o .gtr v3 (.I 0)).bind fun v4=>au v4 ((aL false x1).bind fun v5=>(ae .o .rem x6 v5).bind fun v6=>(aE none x1 v6).bind fun v7=>(am none r1.2 v7).bind fun v8=>(ae .o .rem v8 (.I 5)).bind fun v9=>(ae .o .add v9 (.I 5)).bind fun v10=>(ae .o .rem v10 (.I 5)).bind fun v11=>(cq none [v11]).bind fun v12=>(bF none false 3 none 8 r1.2 x5 v12).bind fun r13=>(ae .o .add x6 (.I 1)).bind fun v14=>sv x0 x1 r13.1 v14 r13.2 K) ((ae .o .rem (.I 0) (.I 5)).bind fun v15=>(ae .o .add v15 (.I 5)).bind fun v16=>(ae .o .rem v16 (.I 5)).bind fun v17=>(cq none [v17]).bind fun v18=>(bF none false 3 none 8 r1.2 x5 v18).bind fun r19=>(ae .o .add x6 (.I 1)).bind fun v20=>sv x0 x1 r19.1 v20 r19.2 K)) (K (.exit 0) (Ht x5 r1.2)):=
(bC (bw _) _ _ _).trans aj
theorem PR:wP (aD f14) (.exit 0) (Ht x5 m)=some (x5,m):=aj
theorem Ux:AC aa 15 [a0,a1] m=(AC aa 32 [a0] m).bind fun r1=>(aT r1.1 0).bind fun v2=>(aT r1.1 1).bind fun v3=>(ae .o .neq v3 (.I 0)).bind fun v4=>au v4 (some ((.tup [.nilp,(.I 0),(.bool false)]),r1.2)) ((AC aa 62 [v2,a0,a1,(.I 0)] r1.2).bind fun r5=>(aT r5.1 0).bind fun v6=>(aT r5.1 1).bind fun v7=>(ae .o .eql v7 (.I 0)).bind fun v8=>some ((.tup [v2,v6,v8]),r5.2)):=
(aZ aa 15 [a0,a1] m (fn:=f15) (c:=aA f15) XX rfl).trans aj
def B1:St:=⟨(aJ (aG (x5::bm (aJ (aH (aG [])))))),m⟩
def uo:OM:=bD 16 (bI (c2 (c2 (c2 (aA f16))))) 4 (aG (x1::aH (aG (x5::x6::aJ (aG (x12::x13::x14::bh (aO (aJ (aH []))))))))) m K
def yx:St:=⟨(aG (x1::aH (aG (x5::x6::aH (x9::aH (x12::x13::x14::bh (aO (aJ (aH []))))))))),m⟩
def qT:OM:=bD 16 (bI (jf (jf (kZ (c2 (aA f16)))))) 8 (aG (x1::aH (aG (x5::x6::aG (x8::x9::x10::aG (x12::x13::x14::bh (aO (aJ (aH []))))))))) m K
abbrev Qj:KT:=bi 16 (aV (aA f16)) K
abbrev Qk:KT:=be 0 (Qj K)
abbrev wR:KT:=(Qk K)
abbrev Qm:KT:=bi 16 (js (kn (c2 (c2 (aA f16))))) (kI 16 (bI (c2 (c2 (c2 (aA f16))))) 4 K)
abbrev Qn:KT:=be 1 (Qm K)
abbrev Qo:KT:=bi 16 (js (s9 (kn (c2 (c2 (aA f16)))))) (Qn K)
abbrev Qp:KT:=be 2 (Qo K)
abbrev wS:KT:=(Qp K)
theorem UB:AC aa 16 [a0,a1] m=(aL false a0).bind fun v1=>uo a1 aw (.I 0) a0 v1 (.I 0) m (wR (aD f16)):=
(aZ aa 16 [a0,a1] m (fn:=f16) (c:=aA f16) X3 rfl).trans aj
theorem Gt:uo x1 x5 x6 x12 x13 x14 m K=(ae .o .lss x14 x13).bind fun v1=>au v1 ((aE none x12 x14).bind fun v2=>(am none m v2).bind fun v3=>qT x1 x5 x6 v3 aw (.I 0) x12 x13 x14 m (wS K)) (K (.exit 0) (B1 x5 m)):=
(bC (bw _) _ _ _).trans aj
theorem BG:qT x1 x5 x6 x8 x9 x10 x12 x13 x14 m K=(ae .o .lss x10 x8).bind fun v1=>au v1 ((aL false x1).bind fun v2=>(ae .o .gtr v2 (.I 0)).bind fun v3=>au v3 ((aL false x1).bind fun v4=>(ae .o .rem x6 v4).bind fun v5=>(aE none x1 v5).bind fun v6=>(am none m v6).bind fun v7=>(ae .o .add x6 (.I 1)).bind fun v8=>(cq none [v7]).bind fun v9=>(bF none false 3 none 8 m x9 v9).bind fun r10=>(ae .o .add x10 (.I 1)).bind fun v11=>qT x1 x5 v8 x8 r10.1 v11 x12 x13 x14 r10.2 K) ((cq none [(.I 1)]).bind fun v12=>(bF none false 3 none 8 m x9 v12).bind fun r13=>(ae .o .add x10 (.I 1)).bind fun v14=>qT x1 x5 x6 x8 r13.1 v14 x12 x13 x14 r13.2 K)) (K (.exit 2) (yx x1 x5 x6 x9 x12 x13 x14 m)):=
(bC (bw _) _ _ _).trans aj
theorem Ql:wR (aD f16) (.exit 0) (B1 x5 m)=some (x5,m):=aj
theorem Qq:wS K (.exit 2) (yx x1 x5 x6 x9 x12 x13 x14 m)=(cq none [x9]).bind fun v1=>(bF none false 22 none 24 m x5 v1).bind fun r2=>(ae .o .add x14 (.I 1)).bind fun v3=>uo x1 r2.1 x6 x12 x13 v3 r2.2 K:=aj
def HE:St:=⟨(x0::aH (x3::aJ (aH (x10::bm (bh (aO (aJ []))))))),m⟩
def TQ:St:=⟨(aO (x8::x9::bm (bh (aO (aJ (aG [])))))),m⟩
def sD:OM:=bD 62 (bI (aV (aA f62))) 6 (x0::x1::x2::x3::aJ (aH (x10::x11::x12::bm (bh (aO (aH [])))))) m K
abbrev Sd:KT:=bi 62 (aV (c2 (aA f62))) K
abbrev Se:KT:=be 0 (Sd K)
abbrev ug:KT:=(Se K)
theorem Ic:AC aa 62 [a0,a1,a2,a3] m=(aL false a1).bind fun v1=>(ae .o .eql a3 v1).bind fun v2=>au v2 ((aE none a2 (.I 0)).bind fun v3=>(am none m v3).bind fun v4=>(AC aa 33 [a0,v4] m).bind fun r5=>(aT r5.1 0).bind fun v6=>(aT r5.1 1).bind fun v7=>some ((.tup [v6,v7]),r5.2)) ((aL false a2).bind fun v8=>(aE none a1 a3).bind fun v9=>(am none m v9).bind fun v10=>(ae .o .quo v8 v10).bind fun v11=>sD a0 a1 a2 a3 aw v11 (.I 0) m (ug (aD f62))):=
(aZ aa 62 [a0,a1,a2,a3] m (fn:=f62) (c:=aA f62) YK rfl).trans aj
theorem GX:sD x0 x1 x2 x3 x10 x11 x12 m K=(aE none x1 x3).bind fun v1=>(am none m v1).bind fun v2=>(ae .o .lss x12 v2).bind fun v3=>au v3 ((ae .o .mul x12 x11).bind fun v4=>(ae .o .add x12 (.I 1)).bind fun v5=>(ae .o .mul v5 x11).bind fun v6=>(jZ none x2 (some v4) (some v6) none).bind fun v7=>(ae .o .add x3 (.I 1)).bind fun v8=>(AC aa 62 [x0,x1,v7,v8] m).bind fun r9=>(aT r9.1 0).bind fun v10=>(aT r9.1 1).bind fun v11=>(ae .o .neq v11 (.I 0)).bind fun v12=>au v12 (K .ret (TQ (.I 0) v11 r9.2)) ((cq none [v10]).bind fun v13=>(bF none false 3 none 8 r9.2 x10 v13).bind fun r14=>(ae .o .add x12 (.I 1)).bind fun v15=>sD x0 x1 x2 x3 r14.1 x11 v15 r14.2 K)) (K (.exit 0) (HE x0 x3 x10 m)):=
(bC (bw _) _ _ _).trans aj
theorem Sf:ug (aD f62) (.exit 0) (HE x0 x3 x10 m)=(AC aa 34 [x0,x3,x10] m).bind fun r1=>(aT r1.1 0).bind fun v2=>(aT r1.1 1).bind fun v3=>some ((.tup [v2,v3]),r1.2):=aj
def TI:OM:=bD 3 (bI (aV (aV (aV (aA f3))))) 17 (aO (aJ (x12::aG (x14::x15::bm (bh (aO (aJ (aH (aG (x79::x80::bm (aO (aG [])))))))))))) m K
abbrev RP:KT:=bi 3 (aV (aV (aV (c2 (aA f3))))) K
abbrev RQ:KT:=be 0 (RP K)
abbrev RO:KT:=(RQ K)
theorem T3:AC aa 3 [a0,a1,a2] m=(aF (AP aa) none m 10 [a0]).bind fun r1=>(aF (AP aa) none r1.2 11 [r1.1]).bind fun r2=>(ae .o .neq r2.1 (.I 0)).bind fun v3=>au v3 ((aF (AP aa) none r2.2 13 []).bind fun r4=>some (r4.1,r4.2)) ((aF (AP aa) none r2.2 12 [r1.1,(.I 100)]).bind fun r5=>(ae .o .eql r5.1 (.I 0)).bind fun v6=>au v6 ((aF (AP aa) none r5.2 13 []).bind fun r7=>some (r7.1,r7.2)) ((aF (AP aa) none r5.2 14 [r1.1,a1]).bind fun r8=>(AC aa 15 [r1.1,r8.1] r8.2).bind fun r9=>(aT r9.1 0).bind fun v10=>(aT r9.1 1).bind fun v11=>(aT r9.1 2).bind fun v12=>(il .not v12).bind fun v13=>au v13 (some ((.bool false),r9.2)) ((aF (AP aa) none r9.2 16 [r1.1,a2]).bind fun r14=>(AC aa 17 [v10,v11,r14.1] r14.2).bind fun r15=>(aT r15.1 0).bind fun v16=>(aT r15.1 1).bind fun v17=>(aF (AP aa) none r15.2 18 [r1.1,r14.1]).bind fun r18=>(il .not r18.1).bind fun v19=>au v19 ((ae .o .eql v17 (.I 1)).bind fun v20=>au v20 ((aL false v16).bind fun v21=>(ae .o .eql v21 (.I 0)).bind fun v22=>au v22 ((aF (AP aa) none r18.2 13 []).bind fun r23=>some (r23.1,r23.2)) (some ((.bool false),r18.2))) (some ((.bool false),r18.2))) ((aF (AP aa) none r18.2 19 [r1.1,r8.1,r14.1]).bind fun r24=>(aF (AP aa) none r24.2 20 []).bind fun r25=>(aM (some 3) (aC none r25.2 (.B [(.bool false),aw,aw])).2 (.ptr (aC none r25.2 .resv).1 0) r25.1).bind fun m26=>(ae .o .neq v17 (.I 0)).bind fun v27=>au v27 (some ((.bool false),m26)) ((aL false v16).bind fun v28=>(aL false r24.1).bind fun v29=>(ae .o .neq v28 v29).bind fun v30=>au v30 (some ((.bool false),m26)) ((aL false v16).bind fun v31=>TI v16 r24.1 (.ptr (aC none r25.2 .resv).1 0) v31 (.I 0) m26 (RO (aD f3)))))))):=
(aZ aa 3 [a0,a1,a2] m (fn:=f3) (c:=aA f3) Yy rfl).trans aj
def HL:St:=⟨(aH (aG (x3::aO (aJ (aH []))))),m⟩
def yf:OM:=bD 90 (bI (c2 (c2 (aA f90)))) 3 (aH (aG (x3::aH (x6::x7::x8::aO (aG []))))) m K
abbrev S8:KT:=bi 90 (c2 (c2 (c2 (aA f90)))) K
abbrev S9:KT:=be 0 (S8 K)
abbrev BD:KT:=(S9 K)
theorem Vs:AC aa 90 [a0] m=(aL false a0).bind fun v1=>yf aw a0 v1 (.I 0) m (BD (aD f90)):=
(aZ aa 90 [a0] m (fn:=f90) (c:=aA f90) Ze rfl).trans aj
theorem Hf:yf x3 x6 x7 x8 m K=(ae .o .lss x8 x7).bind fun v1=>au v1 ((aE (some 3) x6 x8).bind fun v2=>(am (some 3) m v2).bind fun v3=>(aM (some 3) (aC none m (.B [(.I 0),aw,(.I 0)])).2 (.ptr (aC none m .resv).1 0) v3).bind fun m4=>(am (some 3) m4 (.ptr (aC none m .resv).1 0)).bind fun v5=>(cq (some 3) [v5]).bind fun v6=>(bF none false 146 (some 3) 40 m4 x3 v6).bind fun r7=>(ae .o .add x8 (.I 1)).bind fun v8=>yf r7.1 x6 x7 v8 r7.2 K) (K (.exit 0) (HL x3 m)):=
(bC (bw _) _ _ _).trans aj
theorem Ta:BD (aD f90) (.exit 0) (HL x3 m)=some (x3,m):=aj
theorem UZ:AC aa 29 [a0,a1,a2,a3] m=(AC aa 43 [a0,a1] m).bind fun r1=>(aT r1.1 0).bind fun v2=>(aT r1.1 1).bind fun v3=>(ae .o .eql v3 (.I 0)).bind fun v4=>au v4 ((aF (AP aa) none r1.2 90 [v2]).bind fun r5=>(aF (AP aa) none r5.2 31 [a2,a3]).bind fun r6=>(aF (AP aa) none r6.2 89 [r5.1,r6.1]).bind fun r7=>some (r7.1,r7.2)) (some ((.bool false),r1.2)):=
(aZ aa 29 [a0,a1,a2,a3] m (fn:=f29) (c:=aA f29) Yx rfl).trans aj
end
end Go.Ab
namespace Go.Ab
open Go.Proofs Go.Proofs.Tryz
theorem D9{tk:TK}{a b:Nat}(h:b≠0):ae tk .rem (.I a) (.I b)=some (.I (a%b:Nat)):=by
 have e:ae tk .rem (.I a) (.I b)=if (b:Int)=0 then none else some (.I ((a:Int).tmod b)):=by cases tk<;>rfl
 rw[e,ag Z]
 rfl
theorem D8{tk:TK}{a b:Nat}(h:b≠0)(h':a<9223372036854775808):ae tk .quo (.I a) (.I b)=some (.I (a/b:Nat)):=by
 have e:ae tk .quo (.I a) (.I b)=if (b:Int)=0 then none else some (.I (IntKind.wrap .i64 ((a:Int).tdiv b))):=by cases tk<;>rfl
 rw[e,ag Z];have e2:(a:Int).tdiv b=((a/b:Nat):Int):=rfl;have:=qW a b;rw[e2];generalize a/b=q at *;rw[gz Z Z]
theorem rJ{tk:TK}{a b:Nat}(h:a*b<9223372036854775808):ae tk .mul (.I a) (.I b)=some (.I (a*b:Nat)):=by
 rw[qe,<- nU];generalize a*b=q at *;rw[gz Z Z]
theorem Aj(tk:TK)(a:Int):ae tk .rem (.I a) (.I 5)=some (.I (a.tmod 5)):=by cases tk<;>rfl
inductive GR (e:Nat) (m:af):AV->List AV->List Nat->Prop
 | none:GR e m aw [] []
 | some (t:Nat) (es:List AV) (ht:m.get t=some (.tok es.length 1)) (hne:es≠[]):GR e m (.lst none false (.tok t e) es) es [t]
theorem qo{e:Nat}{m m':af}{x:AV}{l:List AV}{T:List Nat}(h:GR e m x l T)(f:∀k∈T,m'.get k=m.get k):GR e m' x l T:=by
 cases h with
 | none=>exact .none
 | some t l ht hne=>exact .some t l ((f t (by simp)).trans ht) hne
theorem mq{e:Nat}{m:af}{x:AV}{l:List AV}{T:List Nat}(h:GR e m x l T):∀k∈T,k<m.length:=by
 cases h with
 | none=>simp
 | some t l ht _=>
  intro k hk;obtain rfl:k=t:=by simpa using hk
  exact bo ht
theorem qp{e:Nat}{m:af}{x:AV}{l:List AV}{T:List Nat}(h:GR e m x l T):∃z o,x=.lst none z o l/\(z=true->l=[]):=by
 cases h with
 | none=>exact ⟨true,.full,rfl,fun _=>rfl⟩
 | some t l ht _=>exact ⟨false,.tok t e,rfl,fun h=>by cases h⟩
theorem nF{e b:Nat}{m:af}{x:AV}{l:List AV}{T:List Nat}(h:GR e m x l T)(hl:l.length<1000000)(hb:b<=64)(y:AV):∃x' m' T',bF none false e none b m x (.lst none false .full [y])=some (x',m')/\GR e m' x' (l++[y]) T'/\Fr m m' T/\Gr m T T':=by
 have h2:(l.length+1)*b<=fq:=by
  have:=mP (show l.length+1<=1000000 by omega) hb;unfold fq;omega
 cases h with
 | none=>
  refine ⟨.lst none false (.tok m.length e) [y],m++[some (Ent.tok 1 1)],[m.length],?_,.some _ [y] (by simp (disch:=first|assumption|omega|simp only[aX]<;>omega|fail) only[di,bP,bG,bO,b7]<;>rfl) aq,Fr.app m _ _,fun k hk=>?_⟩
  .have h2:b<=fq:=by simpa using h2
   simp[bF,h2,aC,Sh.size]
  .obtain rfl:k=m.length:=by simpa using hk
   exact .inr (aI _)
 | some t es ht _=>
  have htl:=bo ht
  refine ⟨.lst none false (.tok t e) (l++[y]),m.set t (some (Ent.tok (l.length+1) 1)),[t],?_,?_,(Fr.refl m [t]).set _ (.inl aq),Gr.refl _ _⟩
  .simp[bF,ht,Sh.size,h2]
  .refine .some t (l++[y]) ?_ aq;rw[b7 rfl htl,aQ];rfl
theorem Ey{most:Int}:∀(l:List Int) (acc:Int),(∀a∈l,1<=a)->1<=acc->acc<=most->i7 most acc l≠0->i7 most acc l=acc*aN l/\acc*aN l<=most
 | [],acc,_,h1,h2,_=>by simp only[i7,aN];omega
 | n::l,acc,hl,h1,h2,h=>by
  rw[i7] at h ⊢;have hn:=hl n cF
  by_cases hg:acc*n>most
  .rw[ai hg] at h;exact absurd rfl h
  .rw[ag hg] at h ⊢;have hp:1<=acc*n:=by have:=Int.mul_le_mul h1 hn Z Z;simpa using this
   have e:=Ey l (acc*n) (fun a ha=>hl a (cP _ ha)) hp Z h
   have e2:acc*((aN (n::l):Nat):Int)=acc*n*aN l:=by
    rw[aN,nU,Int.toNat_of_nonneg Z,Int.mul_assoc]
   rw[e2];exact e
theorem qD{l:List Int}(h:∀a∈l,1<=a):1<=aN l:=by
 induction l with
 | nil=>exact aI _
 | cons n l ih=>
  rw[aN];have h1:=h n cF;exact Nat.mul_pos Z (ih fun a ha=>h a (cP _ ha))
theorem LR{most:Int}:∀(l:List Int) (acc:Int),(∀a∈l,1<=a)->1<=acc->acc*aN l<=most->i7 most acc l=acc*aN l
 | [],acc,_,h1,_=>by simp[i7,aN]
 | n::l,acc,hl,h1,h=>by
  have hn:=hl n cF
  have e2:acc*((aN (n::l):Nat):Int)=acc*n*aN l:=by
   rw[aN,nU,Int.toNat_of_nonneg Z,Int.mul_assoc]
  rw[e2] at h ⊢;have hp:1<=acc*n:=by have:=Int.mul_le_mul h1 hn Z Z;simpa using this
  have hl':=qD fun a ha=>hl a (cP n ha);have h3:acc*n*1<=acc*n*(aN l:Nat):=Int.mul_le_mul_of_nonneg_left Z Z;rw[i7,ag Z];exact LR l (acc*n) (fun a ha=>hl a (cP _ ha)) hp h
theorem WF{z zl:Bool}{o ol:Own}{ar l:List Int}(h1:ar.length<=16)(h2:∀a∈ar,1<=a/\a<=64){N:Nat}(hN:i7 300 1 ar=N)(hN2:N<=300):∀(j i:Nat) (m:af) (x:AV) (t:List Int) (T:List Nat),i+j=N->GR 3 m x (t.map (AV.int .i64)) T->t.length=i->(∀y∈t,0<=y/\y<=4) ->
  ∃(m':af) (x':AV) (t':List Int) (T':List Nat),sv (IA z o ar) (IA zl ol l) x (.I i) m (wP (aD f14))=some (x',m')/\GR 3 m' x' (t'.map (AV.int .i64)) T'/\t'.length=N/\∀y∈t',0<=y/\y<=4:=by
 intro j
 induction j with
 | zero=>
  intro i m x t T hi h ht hy;refine ⟨m,x,t,T,?_,h,Z,hy⟩;rw[Gj,tz _ _ _ h1 h2 300 Z,O,hN,bS,O,az,ag Z,PR]
 | succ j ih=>
  intro i m x t T hi h ht hy
  have nx:∀(y:Int),∃(m':af) (x':AV) (t':List Int) (T':List Nat),((bF none false 3 none 8 m x (.lst none false .full [.I ((IntKind.wrap .i64 (y.tmod 5+5)).tmod 5)])).bind fun r13=>sv (IA z o ar) (IA zl ol l) r13.1 (.I (i+1:Nat)) r13.2 (wP (aD f14)))=some (x',m')/\GR 3 m' x' (t'.map (AV.int .i64)) T'/\t'.length=N/\∀y∈t',0<=y/\y<=4:=fun y=>by
   obtain ⟨x1,m1,T1,ea,g1,_,_⟩:=nF (b:=8) h (by rw[bA];omega) Z (.I ((IntKind.wrap .i64 (y.tmod 5+5)).tmod 5));rw[ea,O]
   have hb:0<=(IntKind.wrap .i64 (y.tmod 5+5)).tmod 5/\(IntKind.wrap .i64 (y.tmod 5+5)).tmod 5<=4:=by
    have a1:=Int.tmod_lt_of_pos y (show (0:Int)<5 by omega)
    have a2:-5<y.tmod 5:=by
     have hd:=Int.tmod_add_mul_tdiv y 5
     rcases Int.le_total 0 y with h0|h0
     .have:=Int.tmod_nonneg (a:=y) 5 h0;omega
     .have e:(-y).tmod 5=-(y.tmod 5):=Int.neg_tmod ..;have:=Int.tmod_lt_of_pos (-y) (show (0:Int)<5 by omega);omega
    rw[gz Z Z];have b1:=Int.tmod_lt_of_pos (y.tmod 5+5) (show (0:Int)<5 by omega);have b2:=Int.tmod_nonneg (a:=y.tmod 5+5) 5 Z;omega
   have g2:GR 3 m1 x1 ((t++[(IntKind.wrap .i64 (y.tmod 5+5)).tmod 5]).map (AV.int .i64)) T1:=by
    rw[gW];exact g1
   exact ih (i+1) m1 x1 _ T1 Z g2 (by simp[ht]) fun k hk=>by
    rcases cI.1 hk with hk|hk
    .exact hy k hk
    .obtain rfl:k=_:=by simpa using hk
     exact hb
  rw[Gj,tz _ _ _ h1 h2 300 Z,O,hN,bS,O,az,ai Z,fc,O,gI,O,az]
  by_cases hl:(l.length:Int)>0
  .rw[ai hl,O,D9 Z,O,fw (io _ Z),O,cr,O,Aj,O,iY,O,Aj,O,kX,O];simp only[b6 (show i+1<9223372036854775808 by omega)];exact nx _
  .rw[ag hl,Aj,O,iY,O,Aj,O,kX,O];simp only[b6 (show i+1<9223372036854775808 by omega)];exact nx _
theorem VW(z zl:Bool)(o ol:Own)(ar l:List Int)(h1:ar.length<=16)(h2:∀a∈ar,1<=a/\a<=64){N:Nat}(hN:i7 300 1 ar=N)(hN2:N<=300):∃(z':Bool) (o':Own) (t:List Int),AP aa 14 [IA z o ar,IA zl ol l]=some (IA z' o' t)/\(z'=true->t=[])/\t.length=N/\∀y∈t,0<=y/\y<=4:=by
 obtain ⟨m',x',t,T',e,g,ht,hy⟩:=WF (z:=z) (zl:=zl) (o:=o) (ol:=ol) (l:=l) h1 h2 hN hN2 N 0 [] aw [] [] Z .none rfl aq;obtain ⟨z',o',rfl,hz⟩:=qp g;refine ⟨z',o'.fr,t,?_,fun h=>oQ.1 (hz h),ht,hy⟩;refine fH (m:=m') (v:=IA z' o' t) (l:=[]) ?_ (gX z' o' t m') rfl;rw[Ut];exact e
theorem C3(z:Bool)(o:Own)(t:List Int)(k:IntKind){n i:Nat}(h:(i+1)*n<=t.length):jZ none (IA z o t) (some (.int k (i*n:Nat))) (some (.int k ((i+1)*n:Nat))) none=some (IA z .no (part t n i)):=by
 have h2:i*n<=(i+1)*n:=fL _ Z;have e:(i+1)*n-i*n=n:=by rw[eW,jP];omega
 have e2:part t n i=(t.take ((i+1)*n)).drop (i*n):=by rw[List.drop_take,e];rfl
 rw[e2]
 have e3:jZ none (IA z o t) (some (.int k (i*n:Nat))) (some (.int k ((i+1)*n:Nat))) none=(gP (List.map (AV.int .i64) t).length (some (.int k ((i+1)*n:Nat))) (List.map (AV.int .i64) t).length).bind fun h=>(gP h (some (.int k (i*n:Nat))) 0).bind fun l=>some (.lst none z .no (((List.map (AV.int .i64) t).take h).drop l)):=by
  have e4:∀(es:List AV) (x y:Option AV),jZ none (.lst none z o es) x y none=if (none:Sh)=none\/es=[] then (gP es.length y es.length).bind fun h=>(gP h x 0).bind fun l=>some (.lst none z .no ((es.take h).drop l)) else none:=fun _ _ _=>rfl
  rw[e4,ai (.inl rfl)]
 rw[e3]
 have b1:gP (List.map (AV.int .i64) t).length (some (.int k ((i+1)*n:Nat))) (List.map (AV.int .i64) t).length=some ((i+1)*n):=by
  simp only[gP,bA];rw[ai ⟨Z,Z⟩,cB]
 have b2:gP ((i+1)*n) (some (.int k (i*n:Nat))) 0=some (i*n):=by
  simp only[gP];rw[ai ⟨Z,Z⟩,cB]
 rw[b1,O,b2,O,<- sN,<- List.map_drop]
def FA(s:Nat)(zs za:Bool)(os oa:Own)(ar:List Int)(v n:Nat):Prop:=
 ∀(m:af) (F:List Nat) (l:List ND) (t:List Int) (z:Bool) (o:Own),bB m s F (IA zs os ar) 4000 l->GoodL ar l->t.length=n->(∀x∈t,0<=x/\x<=4)->l.length+2*n<=4000->∃(m':af) (F':List Nat) (r:List ND) (id:Nat),AC aa 62 [.ptr s 0,IA za oa ar,IA z o t,.I v] m=some (.tup [.I (id:Nat),.I 0],m') /\
  bB m' s F' (IA zs os ar) 4000 (l++r)/\GoodL ar (l++r)/\TabV ar (l++r) id v t/\r.length+1<=2*t.length/\Fr m m' F/\Gr m F F'
theorem WG{s:Nat}{zs za z:Bool}{os oa o:Own}{ar t:List Int}{v n a:Nat}(hv:v<ar.length)(ha:ar[v]=(a:Int))(h1:∀x∈ar,1<=x/\x<=64)(hal:ar.length<=16)(ht:t.length=a*n)(hn:n=aN (ar.drop (v+1)))(hn0:1<=n)(htl:t.length<=300)(hx:∀x∈t,0<=x/\x<=4)
  {l0:List ND} (hl0:l0.length+2*t.length<=4000) {m0:af} {F0:List Nat} (ih:FA s zs za os oa ar (v+1) n) :
  ∀(j k:Nat) (m:af) (F:List Nat) (R:List ND) (ids:List Nat) (x:AV) (T:List Nat),k+j=a->bB m s F (IA zs os ar) 4000 (l0++R)->GoodL ar (l0++R)->ids.length=k->(∀i (h:i<ids.length),TabV ar (l0++R) ids[i] (v+1) (part t n i))->R.length+k<=2*n*k ->
   GR 3 m x ((ids.map Int.ofNat).map (AV.int .i64)) T->(∀y∈T,y∉F/\m0.length<=y)->Fr m0 m F0->Gr m0 F0 F ->
   ∃(m':af) (F':List Nat) (r:List ND) (id:Nat),sD (.ptr s 0) (IA za oa ar) (IA z o t) (.I v) x (.I n) (.I k) m (ug (aD f62))=some (.tup [.I (id:Nat),.I 0],m') /\
    bB m' s F' (IA zs os ar) 4000 (l0++r)/\GoodL ar (l0++r)/\TabV ar (l0++r) id v t/\r.length+1<=2*t.length/\Fr m0 m' F0/\Gr m0 F0 F':=by
 have hab:=h1 _ (bp hv);have hget:ar.getD v 0=(a:Int):=by rw[aK,bn hv,bQ,ha]
 have hix:aE none (IA za oa ar) (.I v)=some (.vptr [.I a]):=by rw[fw hv,ha]
 intro j
 induction j with
 | zero=>
  intro k m F R ids x T hk h g hids htab hR hx' hT f gr;obtain rfl:k=a:=Z;obtain ⟨xz,xo,rfl,hxz⟩:=qp hx';have hb:R.length+k<=2*t.length:=by rw[ht,bU k n,<- cn];exact hR
  have hk':∀i∈ids,∃h:i<(l0++R).length,(v:Int)<bY ar.length (l0++R)[i]:=fun i hi=>by
   obtain ⟨q,hq,e⟩:=ig hi;have:=htab q hq;rw[e] at this;exact ⟨this.lt,by have:=this.top this.lt;omega⟩
  have hll:(l0++R).length<4000:=by rw[aQ];omega
  obtain ⟨r1,id,er,hr1,hr2,g2,tv⟩:=qdC g h1 hal hv (ks:=ids) (t:=t) (by rw[hids,hget]) (by rw[ht,mH hv,hget,hn];rfl) (fun q hq=>by rw[<- hn];exact htab q hq) Z
  have mk:py ar (l0++R) v (ids.map Int.ofNat)=(((id:Int),0),(l0++R)++r1):=by
   unfold py;rw[ai,er];refine ⟨Z,Z,by rw[cB,hget,bA,hids],fe.2 fun q hq=>?_⟩;obtain ⟨i,hi,rfl⟩:=ga.1 hq;obtain ⟨hi1,hi2⟩:=hk' i hi;unfold oq;simp only[cg,lc];refine ⟨⟨oJ i,show (i:Int)<((l0++R).length:Nat) by omega⟩,?_⟩;have:(Int.ofNat i).toNat=i:=rfl;rw[this,aK,bn hi1,bQ];exact hi2
  obtain ⟨m2,F2,e17,k1,k2,k3⟩:=Nr (kz:=xz) (ko:=xo) (ks:=ids.map Int.ofNat) h v (fun hh=>oQ.1 (hxz hh)) h1 hal (by rw[bA];omega) Z Z;rw[mk] at e17 k1;have e17:AC aa 34 [.ptr s 0,.I v,.lst none xz xo ((ids.map Int.ofNat).map (AV.int .i64))] m=_:=e17
  refine ⟨m2,F2,R++r1,id,?_,by rw[<- bE];exact k1,by rw[<- bE];exact g2,by rw[<- bE];exact tv,?_,Fr.trans f k2 gr,Gr.trans f.len gr k3⟩
  .rw[GX,hix,O,cr,O,bS,O,az,ag Z,Sf,e17,O]
   rfl
  .rw[aQ]
   by_cases hk1:ids.length=1
   .rw[hr2 hk1];simp;omega
   .omega
 | succ j ihj=>
  intro k m F R ids x T hk h g hids htab hR hx' hT f gr;have hka:k<a:=Z;have hkn:(k+1)*n<=t.length:=by rw[ht];exact fL _ Z
  have hkn0:k*n<=(k+1)*n:=fL _ Z;have hpl:(part t n k).length=n:=part_len ht hka
  have hR2:R.length+k+2*n<=2*t.length:=by
   have:2*n*k+2*n<=2*t.length:=by
    have e:2*n*k+2*n=2*((k+1)*n):=by rw[eW,jP,cV,cn,bU n k]
    omega
   omega
  obtain ⟨m1,F1,r1,id,e30,k1,k2,k3,k4,k5,k6⟩:=ih m F (l0++R) (part t n k) z .no h g hpl (fun y hy=>hx y (qcb y hy)) (by rw[aQ];omega);rw[hpl] at k4;have g1:GR 3 m1 x ((ids.map Int.ofNat).map (AV.int .i64)) T:=qo hx' fun y hy=>k5.get y (mq hx' y hy) (hT y hy).1;obtain ⟨x2,m2,T2,ea,g2,f2,gg2⟩:=nF (b:=8) g1 (by simp;omega) Z (.I (id:Nat))
  have hTF1:∀y∈T,y∉F1:=fun y hy hF=>by
   rcases k6 y hF with hh|hh
   .exact (hT y hy).1 hh
   .have:=mq hx' y hy;omega
  have st2:bB m2 s F1 (IA zs os ar) 4000 (l0++(R++r1)):=by
   rw[<- bE];exact k1.fr f2 fun y hy hT'=>hTF1 y hT' hy
  have e0:sD (.ptr s 0) (IA za oa ar) (IA z o t) (.I v) x (.I n) (.I k) m (ug (aD f62))=sD (.ptr s 0) (IA za oa ar) (IA z o t) (.I v) x2 (.I n) (.I (k+1:Nat)) m2 (ug (aD f62)):=by
   rw[GX,hix,O,cr,O,bS,O,az,ai hka,rJ Z,O,b6 Z,O,rJ Z,O,C3 z o t .i64 hkn,O,b6 Z,O,e30,O,kq,O,kr,O,gt,O,az,ag aq,kX,O,ea,O,O]
  rw[e0]
  refine ihj (k+1) m2 F1 (R++r1) (ids++[id]) x2 T2 Z st2 (by rw[<- bE];exact k2) (by simp[hids]) (fun i hi=>?_) ?_ (by rw[gW,gW];exact g2) (fun y hy=>?_) (Fr.trans (Fr.trans f k5 gr) f2 fun y hy=>.inr (hT y hy).2) (Gr.trans f.len gr k6)
  .rw[<- bE]
   by_cases hi2:i<ids.length
   .rw[List.getElem_append_left hi2];exact (htab i hi2).app g r1
   .have:i=ids.length:=by simp at hi;omega
    subst this;have e:(ids++[id])[ids.length]'(by simp)=id:=aq;rw[e,hids];exact k3
  .rw[aQ,cV,ii];omega
  .rcases gg2 y hy with hh|hh
   .exact ⟨hTF1 y hh,(hT y hh).2⟩
   .have l1:=f.len;have l2:=k5.len;exact ⟨fun hF=>by have:=k1.lt y hF;omega,Z⟩
theorem Nz{s:Nat}{zs za:Bool}{os oa:Own}{ar:List Int}(h1:∀x∈ar,1<=x/\x<=64)(hal:ar.length<=16)(hp:aN ar<=300):∀(d v:Nat),v+d=ar.length->aN (ar.drop v)<=300->FA s zs za os oa ar v (aN (ar.drop v)):=by
 intro d
 induction d with
 | zero=>
  intro v hv hpv m F l t z o h g ht hx hl;obtain rfl:v=ar.length:=Z;rw[List.drop_length] at ht hl;have ht:t.length=1:=ht;obtain ⟨y,rfl⟩:∃y,t=[y]:=List.length_eq_one_iff.1 ht;have hy:=hx y aq;have hl:l.length+2<=4000:=hl;obtain ⟨r,er,hr,g2,tv⟩:=KC g (x:=y) ⟨hy.1,Z⟩;obtain ⟨m2,F2,e15,k1,k2,k3⟩:=Fk h y Z Z;rw[px,ai ⟨hy.1,Z⟩] at e15 k1;dsimp only at e15 k1;rw[er] at k1;refine ⟨m2,F2,r,_,?_,k1,g2,tv,by simp;omega,k2,k3⟩;rw[Ic,fc,O,vQ,O,az,ai rfl,vF aq,O,cr,O];have e15:AC aa 33 [.ptr s 0,.int .i64 [y][0]] m=_:=e15;rw[e15,O]
  rfl
 | succ d ih=>
  intro v hv hpv m F l t z o h g ht hx hl;have hvl:v<ar.length:=Z;have hab:=h1 _ (bp hvl);obtain ⟨a,ha⟩:=jO (by omega:0<=ar[v]);have hget:ar.getD v 0=(a:Int):=by rw[aK,bn hvl,bQ,ha]
  have hps:aN (ar.drop v)=a*aN (ar.drop (v+1)):=by rw[mH hvl,hget];rfl
  have hn0:1<=aN (ar.drop (v+1)):=qD fun x hx=>(h1 x (List.drop_subset _ _ hx)).1
  have hle:aN (ar.drop (v+1))<=aN (ar.drop v):=by
   rw[hps];exact Nat.le_mul_of_pos_left _ Z
  have ihv:=ih (v+1) Z Z;have hta:t.length=a*aN (ar.drop (v+1)):=by rw[ht,hps]
  obtain ⟨m',F',r,id,e,k⟩:=WG (z:=z) (o:=o) (m0:=m) (F0:=F) hvl ha h1 hal hta rfl hn0 Z hx (l0:=l) Z ihv a 0 m F [] [] aw [] Z (by rw[aW];exact h) (by rw[aW];exact g) rfl (fun i hi=>by simp at hi) aq .none aq (Fr.refl _ _) (Gr.refl _ _);refine ⟨m',F',r,id,?_,k⟩;have hix:aE none (IA za oa ar) (.I v)=some (.vptr [.I a]):=by rw[fw hvl,ha]
  have hdiv:t.length/a=aN (ar.drop (v+1)):=by rw[hta,Nat.mul_div_cancel_left _ Z]
  rw[Ic,fc,O,vQ,O,az,ag Z,fc,O,hix,O,cr,O,D8 Z Z,O,hdiv];exact e
theorem Ny{za z:Bool}{oa o:Own}{ar t:List Int}(m:af)(hz:za=true->ar=[])(he:jE ar=0)(hp:aN ar<=300)(ht:t.length=aN ar)(hx:∀x∈t,0<=x/\x<=4) :
  ∃m' s F zs os l id,AC aa 15 [IA za oa ar,IA z o t] m=some (.tup [.ptr s 0,.I (id:Nat),.bool true],m')/\bB m' s F (IA zs os ar) 4000 l/\GoodL ar l/\TabV ar l id 0 t/\l.length<=600/\Fr m m' []/\(∀x∈F,m.length<=x)/\(zs=true->ar=[]):=by
 obtain ⟨h1,h2⟩:=re he;obtain ⟨m1,s,F,zs,os,e14,st,f1,hF,hzz⟩:=Fj m za oa ar hz he;obtain ⟨m2,F2,r,id,e30,k1,k2,k3,k4,k5,k6⟩:=Nz (s:=s) (zs:=zs) (za:=za) (os:=os) (oa:=oa) h2 h1 hp ar.length 0 Z hp m1 F [] t z o st J9 ht hx (by simp;have:aN (ar.drop 0)=aN ar:=rfl;omega);rw[bX] at k1 k2 k3;have e30:AC aa 62 [.ptr s 0,IA za oa ar,IA z o t,.I 0] m1=_:=e30
 refine ⟨m2,s,F2,zs,os,r,id,?_,k1,k2,k3,Z,(Fr.trans f1 k5 fun x hx=>.inr (hF x hx)),fun x hx=>?_,hzz⟩
 .rw[Ux,e14,O,kq,O,kr,O,gt,O,az,ag aq,e30,O]
  rfl
 .rcases k6 x hx with hh|hh
  .exact hF x hh
  .have:=f1.len;omega
end Go.Ab
namespace Go.Ab
def tT(l:List ND):Nat->Nat->List Nat->List Nat
 | 0,_,out=>out
 | n+1,id,out=>if id∈out then out else match l[id]? with
  | none=>out
  | some x=>(x.kids.foldl (fun o k=>tT l n k.toNat o) out)++[id]
def Vi(l:List ND)(id:Nat)(out:List Nat):List Nat:=tT l (id+1) id out
def fI(l:List ND)(ks:List Int)(out:List Nat):List Nat:=ks.foldl (fun o k=>Vi l k.toNat o) out
theorem Dp{α β:Type}{f g:β->α->β}:∀(l:List α) (b:β),(∀x∈l,∀b,f b x=g b x)->l.foldl f b=l.foldl g b
 | [],_,_=>rfl
 | x::l,b,h=>by
  rw[oO,oO,h x cF,Dp l _ fun y hy=>h y (cP _ hy)]
section
variable {ar:List Int} {l:List ND}
theorem mw(g:GoodL ar l){i:Nat}(hi:i<l.length):∀k∈l[i].kids,∃t:Nat,k=t/\t<i:=fun k hk=>by
 by_cases hv:0<=l[i].var
 .obtain ⟨t,e,ht,_⟩:=g.kid i hi hv k hk;exact ⟨t,e,ht⟩
 .rcases g.ok _ (bp hi) with ⟨_,h2,_⟩|⟨h1,_⟩
  .rw[h2] at hk;cases hk
  .omega
theorem Ng(g:GoodL ar l):∀(n id m:Nat) (out:List Nat),id<l.length->id<n->id<m->tT l n id out=tT l m id out
 | 0,id,m,_,_,h,_=>Z
 | n+1,id,0,_,_,_,h=>Z
 | n+1,id,m+1,out,hi,_,_=>by
  simp only[tT,bn hi];rw[Dp l[id].kids out fun k hk b=>?_];obtain ⟨t,rfl,ht⟩:=mw g hi k hk;exact Ng g n _ m b Z (by simp;omega) (by simp;omega)
theorem n6(g:GoodL ar l){id:Nat}(hi:id<l.length)(out:List Nat):Vi l id out=if id∈out then out else fI l l[id].kids out++[id]:=by
 unfold Vi fI;rw[tT,bn hi];dsimp only;rw[Dp l[id].kids out fun k hk b=>?_];obtain ⟨t,rfl,ht⟩:=mw g hi k hk;exact Ng g id _ _ b Z (by simp;omega) (by simp[Vi])
theorem Wc(out:List Nat):fI l [] out=out:=rfl
theorem sW(k:Int)(ks:List Int)(out:List Nat):fI l (k::ks) out=fI l ks (Vi l k.toNat out):=rfl
structure Cl (l:List ND) (out:List Nat):Prop where
 nd:out.Nodup
 lt:∀j∈out,j<l.length
 cl:∀i (h:i<out.length) (hj:out[i]<l.length),∀k∈l[out[i]].kids,k.toNat∈out.take i
theorem lL:Cl l []:=⟨aq,aq,fun i h=>by simp at h⟩
theorem Cl.kids{out:List Nat}(h:Cl l out){j:Nat}(hj:j∈out)(hl:j<l.length):∀k∈l[j].kids,k.toNat∈out:=fun k hk=>by
 obtain ⟨i,hi,e⟩:=ig hj;subst e;exact List.take_subset _ _ (h.cl i hi hl k hk)
theorem Cl.snoc{out:List Nat}(h:Cl l out){id:Nat}(hi:id<l.length)(hn:id∉out)(hk:∀k∈l[id].kids,k.toNat∈out):Cl l (out++[id]):=by
 refine ⟨?_,fun j hj=>?_,fun i h2 hj k hk2=>?_⟩
 .rw[List.nodup_append]
  exact ⟨h.nd,aq,fun a ha b hb e=>by
   obtain rfl:b=id:=by simpa using hb
   exact hn (e▸ha)⟩
 .rcases cI.1 hj with hj|hj
  .exact h.lt j hj
  .obtain rfl:j=id:=by simpa using hj
   exact hi
 .by_cases hil:i<out.length
  .rw[List.take_append_of_le_length Z];refine h.cl i hil (h.lt _ (bp hil)) k ?_;have e:(out++[id])[i]=out[i]:=List.getElem_append_left hil;rw[List.getElem_of_eq rfl] at hk2;have:∀(y:Nat) (hy:y<l.length),y=out[i]->k∈l[y].kids->k∈(l[out[i]]'(h.lt _ (bp hil))).kids:=fun y hy e h=>by subst e;exact h
   exact this _ hj e hk2
  .have hie:i=out.length:=by simp at h2;omega
   subst hie;have e:(out++[id])[out.length]=id:=aq;have:∀(y:Nat) (hy:y<l.length),y=id->k∈l[y].kids->k∈l[id].kids:=fun y hy e h=>by subst e;exact h
   have:=hk k (this _ hj e hk2);simpa using this
theorem kV(g:GoodL ar l):∀id,id<l.length->∀out,Cl l out->Cl l (Vi l id out)/\id∈Vi l id out/\∃r,Vi l id out=out++r/\∀y∈r,y<=id:=by
 intro id
 induction id using Nat.strongRecOn with
 | ind id ih=>
  intro hi out hc
  have key:∀(ks:List Int),(∀k∈ks,∃t:Nat,k=t/\t<id)->∀out,Cl l out->Cl l (fI l ks out)/\(∀k∈ks,k.toNat∈fI l ks out)/\∃r,fI l ks out=out++r/\∀y∈r,y<id:=by
   intro ks
   induction ks with
   | nil=>intro _ out hc;exact ⟨hc,aq,[],by simp[fI],aq⟩
   | cons k ks ihk=>
    intro hk out hc;obtain ⟨t,rfl,ht⟩:=hk k cF;obtain ⟨a1,a2,r1,a3,a4⟩:=ih t ht Z out hc;obtain ⟨b1,b2,r2,b3,b4⟩:=ihk (fun k hk'=>hk k (cP _ hk')) _ a1;rw[sW,cB]
    refine ⟨b1,fun k hk'=>?_,r1++r2,by rw[b3,a3,bE],fun y hy=>?_⟩
    .rcases cE.1 hk' with rfl|hk'
     .rw[b3];exact qV _ (by simpa using a2)
     .exact b2 k hk'
    .rcases cI.1 hy with hy|hy
     .have:=a4 y hy;omega
     .exact b4 y hy
  rw[n6 g hi]
  by_cases hm:id∈out
  .rw[ai hm];exact ⟨hc,hm,[],aq,aq⟩
  .rw[ag hm];obtain ⟨b1,b2,r,b3,b4⟩:=key l[id].kids (fun k hk=>mw g hi k hk) out hc
   refine ⟨b1.snoc hi (fun h=>?_) b2,aq,r++[id],by rw[b3,bE],fun y hy=>?_⟩
   .rw[b3] at h
    rcases cI.1 h with h|h
    .exact hm h
    .have:=b4 _ h;omega
   .rcases cI.1 hy with hy|hy
    .have:=b4 y hy;omega
    .have:y=id:=by simpa using hy
     omega
theorem CG(g:GoodL ar l){id:Nat}(hi:id<l.length):∀(ks:List Int),(∀k∈ks,∃t:Nat,k=t/\t<id)->∀out,Cl l out->Cl l (fI l ks out)/\(∀k∈ks,k.toNat∈fI l ks out)/\∃r,fI l ks out=out++r/\∀y∈r,y<id:=by
 intro ks
 induction ks with
 | nil=>intro _ out hc;exact ⟨hc,aq,[],by simp[fI],aq⟩
 | cons k ks ihk=>
  intro hk out hc;obtain ⟨t,rfl,ht⟩:=hk k cF;obtain ⟨a1,a2,r1,a3,a4⟩:=kV g t Z out hc;obtain ⟨b1,b2,r2,b3,b4⟩:=ihk (fun k hk'=>hk k (cP _ hk')) _ a1;rw[sW,cB]
  refine ⟨b1,fun k hk'=>?_,r1++r2,by rw[b3,a3,bE],fun y hy=>?_⟩
  .rcases cE.1 hk' with rfl|hk'
   .rw[b3];exact qV _ (by simpa using a2)
   .exact b2 k hk'
  .rcases cI.1 hy with hy|hy
   .have:=a4 y hy;omega
   .exact b4 y hy
theorem IF(g:GoodL ar l):∀(ks:List Int) (out:List Nat),(∀k∈ks,k.toNat∈out/\k.toNat<l.length)->fI l ks out=out
 | [],_,_=>rfl
 | k::ks,out,h=>by
  obtain ⟨h1,h2⟩:=h k cF;rw[sW,n6 g h2,ai h1];exact IF g ks out fun k hk=>h k (cP _ hk)
theorem IE(g:GoodL ar l){id:Nat}(hi:id<l.length){out:List Nat}(hc:Cl l out):Vi l id out=if id∈fI l l[id].kids out then fI l l[id].kids out else fI l l[id].kids out++[id]:=by
 rw[n6 g hi]
 by_cases hm:id∈out
 .rw[IF g _ _ fun k hk=>⟨hc.kids hm hi k hk,hc.lt _ (hc.kids hm hi k hk)⟩,ai hm]
  try rw[ai hm]
 .obtain ⟨b1,b2,r,b3,b4⟩:=CG g hi l[id].kids (fun k hk=>mw g hi k hk) out hc;rw[ag hm,ag];intro h;rw[b3] at h
  rcases cI.1 h with h|h
  .exact hm h
  .have:=b4 _ h;omega
def nd(l:List ND)(out:List Nat)(id:Nat):ND:=⟨(l.getD id ⟨0,[],0⟩).var,(l.getD id ⟨0,[],0⟩).kids.map (fun k=>((out.idxOf k.toNat:Nat):Int)),(l.getD id ⟨0,[],0⟩).leaf⟩
def fR(l:List ND)(out:List Nat):List ND:=out.map (nd l out)
theorem fK{id:Nat}(hi:id<l.length):l.getD id ⟨0,[],0⟩=l[id]:=by rw[aK,bn hi,bQ]
theorem Ec{out:List Nat}{id:Nat}(hi:id<l.length)(hk:∀k∈l[id].kids,k.toNat∈out)(r:List Nat):nd l (out++r) id=nd l out id:=by
 unfold nd;rw[fK hi];congr 1;refine List.map_congr_left fun k hk'=>?_;rw[List.idxOf_append,ai (hk k hk')]
theorem K4{out:List Nat}(hc:Cl l out){id:Nat}(hi:id<l.length)(hk:∀k∈l[id].kids,k.toNat∈out):fR l (out++[id])=fR l out++[nd l out id]:=by
 unfold fR;rw[gW,cU,mc,Ec hi hk];congr 1;exact List.map_congr_left fun j hj=>Ec (hc.lt j hj) (hc.kids hj (hc.lt j hj)) [id]
theorem qaM{out:List Nat}{a b:Nat}(ha:a∈out)(hb:b∈out)(e:out.idxOf a=out.idxOf b):a=b:=by
 have h1:=List.getElem_idxOf (List.idxOf_lt_length_of_mem ha);have h2:=List.getElem_idxOf (List.idxOf_lt_length_of_mem hb);rw[<- h1,<- h2];simp only[e]
theorem Lg(g:GoodL ar l){out:List Nat}{i j:Nat}(hi:i<l.length)(hj:j<l.length)(hki:∀k∈l[i].kids,k.toNat∈out)(hkj:∀k∈l[j].kids,k.toNat∈out)(e:nd l out i=nd l out j):i=j:=by
 unfold nd at e;rw[fK hi,fK hj] at e
 injection e with e1 e2 e3
 have hk:l[i].kids=l[j].kids:=by
  have hl:l[i].kids.length=l[j].kids.length:=by have:=cA List.length e2;simpa using this
  refine List.ext_getElem hl fun q h1 h2=>?_;have h3:=List.getElem_of_eq e2 (i:=q) (by simpa using h1);rw[kf,kf] at h3;have h4:=qaM (hki _ (bp h1)) (hkj _ (bp h2)) Z;obtain ⟨a,ea,_⟩:=mw g hi _ (bp h1);obtain ⟨b,eb,_⟩:=mw g hj _ (bp h2);omega
 have en:l[i]=l[j]:=by
  generalize l[i]=x at *;generalize l[j]=y at *;obtain ⟨xv,xk,xl⟩:=x;obtain ⟨yv,yk,yl⟩:=y;simp only at e1 e3 hk;rw[e1,e3,hk]
 exact rN g.nd hi hj en
theorem qbI(g:GoodL ar l){out:List Nat}(hc:Cl l out){id:Nat}(hi:id<l.length)(hk:∀k∈l[id].kids,k.toNat∈out):nd l out id∈fR l out↔id∈out:=by
 unfold fR;rw[ga]
 constructor
 .rintro ⟨j,hj,e⟩;have:=Lg g (hc.lt j hj) hi (hc.kids hj (hc.lt j hj)) hk e;exact this▸hj
 .intro h;exact ⟨id,h,rfl⟩
theorem qbH(g:GoodL ar l){out:List Nat}(hc:Cl l out){id:Nat}(hi:id<l.length)(hk:∀k∈l[id].kids,k.toNat∈out):(fR l out).idxOf (nd l out id)=out.idxOf id:=by
 have key:∀(p:List Nat),(∀j∈p,j∈out)->(p.map (nd l out)).idxOf (nd l out id)=p.idxOf id:=by
  intro p
  induction p with
  | nil=>intro _;rfl
  | cons j p ih=>
   intro h;have hj:=h j cF;rw[cU,List.idxOf_cons,List.idxOf_cons,ih fun q hq=>h q (cP _ hq)]
   have:(nd l out j==nd l out id)=(j==id):=by
    by_cases e:j=id
    .subst e;simp
    .have:nd l out j≠nd l out id:=fun h=>e (Lg g (hc.lt j hj) hi (hc.kids hj (hc.lt j hj)) hk h);rw[beq_eq_false_iff_ne.2 e,beq_eq_false_iff_ne.2 this]
   rw[this]
 exact key out fun _ h=>h
theorem L5(g:GoodL ar l){out:List Nat}(hc:Cl l out){id:Nat}(hi:id<l.length)(hk:∀k∈l[id].kids,k.toNat∈out) :
  gg (fR l out) (nd l out id)=fR l (if id∈out then out else out++[id])/\(fR l out).idxOf (nd l out id)=(if id∈out then out else out++[id]).idxOf id:=by
 have hm:=qbI g hc hi hk;rw[qbH g hc hi hk];unfold gg
 by_cases h:id∈out
 .rw[ai (hm.2 h),ai h];exact ⟨rfl,rfl⟩
 .rw[ag (fun hh=>h (hm.1 hh)),ag h,K4 hc hi hk,List.idxOf_append,ag h];refine ⟨rfl,?_⟩;rw[List.idxOf_eq_length h];simp
theorem qdB{id v:Nat}{t:List Int}(hv:v<=ar.length)(h:TabV ar l id v t){a:Nat->Nat}(ha:cO ar a):S l a id∈t:=by
 rw[h.val a ha];have:=om ha (ar.length-v) v Z;rw[aK,bn (by rw[h.len];exact this),bQ];exact bp _
theorem ZU(g:GoodL ar l)(h1:∀x∈ar,1<=x){id v:Nat}{t:List Int}(hv:v<=ar.length)(h:TabV ar l id v t){c:Int}(hc:∀y∈t,y=c):l.getD id ⟨0,[],0⟩=gC c:=by
 have hi:=h.lt;rw[fK hi];have hS:∀a,cO ar a->S l a id=c:=fun a ha=>hc _ (qdB hv h ha)
 have hn:l[id].var<0:=by
  refine Decidable.byContradiction fun hn=>?_;have hv0:0<=l[id].var:=Z;have hvt:((l[id].var.toNat:Nat):Int)=l[id].var:=Z;have a0:=rf h1;have hlt:=(g.var id hi hv0).1
  obtain ⟨t0,e0,ht0,_⟩:=jW g hi hv0 (k:=0) (by
   have:=h1 (ar[l[id].var.toNat]) (bp Z)
   rw[aK,bn Z,bQ];omega)
  have all:∀k:Nat,(k:Int)<ar.getD l[id].var.toNat 0->∀a,cO ar a->S l a (l[id].kids.getD k 0).toNat=c:=fun k hk a ha=>by
   rw[<- sV g ha hi (v:=l[id].var.toNat) (k:=k) hvt.symm hk];exact hS _ (ha.upd hk)
  refine Eg g h1 hi (j:=t0) hv0 fun k hk=>?_;obtain ⟨tk,ek,htk,_⟩:=jW g hi hv0 hk;rw[ek];congr 1;refine canon g h1 _ tk t0 Z Z (Nat.lt_succ_self _) fun a ha=>?_;have x1:=all k hk a ha
  have x2:=all 0 (by
   have:=h1 (ar[l[id].var.toNat]) (bp Z)
   rw[aK,bn Z,bQ];omega) a ha
  rw[ek,cB] at x1;rw[e0,cB] at x2;rw[x1,x2]
 have hl:l[id].leaf=c:=by rw[<- hS _ (rf h1),mT hi hn]
 rcases g.ok _ (bp hi) with ⟨b1,b2,_⟩|⟨b1,_⟩
 .generalize l[id]=x at *;obtain ⟨xv,xk,xl⟩:=x;simp only at b1 b2 hl;rw[b1,b2,hl];rfl
 .omega
theorem AE{id v:Nat}{t:List Int}(hv:v<ar.length)(h:TabV ar l id v t){a:Nat->Nat}(ha:cO ar a){k:Nat}(hk:(k:Int)<ar.getD v 0):S l (upd a v k) id=(part t (aN (ar.drop (v+1))) k).getD (dd (ar.drop (v+1)) (v+1) a) 0:=by
 have hn:=om ha (ar.length-(v+1)) (v+1) Z;rw[h.val _ (ha.upd hk),LD hn,nb hv,DB (ar.length-(v+1)) (v+1) Z Z];have:upd a v k v=k:=by unfold upd;rw[ai rfl]
 rw[this]
theorem Ad(h1:∀x∈ar,1<=x){v:Nat}{t:List Int}(hv:v<ar.length)(ht:t.length=aN (ar.drop v)){k:Nat}(hk:(k:Int)<ar.getD v 0):(part t (aN (ar.drop (v+1))) k).length=aN (ar.drop (v+1)):=by
 rw[mH hv] at ht;exact part_len ht Z
theorem E6(g:GoodL ar l)(h1:∀x∈ar,1<=x){id v:Nat}{t:List Int}(hv:v<ar.length)(h:TabV ar l id v t)(hi:id<l.length)(hvar:l[id].var=v){k:Nat}(hk:(k:Int)<ar.getD v 0):TabV ar l (l[id].kids.getD k 0).toNat (v+1) (part t (aN (ar.drop (v+1))) k):=by
 have hvt:l[id].var.toNat=v:=Z;obtain ⟨q,e,hq,h2⟩:=jW g hi Z (k:=k) (by rw[hvt];exact hk)
 refine ⟨Ad h1 hv h.len hk,by rw[e];simp;omega,fun hh=>?_,fun a ha=>?_⟩
 .have:=h2 Z;have e2:(l[id].kids.getD k 0).toNat=q:=by rw[e];simp
  have:∀(y:Nat) (hy:y<l.length),y=q->(((v+1:Nat)):Int)<=bY ar.length l[y]:=fun y hy ey=>by subst ey;omega
  exact this _ hh e2
 .rw[<- sV g ha hi hvar hk];exact AE hv h ha hk
theorem qal(g:GoodL ar l)(h1:∀x∈ar,1<=x){id v:Nat}{t:List Int}(hv:v<ar.length)(h:TabV ar l id v t)(hf:∀k:Nat,(k:Int)<ar.getD v 0->part t (aN (ar.drop (v+1))) k=part t (aN (ar.drop (v+1))) 0):TabV ar l id (v+1) (part t (aN (ar.drop (v+1))) 0):=by
 have hi:=h.lt
 have hav:1<=ar.getD v 0:=by
  rw[aK,bn hv,bQ];exact h1 _ (bp hv)
 have hne:l[id].var≠v:=fun hvar=>by
  have hvt:l[id].var.toNat=v:=Z;refine Eg g h1 hi (j:=(l[id].kids.getD 0 0).toNat) Z fun k hk=>?_;rw[hvt] at hk;obtain ⟨q,e,hq,_⟩:=jW g hi Z (k:=k) (by rw[hvt];exact hk);have t1:=E6 g h1 hv h hi hvar hk;have t0:=E6 g h1 hv h hi hvar (k:=0) Z;rw[hf k hk] at t1;have:=qdE g h1 t1 t0;rw[<- this,e];simp
 have htop:=h.top hi
 have hlt:(v:Int)<bY ar.length l[id]:=by
  unfold bY at htop ⊢
  split
  .rename_i hh;rw[ai hh] at htop;omega
  .omega
 refine ⟨Ad h1 hv h.len Z,hi,fun _=>Z,fun a ha=>?_⟩;have hk:=ha v hv;rw[<- hf (a v) hk,<- AE hv h ha hk,p8 g ha hk id hi hlt]
theorem qbM(g:GoodL ar l)(h1:∀x∈ar,1<=x){id v:Nat}{t:List Int}(hv:v<ar.length)(h:TabV ar l id v t)(hi:id<l.length)(hf:¬ ∀k:Nat,(k:Int)<ar.getD v 0->part t (aN (ar.drop (v+1))) k=part t (aN (ar.drop (v+1))) 0):l[id].var=v:=by
 refine Decidable.byContradiction fun hne=>hf fun k hk=>?_;have htop:=h.top hi
 have hav:1<=ar.getD v 0:=by
  rw[aK,bn hv,bQ];exact h1 _ (bp hv)
 have hlt:(v:Int)<bY ar.length l[id]:=by
  unfold bY at htop ⊢
  split
  .rename_i hh;rw[ai hh] at htop;omega
  .omega
 have e1:=Ad h1 hv h.len hk;have e0:=Ad h1 hv h.len (k:=0) Z;refine KL (e1.trans e0.symm) fun q hq=>?_;obtain ⟨a,ha,e⟩:=DA h1 (ar.length-(v+1)) (v+1) q Z (by rw[<- e1];exact hq);rw[<- e,<- AE hv h ha hk,<- AE hv h ha (k:=0) Z,p8 g ha hk id hi hlt,p8 g ha Z id hi hlt]
end
end Go.Ab
namespace Go.Ab
noncomputable section
variable (a0 a1 a2 x0 x1 x2 x3 x4 x5 x6 x7 x8 x9 x10 x11 x12 x13 x15 x16 x17 x22 x23 x24 x100 x101 x102:AV) (m:af) (K:KT)
open Go.Proofs.Tryz
def Cb:St:=⟨(bm (bh (aH []))),m⟩
def uO:St:=⟨(aJ (x4::bm (aO (aJ (aG []))))),m⟩
def xJ:OM:=bD 18 (bI (c2 (c2 (aA f18)))) 4 (x0::aO (aJ (aH (x15::x16::x17::bm [])))) m K
def Cc:St:=⟨(x0::aJ (x5::x6::x7::aJ (aH (aG (x15::x16::x17::bm []))))),m⟩
def yD:St:=⟨(aJ (x4::bm (aO (aJ (aG []))))),m⟩
def xK:OM:=bD 18 (bI (jf (jf (kZ (aA f18))))) 8 (x0::aJ (x5::x6::x7::aJ (aH (aG (x15::x16::x17::aJ (x22::x23::x24::bh (aO (aG [])))))))) m K
abbrev Q9:KT:=bi 18 (c2 (c2 (c2 (aA f18)))) K
abbrev Ra:KT:=be 0 (Q9 K)
abbrev Bp:KT:=(Ra K)
abbrev Re:KT:=bi 18 (js (kn (c2 (aA f18)))) (kI 18 (bI (c2 (c2 (aA f18)))) 4 K)
abbrev Rf:KT:=be 1 (Re K)
abbrev Rg:KT:=bi 18 (js (s9 (kn (c2 (aA f18))))) (Rf K)
abbrev Rh:KT:=be 2 (Rg K)
abbrev wV:KT:=(Rh K)
theorem UK:AC aa 18 [a0,a1] m=(aL false a1).bind fun v1=>(aL false a0).bind fun v2=>(ae .o .neq v1 v2).bind fun v3=>au v3 (some ((.bool false),m)) ((aL false a1).bind fun v4=>xJ a0 a1 v4 (.I 0) m (Bp (aD f18))):=
(aZ aa 18 [a0,a1] m (fn:=f18) (c:=aA f18) Yg rfl).trans aj
theorem GD:xJ x0 x15 x16 x17 m K=(ae .o .lss x17 x16).bind fun v1=>au v1 ((aE none x15 x17).bind fun v2=>(am none m v2).bind fun v3=>(aL false v3).bind fun v4=>xK x0 x17 v3 (.I 0) x15 x16 x17 v3 v4 (.I 0) m (wV K)) (K (.exit 0) (Cb m)):=
(bC (bw _) _ _ _).trans aj
theorem GE:xK x0 x5 x6 x7 x15 x16 x17 x22 x23 x24 m K=(ae .o .lss x24 x23).bind fun v1=>au v1 ((aE none x22 x24).bind fun v2=>(am none m v2).bind fun v3=>(ae .o .lss v3 (.I 0)).bind fun v4=>au v4 (K .ret (yD (.bool false) m)) ((ae .o .gtr v3 (.I 1000)).bind fun v5=>au v5 (K .ret (yD (.bool false) m)) ((ae .o .add x7 v3).bind fun v6=>(ae .o .add x24 (.I 1)).bind fun v7=>xK x0 x5 x6 v6 x15 x16 x17 x22 x23 v7 m K))) (K (.exit 2) (Cc x0 x5 x6 x7 x15 x16 x17 m)):=
(bC (bw _) _ _ _).trans aj
theorem Rd:Bp (aD f18) (.exit 0) (Cb  m)=some ((.bool true),m):=aj
theorem Rb:Bp (aD f18) .ret (uO x4 m)=some (x4,m):=aj
theorem Rj:wV K (.exit 2) (Cc x0 x5 x6 x7 x15 x16 x17 m)=(aL false x6).bind fun v1=>(aE none x0 x5).bind fun v2=>(am none m v2).bind fun v3=>(ae .o .neq v1 v3).bind fun v4=>au v4 (K .ret (uO (.bool false) m)) ((ae .o .eql x7 (.I 0)).bind fun v5=>au v5 (K .ret (uO (.bool false) m)) ((ae .o .add x17 (.I 1)).bind fun v6=>xJ x0 x15 x16 v6 m K)):=aj
theorem Ri:wV K .ret (yD x4 m)=K .ret (uO x4 m):=aj
def HD:St:=⟨(aH (aG (x3::aO (aJ (aH []))))),m⟩
def xU:OM:=bD 54 (bI (c2 (c2 (aA f54)))) 3 (x0::aH (x3::x4::aO (aJ (aG [])))) m K
abbrev Sa:KT:=bi 54 (c2 (c2 (c2 (aA f54)))) K
abbrev Sb:KT:=be 0 (Sa K)
abbrev Bu:KT:=(Sb K)
theorem U4:AC aa 54 [a0] m=xU a0 aw (.I 0) m (Bu (aD f54)):=
(aZ aa 54 [a0] m (fn:=f54) (c:=aA f54) YI rfl).trans aj
theorem GW:xU x0 x3 x4 m K=(aF (AP aa) none m 12 [x0,(.I 1048576)]).bind fun r1=>(ae .o .lss x4 r1.1).bind fun v2=>au v2 ((AC aa 115 [x0,x4] r1.2).bind fun r3=>(cq none [r3.1]).bind fun v4=>(bF none true 22 none 24 r3.2 x3 v4).bind fun r5=>(ae .o .add x4 (.I 1)).bind fun v6=>xU x0 r5.1 v6 r5.2 K) (K (.exit 0) (HD x3 r1.2)):=
(bC (bw _) _ _ _).trans aj
theorem Sc:Bu (aD f54) (.exit 0) (HD x3 m)=some (x3,m):=aj
def Hk:St:=⟨(aJ (aG (x5::bh (aO (aH (aG [])))))),m⟩
def xc:OM:=bD 115 (bI (c2 (c2 (aA f115)))) 3 (x0::x1::aH (aG (x5::x6::bh (aO (aH []))))) m K
abbrev Oi:KT:=bi 115 (c2 (c2 (c2 (aA f115)))) K
abbrev Oj:KT:=be 0 (Oi K)
abbrev AZ:KT:=(Oj K)
theorem Ub:AC aa 115 [a0,a1] m=(aL false a0).bind fun v1=>(fU none 3 none (.I 0) 8 m v1 v1).bind fun r2=>(aL false a0).bind fun v3=>(ae .o .sub v3 (.I 1)).bind fun v4=>xc a0 a1 r2.1 v4 r2.2 (AZ (aD f115)):=
(aZ aa 115 [a0,a1] m (fn:=f115) (c:=aA f115) Xv rfl).trans aj
theorem FU:xc x0 x1 x5 x6 m K=(ae .o .geq x6 (.I 0)).bind fun v1=>au v1 ((aE none x0 x6).bind fun v2=>(am none m v2).bind fun v3=>(ae .o .rem x1 v3).bind fun v4=>(aE none x5 x6).bind fun v5=>(aM none m v5 v4).bind fun m6=>(aE none x0 x6).bind fun v7=>(am none m6 v7).bind fun v8=>(ae .o .quo x1 v8).bind fun v9=>(ae .o .sub x6 (.I 1)).bind fun v10=>xc x0 v9 x5 v10 m6 K) (K (.exit 0) (Hk x5 m)):=
(bC (bw _) _ _ _).trans aj
theorem Ok:AZ (aD f115) (.exit 0) (Hk x5 m)=some (x5,m):=aj
def HJ:St:=⟨(aJ (aG (x5::bh (aH (aG []))))),m⟩
def yd:OM:=bD 87 (bI (c2 (c2 (aA f87)))) 3 (x0::x1::aH (aG (x5::aH (x8::x9::aO (aJ (aH (aG []))))))) m K
abbrev SY:KT:=bi 87 (c2 (c2 (c2 (aA f87)))) K
abbrev SZ:KT:=be 0 (SY K)
abbrev BC:KT:=(SZ K)
theorem Vq:AC aa 87 [a0,a1] m=(aL false a0).bind fun v1=>yd a0 a1 (.I 0) v1 (.I 0) m (BC (aD f87)):=
(aZ aa 87 [a0,a1] m (fn:=f87) (c:=aA f87) Zb rfl).trans aj
theorem Hd:yd x0 x1 x5 x8 x9 m K=(ae .o .lss x9 x8).bind fun v1=>au v1 ((aE none x0 x9).bind fun v2=>(am none m v2).bind fun v3=>(ae .o .mul x5 v3).bind fun v4=>(aE none x1 x9).bind fun v5=>(am none m v5).bind fun v6=>(ae .o .add v4 v6).bind fun v7=>(ae .o .add x9 (.I 1)).bind fun v8=>yd x0 x1 v7 x8 v8 m K) (K (.exit 0) (HJ x5 m)):=
(bC (bw _) _ _ _).trans aj
theorem S0:BC (aD f87) (.exit 0) (HJ x5 m)=some (x5,m):=aj
def Hr:St:=⟨(bh (aO (aH []))),m⟩
def HT:St:=⟨(aJ (x4::bh (aJ (aG [])))),m⟩
def xy:OM:=bD 144 (bI (c2 (c2 (aA f144)))) 4 (x0::x1::aO (aH (x12::x13::aO (aJ [])))) m K
abbrev PI:KT:=bi 144 (c2 (c2 (c2 (aA f144)))) K
abbrev PJ:KT:=be 0 (PI K)
abbrev wO:KT:=(PJ K)
theorem Uw:AC aa 144 [a0,a1] m=(aL false a0).bind fun v1=>(aL false a1).bind fun v2=>(ae .o .neq v1 v2).bind fun v3=>au v3 (some ((.bool false),m)) ((aL false a0).bind fun v4=>xy a0 a1 v4 (.I 0) m (wO (aD f144))):=
(aZ aa 144 [a0,a1] m (fn:=f144) (c:=aA f144) XU rfl).trans aj
theorem Gi:xy x0 x1 x12 x13 m K=(ae .o .lss x13 x12).bind fun v1=>au v1 ((aE none x0 x13).bind fun v2=>(am none m v2).bind fun v3=>(aE none x1 x13).bind fun v4=>(am none m v4).bind fun v5=>(ae .o .neq v3 v5).bind fun v6=>au v6 (K .ret (HT (.bool false) m)) ((ae .o .add x13 (.I 1)).bind fun v7=>xy x0 x1 x12 v7 m K)) (K (.exit 0) (Hr m)):=
(bC (bw _) _ _ _).trans aj
theorem PL:wO (aD f144) (.exit 0) (Hr  m)=some ((.bool true),m):=aj
theorem PK:wO (aD f144) .ret (HT x4 m)=some (x4,m):=aj
def Hq:St:=⟨(bh (aG [])),m⟩
def HS:St:=⟨(aH (x2::aO (aJ (aH [])))),m⟩
def xw:OM:=bD 143 (bI (c2 (aA f143))) 2 (x0::aJ (x5::x6::x7::aO (aG []))) m K
abbrev PE:KT:=bi 143 (c2 (c2 (aA f143))) K
abbrev PF:KT:=be 0 (PE K)
abbrev wN:KT:=(PF K)
theorem Uv:AC aa 143 [a0] m=(aL false a0).bind fun v1=>xw a0 a0 v1 (.I 0) m (wN (aD f143)):=
(aZ aa 143 [a0] m (fn:=f143) (c:=aA f143) XT rfl).trans aj
theorem Gh:xw x0 x5 x6 x7 m K=(ae .o .lss x7 x6).bind fun v1=>au v1 ((aE none x5 x7).bind fun v2=>(am none m v2).bind fun v3=>(aE none x0 (.I 0)).bind fun v4=>(am none m v4).bind fun v5=>(ae .o .neq v3 v5).bind fun v6=>au v6 (K .ret (HS (.bool false) m)) ((ae .o .add x7 (.I 1)).bind fun v7=>xw x0 x5 x6 v7 m K)) (K (.exit 0) (Hq m)):=
(bC (bw _) _ _ _).trans aj
theorem PH:wN (aD f143) (.exit 0) (Hq  m)=some ((.bool true),m):=aj
theorem PG:wN (aD f143) .ret (HS x2 m)=some (x2,m):=aj
theorem U1:AC aa 31 [a0,a1] m=(e9 (.agg [aw,aw]) [(0,none,a0)]).bind fun v1=>(cQ none (some 2) m v1).bind fun r2=>(AC aa 91 [r2.1,(.I 0),a1] r2.2).bind fun r3=>(d7 r2.1).bind fun v4=>(aR 1 v4).bind fun v5=>(am none r3.2 v5).bind fun v6=>some (v6,r3.2):=
(aZ aa 31 [a0,a1] m (fn:=f31) (c:=aA f31) YA rfl).trans aj
def Cw:St:=⟨(x0::x1::x2::aJ (x7::x8::x9::x10::bc (bm (bh (aJ (aG [])))))),m⟩
def sG:OM:=bD 91 (bI (js (kZ (aA f91)))) 7 (x0::x1::x2::aJ (x7::x8::x9::x10::x11::bc (bm (bh (aJ []))))) m K
def Cu:St:=⟨(x0::aJ (aH (x7::bc (bm (bh (aO [])))))),m⟩
def uE:OM:=bD 91 (rm (aV (vr (c2 (c2 (aA f91)))))) 14 (x0::x1::x2::aJ (x7::x8::aH (aG (x12::bc (bm (bh (aH (aG [])))))))) m K
def Cv:St:=⟨(x0::aJ (aH (x7::bc (bm (bh (aO [])))))),m⟩
def HY:St:=⟨(aJ (aH (x6::bc (bm (bh (aO (aG []))))))),m⟩
def oM:OM:=bD 91 (bI (c2 (c2 (c2 (aA f91))))) 18 (x0::aJ (aH (x7::bc (bh (aO (aJ (x100::x101::x102::bh (aO (aG []))))))))) m K
abbrev Ti:KT:=bi 91 (c2 (c2 (c2 (aA f91)))) K
abbrev Tl:KT:=bi 91 (aV (kn (c2 (aA f91)))) (Ti K)
abbrev Tm:KT:=be 0 (Tl K)
abbrev w8:KT:=(Tm K)
abbrev Te:KT:=bi 91 (aV (aA f91)) K
abbrev Tf:KT:=be 4 (Te K)
abbrev nW:KT:=(Tf K)
abbrev Tb:KT:=bi 91 (c2 (c2 (c2 (aA f91)))) K
abbrev Tc:KT:=be 2 (Tb K)
abbrev ui:KT:=(Tc K)
theorem Vt:AC aa 91 [a0,a1,a2] m=(aE none a2 (.I 0)).bind fun v1=>(am none m v1).bind fun v2=>(e9 (.agg [(.I 0),aw,(.I 0)]) [(0,none,(.I (-1))),(2,none,v2)]).bind fun v3=>(aM (some 3) (aC none m (.B [(.I 0),aw,(.I 0)])).2 (.ptr (aC none m .resv).1 0) v3).bind fun m4=>(aF (AP aa) none m4 143 [a2]).bind fun r5=>(il .not r5.1).bind fun v6=>au v6 ((aL false a2).bind fun v7=>(d7 a0).bind fun v8=>(aR 0 v8).bind fun v9=>(am none r5.2 v9).bind fun v10=>(aE none v10 a1).bind fun v11=>(am none r5.2 v11).bind fun v12=>(ae .o .quo v7 v12).bind fun v13=>(jZ none a2 none (some v13) none).bind fun v14=>sG a0 a1 a2 (.ptr (aC none m .resv).1 0) v13 v14 (.bool true) (.I 1) r5.2 (w8 (aD f91))) ((d7 a0).bind fun v15=>(aR 1 v15).bind fun v16=>(am none r5.2 v16).bind fun v17=>(aL false v17).bind fun v18=>oM a0 (.ptr (aC none m .resv).1 0) v17 v18 (.I 0) r5.2 (nW (aD f91))):=
(aZ aa 91 [a0,a1,a2] m (fn:=f91) (c:=aA f91) Zf rfl).trans aj
theorem BK:sG x0 x1 x2 x7 x8 x9 x10 x11 m K=(d7 x0).bind fun v1=>(aR 0 v1).bind fun v2=>(am none m v2).bind fun v3=>(aE none v3 x1).bind fun v4=>(am none m v4).bind fun v5=>(ae .o .lss x11 v5).bind fun v6=>au v6 (au x10 ((ae .o .mul x11 x8).bind fun v7=>(ae .o .add x11 (.I 1)).bind fun v8=>(ae .o .mul v8 x8).bind fun v9=>(jZ none x2 (some v7) (some v9) none).bind fun v10=>(aF (AP aa) none m 144 [v10,x9]).bind fun r11=>(ae .o .add x11 (.I 1)).bind fun v12=>sG x0 x1 x2 x7 x8 x9 r11.1 v12 r11.2 K) ((ae .o .add x11 (.I 1)).bind fun v13=>sG x0 x1 x2 x7 x8 x9 (.bool false) v13 m K)) (K (.exit 0) (Cw x0 x1 x2 x7 x8 x9 x10 m)):=
(bC (bw _) _ _ _).trans aj
theorem Hg:uE x0 x1 x2 x7 x8 x12 m K=(d7 x0).bind fun v1=>(aR 0 v1).bind fun v2=>(am none m v2).bind fun v3=>(aE none v3 x1).bind fun v4=>(am none m v4).bind fun v5=>(ae .o .lss x12 v5).bind fun v6=>au v6 ((aR 1 x7).bind fun v7=>(am none m v7).bind fun v8=>(ae .o .add x1 (.I 1)).bind fun v9=>(ae .o .mul x12 x8).bind fun v10=>(ae .o .add x12 (.I 1)).bind fun v11=>(ae .o .mul v11 x8).bind fun v12=>(jZ none x2 (some v10) (some v12) none).bind fun v13=>(AC aa 91 [x0,v9,v13] m).bind fun r14=>pv ((am none r14.2 v7).bind (fun v=>some (v,r14.2))=some (v8,r14.2)) ((cq none [r14.1]).bind fun v15=>(bF none false 3 none 8 r14.2 v8 v15).bind fun r16=>(aR 1 x7).bind fun v17=>(aM none r16.2 v17 r16.1).bind fun m18=>(ae .o .add x12 (.I 1)).bind fun v19=>uE x0 x1 x2 x7 x8 v19 m18 K)) (K (.exit 2) (Cu x0 x7 m)):=
(bC (bw _) _ _ _).trans aj
theorem Hh:oM x0 x7 x100 x101 x102 m K=(ae .o .lss x102 x101).bind fun v1=>au v1 ((aE (some 3) x100 x102).bind fun v2=>(am (some 3) m v2).bind fun v3=>(aM (some 3) (aC none m (.B [(.I 0),aw,(.I 0)])).2 (.ptr (aC none m .resv).1 0) v3).bind fun m4=>(am (some 3) m4 x7).bind fun v5=>(am (some 3) m4 (.ptr (aC none m .resv).1 0)).bind fun v6=>(aF (AP aa) none m4 142 [v5,v6]).bind fun r7=>au r7.1 (K .ret (HY x102 r7.2)) ((ae .o .add x102 (.I 1)).bind fun v8=>oM x0 x7 x100 x101 v8 r7.2 K)) (K (.exit 4) (Cv x0 x7 m)):=
(bC (bw _) _ _ _).trans aj
theorem Tn:w8 (aD f91) (.exit 0) (Cw x0 x1 x2 x7 x8 x9 x10 m)=au x10 ((ae .o .add x1 (.I 1)).bind fun v1=>(AC aa 91 [x0,v1,x9] m).bind fun r2=>some (r2.1,r2.2)) ((e9 (.agg [(.I 0),aw,(.I 0)]) [(0,none,x1)]).bind fun v3=>(aM (some 3) m x7 v3).bind fun m4=>uE x0 x1 x2 x7 x8 (.I 0) m4 (ui (aD f91))):=aj
theorem Th:nW (aD f91) (.exit 4) (Cv x0 x7 m)=(d7 x0).bind fun v1=>(aR 1 v1).bind fun v2=>(am none (ck m 1) v2).bind fun v3=>(am (some 3) (ck m 1) x7).bind fun v4=>(cq (some 3) [v4]).bind fun v5=>(bF (some m.length) false 146 (some 3) 40 (ck m 1) v3 v5).bind fun r6=>(d7 x0).bind fun v7=>(aR 1 v7).bind fun v8=>(aM none r6.2 v8 r6.1).bind fun m9=>(d7 x0).bind fun v10=>(aR 1 v10).bind fun v11=>(am none m9 v11).bind fun v12=>(aL false v12).bind fun v13=>(ae .o .sub v13 (.I 1)).bind fun v14=>some (v14,m9):=aj
theorem Tg:nW (aD f91) .ret (HY x6 m)=some (x6,m):=aj
theorem Td:ui (aD f91) (.exit 2) (Cu x0 x7 m)=(d7 x0).bind fun v1=>(aR 1 v1).bind fun v2=>(am none m v2).bind fun v3=>(aL false v3).bind fun v4=>oM x0 x7 v3 v4 (.I 0) m (nW (aD f91)):=aj
end
end Go.Ab
namespace Go.Ab
noncomputable section
variable (a0 a1 a2 x0 x2 x4 x5 x6 x7 x8 x9 x10 x21 x22 x23 x24 x36 x37 x38 x56 x57 x58:AV) (m:af) (K:KT)
open Go.Proofs.Tryz
theorem U2:AC aa 41 [a0,a1] m=(AC aa 104 [a0,a1,(.fn 106 [])] m).bind fun r1=>(aT r1.1 0).bind fun v2=>(aT r1.1 1).bind fun v3=>some ((.tup [v2,v3]),r1.2):=
(aZ aa 41 [a0,a1] m (fn:=f41) (c:=aA f41) YG rfl).trans aj
def Cf:St:=⟨(x0::aH (aG (x4::x5::aH (aG (x9::bm (bh (aO (aJ (aH []))))))))),m⟩
def ux:OM:=bD 24 (bI (aV (aA f24))) 7 (x0::aH (aG (x4::x5::aH (aG (x9::bh (aO (aH (x36::x37::x38::bm (aG []))))))))) m K
abbrev Rs:KT:=bi 24 (aV (c2 (aA f24))) K
abbrev Rt:KT:=be 0 (Rs K)
abbrev ud:KT:=(Rt K)
theorem H8:AC aa 24 [a0,a1,a2] m=(cQ none none m a1).bind fun r1=>(cQ none none r1.2 a2).bind fun r2=>(AC aa 80 [a0] r2.2).bind fun r3=>au r3.1 (some ((.tup [.nilp,(.I 0),(.I 4)]),r3.2)) ((am none r3.2 r1.1).bind fun v4=>(AC aa 81 [a0,v4] r3.2).bind fun r5=>(il .not r5.1).bind fun v6=>au v6 (some ((.tup [.nilp,(.I 0),(.I 1)]),r5.2)) ((am none r5.2 r2.1).bind fun v7=>(d7 a0).bind fun v8=>(aR 0 v8).bind fun v9=>(am none r5.2 v9).bind fun v10=>(aL false v10).bind fun v11=>(aF (AP aa) none r5.2 82 [v7,v11]).bind fun r12=>(il .not r12.1).bind fun v13=>au v13 (some ((.tup [.nilp,(.I 0),(.I 1)]),r12.2)) ((am none r12.2 r2.1).bind fun v14=>(aL false v14).bind fun v15=>(fU none 3 none (.I 0) 8 r12.2 v15 v15).bind fun r16=>(am none r16.2 r2.1).bind fun v17=>(aL false v17).bind fun v18=>ux a0 r1.1 r2.1 r16.1 v17 v18 (.I 0) r16.2 (ud (aD f24))))):=
(aZ aa 24 [a0,a1,a2] m (fn:=f24) (c:=aA f24) Ys rfl).trans aj
theorem GI:ux x0 x4 x5 x9 x36 x37 x38 m K=(ae .o .lss x38 x37).bind fun v1=>au v1 ((aE none x36 x38).bind fun v2=>(am none m v2).bind fun v3=>(d7 x0).bind fun v4=>(aR 0 v4).bind fun v5=>(am none m v5).bind fun v6=>(aE none v6 v3).bind fun v7=>(am none m v7).bind fun v8=>(aE none x9 x38).bind fun v9=>(aM none m v9 v8).bind fun m10=>(ae .o .add x38 (.I 1)).bind fun v11=>ux x0 x4 x5 x9 x36 x37 v11 m10 K) (K (.exit 0) (Cf x0 x4 x5 x9 m)):=
(bC (bw _) _ _ _).trans aj
theorem Ru:ud (aD f24) (.exit 0) (Cf x0 x4 x5 x9 m)=(AC aa 32 [x9] m).bind fun r1=>(aT r1.1 0).bind fun v2=>(aT r1.1 1).bind fun v3=>(aM none (aC none r1.2 (.B [.nilp])).2 (.ptr (aC none r1.2 .resv).1 0) v2).bind fun m4=>(AC aa 83 [x0] m4).bind fun r5=>(aM none (aC none r5.2 (.B [.nilp])).2 (.ptr (aC none r5.2 .resv).1 0) r5.1).bind fun m6=>(am none m6 (.ptr (aC none r1.2 .resv).1 0)).bind fun v7=>(AC aa 84 [v7,(.fn 85 [(.ptr (aC none r1.2 .resv).1 0),(.ptr (aC none r5.2 .resv).1 0),x4,x5])] m6).bind fun r8=>(aT r8.1 0).bind fun v9=>(aT r8.1 1).bind fun v10=>(ae .o .neq v10 (.I 0)).bind fun v11=>au v11 (some ((.tup [.nilp,(.I 0),v10]),r8.2)) ((am none r8.2 (.ptr (aC none r1.2 .resv).1 0)).bind fun v12=>some ((.tup [v12,v9,(.I 0)]),r8.2)):=aj
def HC:St:=⟨(aJ (aH (aG (x7::bc (aJ (aG [])))))),m⟩
def xS:OM:=bD 43 (bI (aV (c2 (aA f43)))) 8 (x0::aJ (aG (x6::x7::aO (aJ (aH (x22::x23::x24::bm (bh (aJ [])))))))) m K
def Ci:St:=⟨(x0::aJ (aG (x6::x7::aH (x10::aO (aH (aG (x22::x23::x24::bm (bh (aJ []))))))))),m⟩
def uz:OM:=bD 43 (bI (js (s9 (kn (aV (aA f43)))))) 13 (x0::aJ (aG (x6::x7::aH (x10::aO (aH (aG (x22::x23::x24::bh (aO (aJ (aH (aG (x56::x57::x58::bh (aH []))))))))))))) m K
abbrev RY:KT:=bi 43 (aV (c2 (c2 (aA f43)))) K
abbrev RZ:KT:=be 0 (RY K)
abbrev uf:KT:=(RZ K)
abbrev RR:KT:=bi 43 (js (kn (aV (aA f43)))) (kI 43 (bI (aV (c2 (aA f43)))) 8 K)
abbrev RS:KT:=be 1 (RR K)
abbrev RT:KT:=bi 43 (aV (rm (bI (aV (c2 (aA f43)))))) (RS K)
abbrev RW:KT:=be 2 (RT K)
abbrev ue:KT:=(RW K)
theorem U3:AC aa 43 [a0,a1] m=(AC aa 80 [a0] m).bind fun r1=>au r1.1 (some ((.tup [aw,(.I 4)]),r1.2)) ((AC aa 81 [a0,a1] r1.2).bind fun r2=>(il .not r2.1).bind fun v3=>au v3 (some ((.tup [aw,(.I 1)]),r2.2)) ((AC aa 65 [a0,a1] (aC none r2.2 (.mp (.int .i64) [])).2).bind fun r4=>(aL false r4.1).bind fun v5=>xS a0 (.mref (aC none r2.2 .resv).1) aw r4.1 v5 (.I 0) r4.2 (uf (aD f43)))):=
(aZ aa 43 [a0,a1] m (fn:=f43) (c:=aA f43) YH rfl).trans aj
theorem GQ:xS x0 x6 x7 x22 x23 x24 m K=(ae .o .lss x24 x23).bind fun v1=>au v1 ((aE none x22 x24).bind fun v2=>(am none m v2).bind fun v3=>(gM (.int .i64) m x6 v3 x24).bind fun m4=>(d7 x0).bind fun v5=>(aR 1 v5).bind fun v6=>(am none (ck m4 1) v6).bind fun v7=>(aE (some 3) v7 v3).bind fun v8=>(aR 0 v8).bind fun v9=>(am none (ck m4 1) v9).bind fun v10=>(d7 x0).bind fun v11=>(aR 1 v11).bind fun v12=>(am none (ck m4 1) v12).bind fun v13=>(aE (some 3) v13 v3).bind fun v14=>(aR 2 v14).bind fun v15=>(am none (ck m4 1) v15).bind fun v16=>(e9 (.agg [(.I 0),aw,(.I 0)]) [(0,none,v10),(2,none,v16)]).bind fun v17=>(aM (some 3) (aC (some m4.length) (ck m4 1) (.B [(.I 0),aw,(.I 0)])).2 (.ptr (aC (some m4.length) (ck m4 1) .resv).1 0) v17).bind fun m18=>(d7 x0).bind fun v19=>(aR 1 v19).bind fun v20=>(am none m18 v20).bind fun v21=>(aE (some 3) v21 v3).bind fun v22=>(aR 1 v22).bind fun v23=>(am none m18 v23).bind fun v24=>(aL false v24).bind fun v25=>uz x0 x6 x7 (.ptr (aC (some m4.length) (ck m4 1) .resv).1 0) x22 x23 x24 v24 v25 (.I 0) m18 (ue K)) (K (.exit 0) (HC x7 m)):=
(bC (bw _) _ _ _).trans aj
theorem GP:uz x0 x6 x7 x10 x22 x23 x24 x56 x57 x58 m K=(ae .o .lss x58 x57).bind fun v1=>au v1 ((aE none x56 x58).bind fun v2=>(am none m v2).bind fun v3=>(aR 1 x10).bind fun v4=>(am none m v4).bind fun v5=>(i6 (.int .i64) (.I 0) m x6 v3).bind fun q6=>(cq none [q6.1]).bind fun v7=>(bF none false 3 none 8 m v5 v7).bind fun r8=>(aR 1 x10).bind fun v9=>(aM none r8.2 v9 r8.1).bind fun m10=>(ae .o .add x58 (.I 1)).bind fun v11=>uz x0 x6 x7 x10 x22 x23 x24 x56 x57 v11 m10 K) (K (.exit 2) (Ci x0 x6 x7 x10 x22 x23 x24 m)):=
(bC (bw _) _ _ _).trans aj
theorem R0:uf (aD f43) (.exit 0) (HC x7 m)=some ((.tup [x7,(.I 0)]),m):=aj
theorem RX:ue K (.exit 2) (Ci x0 x6 x7 x10 x22 x23 x24 m)=(am (some 3) m x10).bind fun v1=>(cq (some 3) [v1]).bind fun v2=>(bF none false 74 (some 3) 40 m x7 v2).bind fun r3=>(ae .o .add x24 (.I 1)).bind fun v4=>xS x0 x6 r3.1 x22 x23 v4 r3.2 K:=aj
def yp:St:=⟨(aO (x8::bm (aO []))),m⟩
def pQ:OM:=bD 104 (bI (aV (aA f104))) 7 (x0::aG (x2::aJ (aG (x8::aO (aJ (x21::x22::x23::bh (aO (aG [])))))))) m K
abbrev Od:KT:=bi 104 (aV (c2 (aA f104))) K
abbrev Oe:KT:=be 0 (Od K)
abbrev pO:KT:=(Oe K)
theorem TX:AC aa 104 [a0,a1,a2] m=(AC aa 80 [a0] m).bind fun r1=>au r1.1 (some ((.tup [aw,(.I 4)]),r1.2)) ((AC aa 81 [a0,a1] r1.2).bind fun r2=>(il .not r2.1).bind fun v3=>au v3 (some ((.tup [aw,(.I 1)]),r2.2)) ((AC aa 65 [a0,a1] r2.2).bind fun r4=>(aL false r4.1).bind fun v5=>pQ a0 a2 aw r4.1 v5 (.I 0) r4.2 (pO (aD f104)))):=
(aZ aa 104 [a0,a1,a2] m (fn:=f104) (c:=aA f104) Xr rfl).trans aj
theorem FS:pQ x0 x2 x8 x21 x22 x23 m K=(ae .o .lss x23 x22).bind fun v1=>au v1 ((aE none x21 x23).bind fun v2=>(am none m v2).bind fun v3=>(d7 x0).bind fun v4=>(aR 1 v4).bind fun v5=>(am none m v5).bind fun v6=>(aE (some 3) v6 v3).bind fun v7=>(am (some 3) m v7).bind fun v8=>(jj x2).bind fun g9=>iP aa 104 (AP aa) (AC aa) none g9.1 ([v8]++g9.2) m fun v10 m11=>(aT v10 0).bind fun v12=>(aT v10 1).bind fun v13=>au v13 ((cq none [v12]).bind fun v14=>(bF none true 3 none 8 m11 x8 v14).bind fun r15=>(ae .o .add x23 (.I 1)).bind fun v16=>pQ x0 x2 r15.1 x21 x22 v16 r15.2 K) ((ae .o .add x23 (.I 1)).bind fun v17=>pQ x0 x2 x8 x21 x22 v17 m11 K)) (K (.exit 0) (yp x8 m)):=
(bC (bw _) _ _ _).trans aj
theorem Of:pO (aD f104) (.exit 0) (yp x8 m)=(rW [x8] m).bind fun r1=>(rk [x8] r1.2).bind fun r2=>some ((.tup [r2.1,(.I 0)]),r2.2):=aj
end
end Go.Ab
