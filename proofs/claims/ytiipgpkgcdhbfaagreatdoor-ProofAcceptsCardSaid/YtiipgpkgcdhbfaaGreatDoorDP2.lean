/- The settings of the interpreter for this seat. -/
import Derived.Test.YtiipgpkgcdhbfaaGreatDoorProg
import Derived.Test.YtiipgpkgcdhbfaaGreatDoorDP1
set_option maxRecDepth 100000
set_option linter.unusedVariables false
set_option linter.unusedSimpArgs false
set_option linter.unusedSectionVars false
namespace Go.Ab
abbrev qqr:ByteArray:=⟨⟨[0,1,2,2,3,3,3,3,4,4,4,4,4,4,4,4,5,5,5,5,5,5,5,5,5,5,5,5,5,5,5,5,6,6,6,6,6,6,6,6,6,6,6,6,6,6,6,6,6,6,6,6,6,6,6,6,6,6,6,6,6,6,6,6,7,7,7,7,7,7,7,7,7,7,7,7,7,7,7,7,7,7,7,7,7,7,7,7,7,7,7,7,7,7,7,7,7,7,7,7,7,7,7,7,7,7,7,7,7,7,7,7,7,7,7,7,7,7,7,7,7,7,7,7,7,7,7,7,8,8,8,8,8,8,8,8,8,8,8,8,8,8,8,8,8,8,8,8,8,8,8,8,8,8,8,8,8,8,8,8,8,8,8,8,8,8,8,8,8,8,8,8,8,8,8,8,8,8,8,8,8,8,8,8,8,8,8,8,8,8,8,8,8,8,8,8,8,8,8,8,8,8,8,8,8,8,8,8,8,8,8,8,8,8,8,8,8,8,8,8,8,8,8,8,8,8,8,8,8,8,8,8,8,8,8,8,8,8,8,8,8,8,8,8,8,8,8,8,8,8,8,8,8,8,8,8]⟩⟩
open Go.Proofs.Tryz
def aq:Nat->Nat->List Bool
 | 0,_=>[]
 | n+1,x=>Nat.beq (x % 2) 1::aq n (x / 2)
def mM3 (n a b c:Nat):Masks:=⟨aq n a,aq n b,aq n c⟩
def qnj:List (Nat×Nat×Masks):=[(3,17,⟨(aq 122 1813388729421943762112512),(aq 122 32768),(aq 122 64)⟩),
 (4,19,⟨(aq 186 72692156019487586799426948609895424),(aq 186 814080),(aq 186 256)⟩),
 (4,28,⟨(aq 186 137015778499772148581595453067151533092764647424),(aq 186 0),(aq 186 256)⟩),
 (5,9,⟨(aq 196 2115620184325601055735810),(aq 196 0),(aq 196 16)⟩),
 (5,25,⟨(aq 196 670466799128826375531776824380375888017523967011062274),(aq 196 2115620184325601055736322),(aq 196 16)⟩),
 (7,15,⟨(aq 105 2066035336255470798344),(aq 105 1015808),(aq 105 256)⟩),
 (9,13,⟨(aq 152 252201579132804104),(aq 152 49160),(aq 152 256)⟩),
 (10,4,⟨(aq 29 8),(aq 29 8),(aq 29 4)⟩),
 (11,4,⟨(aq 21 1792),(aq 21 0),(aq 21 4)⟩),
 (12,3,⟨(aq 22 1826),(aq 22 32),(aq 22 16)⟩),
 (14,3,⟨(aq 32 99),(aq 32 32),(aq 32 16)⟩),
 (16,4,⟨(aq 45 28770),(aq 45 32),(aq 45 16)⟩),
 (16,8,⟨(aq 45 30562),(aq 45 29282),(aq 45 16)⟩),
 (17,11,⟨(aq 123 31525197391598860),(aq 123 4352),(aq 123 192)⟩),
 (17,17,⟨(aq 123 528905077606597655631116),(aq 123 31525197391598860),(aq 123 192)⟩),
 (17,28,⟨(aq 123 1135814937804493543741046076215296),(aq 123 4194304),(aq 123 192)⟩),
 (18,4,⟨(aq 50 229377),(aq 50 0),(aq 50 16)⟩),
 (18,8,⟨(aq 50 29589729),(aq 50 229601),(aq 50 16)⟩),
 (19,3,⟨(aq 49 114823),(aq 49 128),(aq 49 64)⟩),
 (19,7,⟨(aq 49 29476487),(aq 49 116359),(aq 49 64)⟩),
 (24,7,⟨(aq 72 481036337713),(aq 72 561),(aq 72 448)⟩),
 (25,5,⟨(aq 37 114722),(aq 37 0),(aq 37 16)⟩),
 (26,3,⟨(aq 68 918279),(aq 68 775),(aq 68 192)⟩),
 (26,8,⟨(aq 68 30064771847),(aq 68 768),(aq 68 192)⟩),
 (26,12,⟨(aq 68 15423227585287),(aq 68 30064788231),(aq 68 192)⟩),
 (27,4,⟨(aq 26 12291),(aq 26 0),(aq 26 16)⟩),
 (36,6,⟨(aq 85 469762055),(aq 85 7),(aq 85 192)⟩),
 (36,11,⟨(aq 85 7),(aq 85 3),(aq 85 192)⟩),
 (43,8,⟨(aq 77 29360321),(aq 77 128),(aq 77 48)⟩),
 (43,13,⟨(aq 77 504403158294856897),(aq 77 29361345),(aq 77 48)⟩),
 (45,4,⟨(aq 29 8),(aq 29 8),(aq 29 4)⟩),
 (47,3,⟨(aq 32 99),(aq 32 32),(aq 32 16)⟩),
 (48,4,⟨(aq 45 28770),(aq 45 32),(aq 45 16)⟩),
 (48,8,⟨(aq 45 30562),(aq 45 29282),(aq 45 16)⟩),
 (49,6,⟨(aq 44 58720896),(aq 44 640),(aq 44 112)⟩),
 (50,9,⟨(aq 65 246290604626184),(aq 65 4352),(aq 65 768)⟩),
 (51,3,⟨(aq 119 28716),(aq 119 44),(aq 119 16)⟩),
 (51,10,⟨(aq 119 108086391056891916),(aq 119 12),(aq 119 16)⟩),
 (51,16,⟨(aq 119 56668397794435742564364),(aq 119 0),(aq 119 16)⟩),
 (51,21,⟨(aq 119 237684544211190807216374415884),(aq 119 56668397794435742564364),(aq 119 16)⟩),
 (52,3,⟨(aq 33 49344),(aq 33 192),(aq 33 64)⟩),
 (53,4,⟨(aq 47 28678),(aq 47 6),(aq 47 28)⟩),
 (54,3,⟨(aq 18 25),(aq 18 8),(aq 18 4)⟩),
 (55,3,⟨(aq 48 114738),(aq 48 48),(aq 48 16)⟩),
 (55,7,⟨(aq 48 14795250),(aq 48 115186),(aq 48 16)⟩),
 (58,2,⟨(aq 45 9),(aq 45 0),(aq 45 4)⟩),
 (58,4,⟨(aq 45 1849),(aq 45 57),(aq 45 4)⟩),
 (59,3,⟨(aq 88 234881054),(aq 88 30),(aq 88 12)⟩),
 (59,8,⟨(aq 88 123145302310942),(aq 88 30),(aq 88 12)⟩),
 (60,3,⟨(aq 57 7177),(aq 57 8),(aq 57 4)⟩),
 (61,3,⟨(aq 67 7177),(aq 67 8),(aq 67 4)⟩),
 (62,6,⟨(aq 71 7183),(aq 71 1033),(aq 71 768)⟩),
 (63,4,⟨(aq 50 229377),(aq 50 0),(aq 50 16)⟩),
 (63,8,⟨(aq 50 29589729),(aq 50 229601),(aq 50 16)⟩),
 (70,3,⟨(aq 30 7219),(aq 30 51),(aq 30 16)⟩),
 (75,4,⟨(aq 73 99),(aq 73 32),(aq 73 16)⟩),
 (75,8,⟨(aq 73 483),(aq 73 227),(aq 73 16)⟩),
 (76,4,⟨(aq 44 227),(aq 44 32),(aq 44 16)⟩),
 (77,7,⟨(aq 45 35),(aq 45 0),(aq 45 16)⟩),
 (78,6,⟨(aq 44 451),(aq 44 64),(aq 44 48)⟩),
 (82,5,⟨(aq 37 114722),(aq 37 0),(aq 37 16)⟩),
 (83,3,⟨(aq 25 114696),(aq 25 8),(aq 25 4)⟩),
 (86,8,⟨(aq 87 27021597764255807),(aq 87 32813),(aq 87 4096)⟩),
 (87,3,⟨(aq 25 803),(aq 25 32),(aq 25 16)⟩),
 (89,4,⟨(aq 27 12291),(aq 27 0),(aq 27 16)⟩),
 (90,3,⟨(aq 18 456),(aq 18 8),(aq 18 4)⟩),
 (91,7,⟨(aq 128 3975),(aq 128 1927),(aq 128 64)⟩),
 (91,14,⟨(aq 128 4487),(aq 128 129),(aq 128 64)⟩),
 (91,18,⟨(aq 128 8873554201597605810476922437761),(aq 128 129),(aq 128 64)⟩),
 (99,2,⟨(aq 29 3591),(aq 29 4),(aq 29 64)⟩),
 (101,13,⟨(aq 106 56668397794435742638111),(aq 106 73751),(aq 106 1024)⟩),
 (103,10,⟨(aq 85 126100789566382111),(aq 85 8211),(aq 85 1024)⟩),
 (104,7,⟨(aq 49 14680325),(aq 49 256),(aq 49 192)⟩),
 (107,2,⟨(aq 92 3587),(aq 92 2),(aq 92 16)⟩),
 (107,10,⟨(aq 92 504403158265499235),(aq 92 3587),(aq 92 16)⟩),
 (108,3,⟨(aq 64 28683),(aq 64 9),(aq 64 4)⟩),
 (108,9,⟨(aq 64 120259113083),(aq 64 28795),(aq 64 4)⟩),
 (109,3,⟨(aq 23 3592),(aq 23 8),(aq 23 4)⟩),
 (110,7,⟨(aq 46 58721065),(aq 46 768),(aq 46 256)⟩),
 (111,8,⟨(aq 78 240518168820),(aq 78 244),(aq 78 16)⟩),
 (111,13,⟨(aq 78 492581209243892),(aq 78 144),(aq 78 16)⟩),
 (112,5,⟨(aq 72 481036337162),(aq 72 10),(aq 72 4)⟩),
 (115,3,⟨(aq 33 99),(aq 33 32),(aq 33 16)⟩),
 (119,5,⟨(aq 84 160),(aq 84 32),(aq 84 16)⟩),
 (119,13,⟨(aq 84 515),(aq 84 515),(aq 84 16)⟩),
 (119,15,⟨(aq 84 515),(aq 84 513),(aq 84 16)⟩),
 (119,16,⟨(aq 84 515),(aq 84 515),(aq 84 16)⟩),
 (119,18,⟨(aq 84 515),(aq 84 515),(aq 84 16)⟩),
 (121,4,⟨(aq 37 12294),(aq 37 6),(aq 37 28)⟩),
 (122,4,⟨(aq 53 24579),(aq 53 0),(aq 53 16)⟩),
 (122,9,⟨(aq 53 12884926499),(aq 53 24579),(aq 53 16)⟩),
 (124,3,⟨(aq 36 29360153),(aq 36 17),(aq 36 0)⟩),
 (125,2,⟨(aq 63 455),(aq 63 199),(aq 63 0)⟩),
 (125,7,⟨(aq 63 71),(aq 63 0),(aq 63 0)⟩),
 (125,9,⟨(aq 63 455),(aq 63 199),(aq 63 0)⟩),
 (127,4,⟨(aq 71 14680098),(aq 71 32),(aq 71 16)⟩),
 (127,8,⟨(aq 71 1893728738),(aq 71 14680418),(aq 71 16)⟩),
 (130,7,⟨(aq 60 117440610),(aq 60 96),(aq 60 16)⟩),
 (131,7,⟨(aq 49 35),(aq 49 0),(aq 49 16)⟩),
 (132,7,⟨(aq 59 29360322),(aq 59 64),(aq 59 48)⟩),
 (133,2,⟨(aq 22 9),(aq 22 9),(aq 22 4)⟩),
 (136,6,⟨(aq 27 24),(aq 27 8),(aq 27 4)⟩),
 (137,11,⟨(aq 98 1539),(aq 98 513),(aq 98 112)⟩),
 (137,14,⟨(aq 98 7683),(aq 98 3587),(aq 98 112)⟩),
 (141,6,⟨(aq 30 1835016),(aq 30 8),(aq 30 4)⟩),
 (142,4,⟨(aq 45 1610612748),(aq 45 0),(aq 45 16)⟩),
 (143,2,⟨(aq 17 225),(aq 17 0),(aq 17 4)⟩),
 (144,4,⟨(aq 26 12291),(aq 26 0),(aq 26 16)⟩),
 (145,2,⟨(aq 19 387),(aq 19 0),(aq 19 16)⟩),
 (158,4,⟨(aq 32 229382),(aq 32 0),(aq 32 64)⟩),
 (159,4,⟨(aq 26 12291),(aq 26 0),(aq 26 16)⟩),
 (160,4,⟨(aq 32 229382),(aq 32 0),(aq 32 64)⟩),
 (162,5,⟨(aq 62 31525197391593472),(aq 62 0),(aq 62 4)⟩),
 (164,2,⟨(aq 21 9),(aq 21 9),(aq 21 4)⟩),
 (165,1,⟨(aq 53 271),(aq 53 0),(aq 53 0)⟩),
 (165,4,⟨(aq 53 783),(aq 53 271),(aq 53 0)⟩),
 (166,3,⟨(aq 220 3091),(aq 220 1027),(aq 220 0)⟩),
 (166,9,⟨(aq 220 9217),(aq 220 0),(aq 220 0)⟩),
 (166,15,⟨(aq 220 49173),(aq 220 16389),(aq 220 0)⟩),
 (166,21,⟨(aq 220 147457),(aq 220 0),(aq 220 0)⟩),
 (166,33,⟨(aq 220 8126495),(aq 220 1835039),(aq 220 0)⟩),
 (170,4,⟨(aq 41 451),(aq 41 192),(aq 41 48)⟩),
 (172,4,⟨(aq 42 899),(aq 42 384),(aq 42 64)⟩),
 (178,2,⟨(aq 134 783),(aq 134 0),(aq 134 0)⟩),
 (180,2,⟨(aq 19 387),(aq 19 0),(aq 19 16)⟩),
 (183,2,⟨(aq 26 3),(aq 26 1),(aq 26 16)⟩),
 (184,3,⟨(aq 19 456),(aq 19 8),(aq 19 4)⟩),
 (185,2,⟨(aq 96 3587),(aq 96 2),(aq 96 16)⟩),
 (185,10,⟨(aq 96 8070450532247932515),(aq 96 3587),(aq 96 16)⟩),
 (186,2,⟨(aq 58 3093),(aq 58 1045),(aq 58 0)⟩),
 (187,14,⟨(aq 315 32256),(aq 315 13824),(aq 315 112)⟩),
 (187,18,⟨(aq 315 228864),(aq 315 97792),(aq 315 112)⟩),
 (187,24,⟨(aq 315 1096126227998177188652763624537212264741950291456),(aq 315 884224),(aq 315 112)⟩),
 (187,41,⟨(aq 315 165641912322973530898434140694648610858826615332089277323900581371805184),(aq 315 622080),(aq 315 112)⟩),
 (187,51,⟨(aq 315 11656013353354374425516771440941113439854441034312837127510874458433425711231284553216),(aq 315 33562624),(aq 315 112)⟩),
 (190,1,⟨(aq 49 71),(aq 49 0),(aq 49 0)⟩),
 (190,4,⟨(aq 49 199),(aq 49 71),(aq 49 0)⟩),
 (191,4,⟨(aq 56 961),(aq 56 449),(aq 56 0)⟩),
 (191,8,⟨(aq 56 1217),(aq 56 0),(aq 56 0)⟩),
 (192,5,⟨(aq 65 963),(aq 65 0),(aq 65 0)⟩),
 (194,2,⟨(aq 32 193),(aq 32 0),(aq 32 0)⟩),
 (195,3,⟨(aq 133 391),(aq 133 0),(aq 133 64)⟩),
 (195,5,⟨(aq 133 391),(aq 133 391),(aq 133 64)⟩),
 (195,14,⟨(aq 133 903),(aq 133 391),(aq 133 64)⟩),
 (195,20,⟨(aq 133 1415),(aq 133 391),(aq 133 64)⟩),
 (197,3,⟨(aq 84 1539),(aq 84 1539),(aq 84 256)⟩),
 (197,5,⟨(aq 84 1539),(aq 84 1539),(aq 84 256)⟩),
 (198,3,⟨(aq 168 3075),(aq 168 3075),(aq 168 768)⟩),
 (198,5,⟨(aq 168 3075),(aq 168 3075),(aq 168 768)⟩),
 (198,13,⟨(aq 168 3075),(aq 168 3075),(aq 168 768)⟩),
 (198,15,⟨(aq 168 3075),(aq 168 3075),(aq 168 768)⟩),
 (201,1,⟨(aq 38 1039),(aq 38 0),(aq 38 0)⟩),
 (202,4,⟨(aq 43 451),(aq 43 192),(aq 43 48)⟩),
 (204,3,⟨(aq 40 28706),(aq 40 32),(aq 40 16)⟩),
 (207,1,⟨(aq 76 269),(aq 76 0),(aq 76 0)⟩),
 (215,1,⟨(aq 167 19),(aq 167 19),(aq 167 0)⟩)]
def qnU:List (Nat×Nat×List Nat):=[(6,13,[0,1,2,3,4,5,6,8,7,9,10,11,12,13,14,15,16,17,18,19,20,21,22,23]),(9,19,[0,1,2,4,5,6,3,7,8,9]),(9,29,[0,1,2,4,5,6,7,3,8,9]),(59,12,[0,1,2,3,4,5,6,7,8,9,10,11,12,13,14,15,16]),(67,1,[0,1,3,4,2,5,6,7]),(97,1,[0,1,2,3,4,5,6,8,7,9,10,11])]
def qhA:List (Nat×Nat×List Nat):=[(3,19,[0,0,3,7,15,0,0,96,224,480,1023,2047,4095,4095,16383,32767,65535,4095,4095,397311,921599,1970175,4194303,8388607,16777215]),
 (3,21,[0,0,0,6,14,30,63,127]),
 (3,23,[0,0,3,7,15,31,63]),
 (4,30,[0,0,3,7,15,0,0,96,224,480,1023,2047,4095,4095,16383,32767,65535,4095,4095,397311,921599,1970175,4194303,8388607,16777215]),
 (6,13,[0,1,3,7,7,7,7,103,7,503,1023,2047,4095,8191,16383,32767,65535,131071,262143,524287,1048575,2097151,4194303,8388607]),
 (7,18,[0,0,0,6,15,31]),
 (8,2,[0,1,0,4,0,16,48,112,252,0,512,0,2048,6144,14336,32256,65535,131071]),
 (8,14,[0,0,2,6,15,0,32,96,255,0,512,1536,4095,8191]),
 (8,15,[0,1,0,0,8,0,56,120,0,504,1023,2047]),
 (9,19,[0,0,2,7,0,0,32,127,255,511]),
 (9,24,[0,0,0,6,15,0,0,64,224,511,1023]),
 (9,26,[0,1,0,7,15,31,63,127,255,511,1023]),
 (9,29,[0,0,2,7,0,16,48,112,255,511]),
 (17,13,[0,1,3,7,0,31,63,0,0,384,0,0,3199,8191]),
 (17,19,[0,0,0,4,14,30,0,126,255,0,1023]),
 (19,10,[0,0,0,6,15,31]),
 (22,1,[0,1,0,7,15,31]),
 (22,2,[0,1,0,4,15,0,32,0,128,511,0,1024,0,4096,16383,32767,65535,131071]),
 (22,3,[0,1,0,0,12,31,63]),
 (24,3,[0,0,3,7,15,31,31,95,223,479,991,2047,4095,8191]),
 (27,6,[0,0,3,7,0,0,48,112,255]),
 (34,3,[0,1,3,7,7,23,55,119,247,511,1023,2047,4095,8191,4095,20479,53247,118783,4095,511999,1036287,2097151,4194303,8388607,16777215,16777215,67108863,134217727]),
 (36,12,[0,1,3,7,0,31,63,127,0,0,512,1536,3584,0,15872,32256,65024,130816,261888,524287,1048575,2097151]),
 (39,3,[0,0,3,7,15,31,63,127,255,511,511,1535,3583,7679,15871,32767,65535,131071,262143,524287,1048575,2097151,4194303,4194303,12582911,29360127,62914559,4194303,264241151,532676607,1073741823,2147483647]),
 (43,11,[0,1,3,7,0,31,63,127,0,256,768,1792,0,7936,16128,32512,65535,0,262143]),
 (44,3,[0,1,3,7,0,31,63]),
 (46,3,[0,1,3,7,7,31,63,127]),
 (50,11,[0,1,0,4,0,0,0,64,252,508,1023,2047,4095]),
 (51,12,[0,1,0,7,15,0,32,0,224,480,1023,2047]),
 (51,18,[0,1,0,7,15,31,0,64,0,448,960,1984,4095]),
 (51,23,[0,1,0,7,15,0,63,127,0,256,0,1792,3840,0,16128,32512,65535]),
 (52,5,[0,1,0,4,15,31,63]),
 (52,6,[0,1,0,0,0,24,63,127]),
 (53,6,[0,1,0,7,15,0,32,0,0,256,0,1024,4064,8191,16383]),
 (53,9,[0,1,0,4,12,28,63,127,0,511,1023,2047,4095]),
 (56,4,[0,1,3,7,15,31,15,127,255,511,1023]),
 (59,1,[0,1,0,4,12,28,63,0,128,511,0,2047]),
 (59,10,[0,1,0,4,0,16,0,64,192,448,1008,0,2048,0,8192,24576,57344,129024,262140,524284,1048575,2097151,4194303]),
 (59,12,[0,1,0,4,0,16,48,112,252,0,512,0,2048,8191,0,16383,65535]),
 (60,6,[0,1,3,7,15,31,63,63,191,511,1023,63,4095,8191,16383,32767,32767,98303,262143,524287,1048575,32767,2129919,8388607,16777215,33554431,67108863]),
 (60,10,[0,0,3,7]),
 (61,6,[0,1,3,7,15,31,63,127,63,319,831,1855,4095,8191,16383,32767,65535,32767,163839,425983,950271,2097151,4194303,8388607,16777215,33554431,67108863,33554431,33554431,301989887,973078527,2046820351,4194303999,8589934591,17179869183,34359738367,68719476735]),
 (61,10,[0,0,3,7]),
 (67,1,[0,0,3,0,0,31,63,127]),
 (69,1,[0,1,0,4,15,0,32,0,128,480,0,1024,0,4096,16352,32767,65535]),
 (71,5,[0,1,0,4,15,0,32,0,128,511,0,1024,0,4096,16383,32767,65535,131071]),
 (71,7,[0,1,0,0,12,0,63,127]),
 (75,10,[0,0,3,7,15,0,0,96,224,480,1023,0,0,0,12288,30720,63488,129024,262143,0,1048575,2097151]),
 (77,9,[0,0,3,7,0,0,48,112,255]),
 (77,10,[0,0,3,7,0,0,48,112,255]),
 (87,5,[0,0,0,6,14,31,0,0,192,448,1023,2047]),
 (89,6,[0,0,3,7,0,0,48,112,255,511]),
 (91,16,[0,1,0,0,8,0,0,0,192,0,512,0,3584,8160,16380,32764,65535,131071,262143]),
 (91,23,[0,0,2,6,14,0,32,126,255,511,1023]),
 (97,1,[0,0,3,7,15,31,31,127,31,511,1023,2047]),
 (98,1,[0,0,0,4,15,31]),
 (101,7,[0,0,2,6,14,0,62,126,254,0,512,1536,3584,0,15872,32256,65024,131071,262143]),
 (105,1,[0,1,0,4,12,3,63]),
 (106,1,[0,1,0,4,12,3,63]),
 (107,7,[0,1,3,7,15,31,15,79,255,511,1023,2047,4095,8191,16383,32767,65535,131071,262143,65535,65535,1114111,3735551,7929855,16777215,33554431]),
 (107,12,[0,1,3,7,7,31,63,127,255,255,1023,2047,4095,8191,16383,32767,32767,131071,262143,524287,32767,1081343,4194303,8388607,16777215]),
 (110,9,[0,0,0,4,14,30,0,126,0,0,768,1792,4094,8191,16383]),
 (111,16,[0,0,0,4,0,28,60,126,255,511]),
 (117,1,[0,1,0,7,15,31]),
 (117,2,[0,1,0,4,15,0,32,0,128,480,0,1024,0,4096,16352,32767,65535,131071,131071,0,786431,2097151]),
 (119,6,[0,0,0,6,3,31]),
 (121,6,[0,1,0,7,15,0,0,96,255,511]),
 (122,6,[0,0,3,7,15,0,0,96,224,480,1023]),
 (122,11,[0,0,3,7,0,31,63,0,0,384,896,0,3968,8064,16383]),
 (131,9,[0,0,3,7,0,0,48,112,255,511]),
 (131,11,[0,0,3,7,0,0,48,112,255,511]),
 (134,1,[0,0,2,7,15]),
 (139,5,[0,1,3,7,15,0,32,96,224,511]),
 (139,7,[0,0,2,6,14,0,32,126,255,511,1023]),
 (139,8,[0,1,3,7,0,0,32,96,224,480,992,2047]),
 (142,6,[0,1,0,7,15,0,32,0,224,480,1023]),
 (144,6,[0,0,3,7,0,0,48,112,255]),
 (153,1,[0,1,0,7,15,31]),
 (153,6,[0,0,2,0,8,30,0,64,0,256,1022,2046,4095,8191]),
 (155,8,[0,1,3,7,15,0,32,96,224,511,1023,2047]),
 (159,6,[0,0,3,7,0,0,48,112,255]),
 (165,4,[0,0,3,7,15,15,15,111,239,15,15,1039,3599,7695,16383,32767,65535]),
 (165,6,[0,0,0,0,8,0,0,64,224,480,0,0,3072,7168,16355,32739,65535,131071]),
 (166,5,[0,0,0,6,14,0,0,96,224,511,1023]),
 (166,11,[0,0,0,0,8,0,0,64,224,480,0,0,3072,7168,16355,32739,65535,131071]),
 (166,17,[0,0,0,6,14,0,0,96,224,511,1023,2047]),
 (166,23,[0,0,0,0,8,0,0,64,224,480,0,0,3072,7168,16355,32739,65535,131071]),
 (166,35,[0,0,0,0,12,30,62,0,0,384,896,2047,4095,8191]),
 (171,2,[0,0,0,6,15,31,0,0,0,384,896,2015,4095,0,0,16384,57344,122880,253952,8191,1048575]),
 (178,17,[0,1,3,7,7,23,63,127,7,7,775,1799,4095,8191,16383]),
 (182,8,[0,1,3,7,0,16,48,112,240,511,1023,2047]),
 (185,7,[0,1,3,7,15,31,15,79,255,511,1023,2047,4095,8191,16383,32767,65535,131071,262143,65535,65535,1114111,3735551,7929855,16777215,33554431]),
 (185,12,[0,1,3,7,7,31,63,127,255,255,1023,2047,4095,8191,16383,32767,32767,131071,262143,524287,32767,1081343,4194303,8388607,16777215]),
 (187,16,[0,0,0,6,15,31,63,127,0,0,0,1536,3584,7936,16128,32512,65535,131071]),
 (187,17,[0,0,0,4,14,30,62,127,0,0,0,1024,3584,7680,15872,32512,255,131071]),
 (187,18,[0,1,3,7,7,7,39,119,247,503,1023,7,2055,7,7,7,49159,114695,253959,516103,1040391,2095111,4194303,8388607]),
 (187,43,[0,0,0,0,12,30,62,126,0,0,768,1792,3840,8190,16383,32767]),
 (187,55,[0,0,3,7,0,0,32,112,240,0,512,2032,4095,8191,16383]),
 (190,4,[0,0,3,7,15,15,63,127,15,15,527,1807,3855,8191,16383]),
 (190,6,[0,0,0,0,8,0,0,64,224,480,0,0,3072,7168,16355,32739,65535,131071]),
 (191,10,[0,0,0,0,0,24,0,0,0,384,960,1984,0,0,12288,28672,65475,131011,262143,524287]),
 (192,10,[0,0,0,0,0,24,0,0,0,384,960,1984,0,0,12288,28672,65475,131011,262143,524287]),
 (194,3,[0,0,0,0,0,0,48,112,0,0,768,1792,4083,8179,16383,32767]),
 (195,5,[0,0,3,7,15,15,63,127,15,15,527,1807,3855,8191,16383,32767]),
 (195,11,[0,0,0,0,8,0,0,64,224,480,0,0,3072,7168,16355,32739,65535,131071]),
 (195,16,[0,0,3,7,0,0,32,112,240,511,1023]),
 (195,17,[0,0,0,0,8,0,0,64,224,480,0,0,3072,7168,16355,32739,65535,131071]),
 (195,22,[0,0,3,7,0,0,32,112,240,511,1023]),
 (195,23,[0,0,0,0,8,0,0,64,224,480,0,0,3072,7168,16355,32739,65535,131071]),
 (197,1,[0,0,0,0,0,0,48,112,0,0,768,1792,4083,8179,16383,32767]),
 (197,3,[0,0,3,7,15,15,63,127,15,15,783,1807,4095,8191,16383]),
 (197,5,[0,0,3,7,15,15,63,127,15,15,783,1807,4095,8191]),
 (197,8,[0,0,0,0,0,0,48,112,0,0,768,1792,4083,8179,16383,32767]),
 (198,1,[0,0,0,0,0,0,48,112,0,0,768,1792,4083,8179,16383,32767]),
 (198,3,[0,0,3,7,15,15,63,127,15,15,783,1807,4095,8191]),
 (198,5,[0,0,3,7,15,15,63,127,15,15,783,1807,4095,8191,16383]),
 (198,8,[0,0,0,0,0,0,48,112,0,0,768,1792,4083,8179,16383,32767]),
 (198,10,[0,0,0,0,0,0,48,112,0,0,768,1792,4083,8179,16383,32767]),
 (198,13,[0,0,3,7,15,15,63,127,15,15,783,1807,4095,8191]),
 (198,15,[0,0,3,7,15,15,63,127,15,15,783,1807,4095,8191,16383]),
 (198,18,[0,0,0,0,0,0,48,112,0,0,768,1792,4083,8179,16383,32767]),
 (198,21,[0,0,0,0,0,0,48,112,0,0,768,1792,4083,8179,16383,32767]),
 (201,3,[0,0,0,6,0,0,0,96,0,0,0,1536,3840,7936,0,0,0,98304,245760,507904,1048335,2096911,4194303,8388607]),
 (207,3,[0,1,0,7,15,31,31,31,223,511,1023,31,31,31,12319,28703,63519,129055,262143,524287]),
 (207,5,[0,0,0,6,15,31,0,0,0,384,960,1984,4095,8191]),
 (207,6,[0,0,0,6,0,0,0,96,0,0,0,1536,3840,7936,0,0,0,98304,245760,507904,1048335,2096911,4194303,8388607]),
 (209,1,[0,1,3,0,8,24,56,127,255,511]),
 (209,2,[0,1,3,0,8,24,56,127,255,511]),
 (209,3,[0,1,3,0,8,24,56,127,255,511]),
 (215,7,[0,0,2,0,0,16,0,64,192,0,512,455,2503,8191,16383]),
 (215,8,[0,0,2,0,0,16,0,64,192,0,512,455,2503,8191,16383]),
 (215,9,[0,0,2,0,0,16,0,64,192,0,512,455,2503,8191,16383]),
 (215,10,[0,0,2,0,0,16,0,64,192,0,512,455,2503,8191,16383]),
 (215,17,[0,0,2,0,0,16,0,64,192,0,512,455,2503,8191,16383]),
 (215,18,[0,0,2,0,0,16,0,64,192,0,512,455,2503,8191,16383]),
 (215,23,[0,0,2,0,0,16,0,64,192,0,512,455,2503,8191,16383]),
 (217,1,[0,0,3,7,0,0,48,112,255])]
def S7:List (Nat×Nat×List Nat)->Nat->Nat->List Nat
 | [],_,_=>[]
 | (f,k,m)::l,f',k'=>match Nat.beq f f' && Nat.beq k k' with
  | true=>m
  | false=>S7 l f' k'
def qmI:List (Nat×Nat):=[(50,110),(52,111),(108,99),(187,204)]
def Bi:List (Nat×Nat)->Nat->Nat->Bool
 | [],_,_=>false
 | (a,b)::l,f,g=>match Nat.beq a f && Nat.beq b g with
  | true=>true
  | false=>Bi l f g
def qpB:List (Nat×Nat):=[]
def qkS:List (Nat×Nat):=[(108,99)]
def qpD:List Nat:=[172]
def zq:List Nat->Nat->Bool
 | [],_=>false
 | a::l,f=>match Nat.beq a f with
  | true=>true
  | false=>zq l f
def qpK:List (Nat×Nat×List (Nat×Nat)):=[(59,12,[(14,15)])]
def Zn:List (Nat×Nat×List (Nat×Nat))->Nat->Nat->List (Nat×Nat)
 | [],_,_=>[]
 | (a,b,p)::l,f,k=>match Nat.beq a f && Nat.beq b k with
  | true=>p
  | false=>Zn l f k
def qmV:List (Nat×Nat×List (Nat×List Nat)):=[(6,13,[(7,[3]),(9,[3])]),(50,11,[(8,[1])]),(52,5,[(2,[1])]),(52,6,[(5,[1])]),(67,1,[(2,[3])]),(91,16,[(14,[1])]),(97,1,[(7,[8])]),(98,1,[(3,[0,1])])]
def Wr:List (Nat×Nat×List (Nat×List Nat))->Nat->Nat->List (Nat×List Nat)
 | [],_,_=>[]
 | (a,b,p)::l,f,k=>match Nat.beq a f && Nat.beq b k with
  | true=>p
  | false=>Wr l f k
def qoT:List (Nat×Nat):=[(6,13),(24,3),(34,3),(39,3),(50,11),(52,5),(52,6),(67,1),(91,16),(97,1),(98,1),(101,7),(165,4),(166,5),(166,17),(166,35)]
def qmJ:List Nat:=[15,17,24,28,29,30,32,33,34,35,36,37,38,39,40,41,42,43,44,49,50,62,65,66,67,68,80,81,84,91,92,93,95,96,97,98,99,100,101,102,103,104,105,106,108,115,124,125,139,145,146,147,165,166,186,201]
def qnz:List (Nat×Nat):=[]
def LN:List Nat:=[140,177]
noncomputable def ae:Cfg where
 P:=prog
 inl:=fun f g=>match zq qmJ g with | true=>(match Bi qnz f g with | true=>false | false=>true) | false=>Bi qmI f g
 ben:=zq LN
 seqm:=Bi qoT
 late:=Wr qmV
 frzc:=Bi qkS
 arrm:=zq [50,52,54,65,104,124]
 tokm:=zq qpD
 two:=Zn qpK
 thaw:=Bi qpB
 mask:=Xf qnj
 ord:=XH qnU
 ahd:=S7 qhA
 lib:=fun g=>match Nat.beq g 141 with | true=>some yZ | false=>none
 libm:=fun g=>match Nat.beq g 148 with | true=>some zn | false=>match Nat.beq g 149 with | true=>some xZ | false=>none
theorem at3:ae.P.funcs[3]?=some f3:=by kernel_rfl
theorem at7:ae.P.funcs[7]?=some f7:=by kernel_rfl
theorem qhY:ae.P.funcs[11]?=some f11:=by kernel_rfl
theorem qh7:ae.P.funcs[12]?=some f12:=by kernel_rfl
theorem qiu:ae.P.funcs[15]?=some f15:=by kernel_rfl
theorem qiK:ae.P.funcs[17]?=some f17:=by kernel_rfl
theorem qiO:ae.P.funcs[18]?=some f18:=by kernel_rfl
theorem qiW:ae.P.funcs[20]?=some f20:=by kernel_rfl
theorem qi1:ae.P.funcs[21]?=some f21:=by kernel_rfl
theorem qi2:ae.P.funcs[22]?=some f22:=by kernel_rfl
theorem qi3:ae.P.funcs[23]?=some f23:=by kernel_rfl
theorem qi4:ae.P.funcs[31]?=some f31:=by kernel_rfl
theorem qi5:ae.P.funcs[32]?=some f32:=by kernel_rfl
theorem qi6:ae.P.funcs[33]?=some f33:=by kernel_rfl
theorem qi7:ae.P.funcs[34]?=some f34:=by kernel_rfl
theorem qi8:ae.P.funcs[41]?=some f41:=by kernel_rfl
theorem qi9:ae.P.funcs[43]?=some f43:=by kernel_rfl
theorem qja:ae.P.funcs[44]?=some f44:=by kernel_rfl
theorem qjb:ae.P.funcs[45]?=some f45:=by kernel_rfl
theorem qjc:ae.P.funcs[46]?=some f46:=by kernel_rfl
theorem qjd:ae.P.funcs[47]?=some f47:=by kernel_rfl
theorem qje:ae.P.funcs[48]?=some f48:=by kernel_rfl
theorem qjf:ae.P.funcs[49]?=some f49:=by kernel_rfl
theorem qjg:ae.P.funcs[50]?=some f50:=by kernel_rfl
theorem qjh:ae.P.funcs[53]?=some f53:=by kernel_rfl
theorem qji:ae.P.funcs[54]?=some f54:=by kernel_rfl
theorem qjj:ae.P.funcs[55]?=some f55:=by kernel_rfl
theorem qjk:ae.P.funcs[57]?=some f57:=by kernel_rfl
theorem qjl:ae.P.funcs[62]?=some f62:=by kernel_rfl
theorem qjm:ae.P.funcs[63]?=some f63:=by kernel_rfl
theorem qjn:ae.P.funcs[64]?=some f64:=by kernel_rfl
theorem qjo:ae.P.funcs[65]?=some f65:=by kernel_rfl
theorem qjp:ae.P.funcs[66]?=some f66:=by kernel_rfl
theorem qjq:ae.P.funcs[67]?=some f67:=by kernel_rfl
theorem qjr:ae.P.funcs[68]?=some f68:=by kernel_rfl
theorem qjs:ae.P.funcs[69]?=some f69:=by kernel_rfl
theorem qjt:ae.P.funcs[70]?=some f70:=by kernel_rfl
theorem qju:ae.P.funcs[71]?=some f71:=by kernel_rfl
theorem qjv:ae.P.funcs[72]?=some f72:=by kernel_rfl
theorem qjw:ae.P.funcs[73]?=some f73:=by kernel_rfl
theorem qjx:ae.P.funcs[74]?=some f74:=by kernel_rfl
theorem qjy:ae.P.funcs[75]?=some f75:=by kernel_rfl
theorem qjz:ae.P.funcs[76]?=some f76:=by kernel_rfl
theorem qjA:ae.P.funcs[77]?=some f77:=by kernel_rfl
theorem qjB:ae.P.funcs[78]?=some f78:=by kernel_rfl
theorem qjC:ae.P.funcs[79]?=some f79:=by kernel_rfl
theorem qjD:ae.P.funcs[80]?=some f80:=by kernel_rfl
theorem qjE:ae.P.funcs[81]?=some f81:=by kernel_rfl
theorem qjF:ae.P.funcs[84]?=some f84:=by kernel_rfl
theorem qjG:ae.P.funcs[88]?=some f88:=by kernel_rfl
theorem qjH:ae.P.funcs[91]?=some f91:=by kernel_rfl
theorem qjI:ae.P.funcs[92]?=some f92:=by kernel_rfl
theorem qjJ:ae.P.funcs[93]?=some f93:=by kernel_rfl
theorem qjK:ae.P.funcs[94]?=some f94:=by kernel_rfl
theorem qjL:ae.P.funcs[95]?=some f95:=by kernel_rfl
theorem qjM:ae.P.funcs[96]?=some f96:=by kernel_rfl
theorem qjN:ae.P.funcs[97]?=some f97:=by kernel_rfl
theorem qjO:ae.P.funcs[98]?=some f98:=by kernel_rfl
theorem qjP:ae.P.funcs[99]?=some f99:=by kernel_rfl
theorem qhT:ae.P.funcs[104]?=some f104:=by kernel_rfl
theorem qhU:ae.P.funcs[106]?=some f106:=by kernel_rfl
theorem qhV:ae.P.funcs[107]?=some f107:=by kernel_rfl
theorem qhW:ae.P.funcs[108]?=some f108:=by kernel_rfl
theorem qhX:ae.P.funcs[109]?=some f109:=by kernel_rfl
theorem qhZ:ae.P.funcs[110]?=some f110:=by kernel_rfl
theorem qh0:ae.P.funcs[112]?=some f112:=by kernel_rfl
theorem qh1:ae.P.funcs[113]?=some f113:=by kernel_rfl
theorem qh2:ae.P.funcs[114]?=some f114:=by kernel_rfl
theorem qh3:ae.P.funcs[115]?=some f115:=by kernel_rfl
theorem qh4:ae.P.funcs[116]?=some f116:=by kernel_rfl
theorem qh5:ae.P.funcs[117]?=some f117:=by kernel_rfl
theorem qh6:ae.P.funcs[119]?=some f119:=by kernel_rfl
theorem qh8:ae.P.funcs[123]?=some f123:=by kernel_rfl
theorem qh9:ae.P.funcs[124]?=some f124:=by kernel_rfl
theorem qia:ae.P.funcs[125]?=some f125:=by kernel_rfl
theorem qib:ae.P.funcs[126]?=some f126:=by kernel_rfl
theorem qic:ae.P.funcs[127]?=some f127:=by kernel_rfl
theorem qid:ae.P.funcs[128]?=some f128:=by kernel_rfl
theorem qie:ae.P.funcs[129]?=some f129:=by kernel_rfl
theorem qif:ae.P.funcs[130]?=some f130:=by kernel_rfl
theorem qig:ae.P.funcs[131]?=some f131:=by kernel_rfl
theorem qih:ae.P.funcs[132]?=some f132:=by kernel_rfl
theorem qii:ae.P.funcs[133]?=some f133:=by kernel_rfl
theorem qij:ae.P.funcs[134]?=some f134:=by kernel_rfl
theorem qik:ae.P.funcs[135]?=some f135:=by kernel_rfl
theorem qil:ae.P.funcs[136]?=some f136:=by kernel_rfl
theorem qim:ae.P.funcs[137]?=some f137:=by kernel_rfl
theorem qin:ae.P.funcs[139]?=some f139:=by kernel_rfl
theorem qio:ae.P.funcs[141]?=some f141:=by kernel_rfl
theorem qip:ae.P.funcs[142]?=some f142:=by kernel_rfl
theorem qiq:ae.P.funcs[143]?=some f143:=by kernel_rfl
theorem qir:ae.P.funcs[144]?=some f144:=by kernel_rfl
theorem qis:ae.P.funcs[145]?=some f145:=by kernel_rfl
theorem qit:ae.P.funcs[148]?=some f148:=by kernel_rfl
theorem qiv:ae.P.funcs[150]?=some f150:=by kernel_rfl
theorem qiw:ae.P.funcs[151]?=some f151:=by kernel_rfl
theorem qix:ae.P.funcs[152]?=some f152:=by kernel_rfl
theorem qiy:ae.P.funcs[153]?=some f153:=by kernel_rfl
theorem qiz:ae.P.funcs[154]?=some f154:=by kernel_rfl
theorem qiA:ae.P.funcs[155]?=some f155:=by kernel_rfl
theorem qiB:ae.P.funcs[156]?=some f156:=by kernel_rfl
theorem qiC:ae.P.funcs[157]?=some f157:=by kernel_rfl
theorem qiD:ae.P.funcs[163]?=some f163:=by kernel_rfl
theorem qiE:ae.P.funcs[164]?=some f164:=by kernel_rfl
theorem qiF:ae.P.funcs[165]?=some f165:=by kernel_rfl
theorem qiG:ae.P.funcs[166]?=some f166:=by kernel_rfl
theorem qiH:ae.P.funcs[167]?=some f167:=by kernel_rfl
theorem qiI:ae.P.funcs[168]?=some f168:=by kernel_rfl
theorem qiJ:ae.P.funcs[169]?=some f169:=by kernel_rfl
theorem qiL:ae.P.funcs[170]?=some f170:=by kernel_rfl
theorem qiM:ae.P.funcs[171]?=some f171:=by kernel_rfl
theorem qiN:ae.P.funcs[172]?=some f172:=by kernel_rfl
theorem qiP:ae.P.funcs[180]?=some f180:=by kernel_rfl
theorem qiQ:ae.P.funcs[181]?=some f181:=by kernel_rfl
theorem qiR:ae.P.funcs[182]?=some f182:=by kernel_rfl
theorem qiS:ae.P.funcs[183]?=some f183:=by kernel_rfl
theorem qiT:ae.P.funcs[186]?=some f186:=by kernel_rfl
theorem qiU:ae.P.funcs[187]?=some f187:=by kernel_rfl
theorem qiV:ae.P.funcs[199]?=some f199:=by kernel_rfl
theorem qiX:ae.P.funcs[201]?=some f201:=by kernel_rfl
theorem qiY:ae.P.funcs[202]?=some f202:=by kernel_rfl
theorem qiZ:ae.P.funcs[203]?=some f203:=by kernel_rfl
theorem qi0:ae.P.funcs[204]?=some f204:=by kernel_rfl
noncomputable def ck (f:Nat) (c:Code) (i:Nat) (l:List AV) (m:af) (K:KT):OM:=qD (cu ae f (AP ae) (AC ae) c) (ae.mask f (some i)) ⟨l,m⟩ K
noncomputable abbrev nQ (f:Nat) (c:Code) (i:Nat) (K:KT):KT:=qe (fun st=>qD (cu ae f (AP ae) (AC ae) c) (ae.mask f (some i)) st K) (ae.mask f (some i)) K
noncomputable abbrev bE (f:Nat) (c:Code) (X:KT):KT:=xd (fun st=>cu ae f (AP ae) (AC ae) c st X) X
abbrev TV (c:Code):Code:=c1 (c1 (c1 (c1 c)))
abbrev nD (c:Code):Code:=c1 (c1 (c1 (c2 c)))
abbrev b9 (c:Code):Code:=c1 (c1 (c2 (c1 c)))
abbrev uO (c:Code):Code:=c1 (c1 (c2 (c2 c)))
abbrev Hw (c:Code):Code:=c1 (c2 (c1 (c1 c)))
abbrev mD (c:Code):Code:=c1 (c2 (c1 (c2 c)))
abbrev yb (c:Code):Code:=c1 (c2 (c2 (c1 c)))
abbrev Di (c:Code):Code:=c1 (c2 (c2 (c2 c)))
abbrev qkt (c:Code):Code:=c2 (c1 (c1 (c1 c)))
abbrev wi (c:Code):Code:=c2 (c1 (c1 (c2 c)))
abbrev Dj (c:Code):Code:=c2 (c1 (c2 (c1 c)))
abbrev pE (c:Code):Code:=c2 (c1 (c2 (c2 c)))
abbrev kY (c:Code):Code:=c2 (c2 (c1 (c1 c)))
abbrev L3 (c:Code):Code:=c2 (c2 (c1 (c2 c)))
abbrev kZ (c:Code):Code:=c2 (c2 (c2 (c1 c)))
abbrev bo (c:Code):Code:=c2 (c2 (c2 (c2 c)))
end Go.Ab
namespace Go.Ab
noncomputable section
open Go.Proofs.Tryz
theorem T32 (a0:AV) (m:af):AC ae 32 [a0] m=(aO false a0).bind fun v1=>(ag .other .gtr v1 (.int .i64 16)).bind fun v2=>aw v2 (some ((.tup [.nilp,(.int .i64 2)]),m)) ((AC ae 92 [a0,(.fn 93 [])] m).bind fun r3=>aw r3.1 (some ((.tup [.nilp,(.int .i64 1)]),r3.2)) ((aD (AP ae) none r3.2 88 [a0]).bind fun r4=>(gm (.agg [au,au,.nilm,(.int .i64 0)]) [(0,none,r4.1),(2,none,(.mref (az none r4.2 .resv).1)),(3,none,(.int .i64 4000))]).bind fun v5=>(dI none (some 4) (az none r4.2 (.mp .str [])).2 v5).bind fun r6=>some ((.tup [r6.1,(.int .i64 0)]),r6.2))):=
(bm ae 32 [a0] m (fn:=f32) (c:=aB f32) qi5 rfl).trans (by kernel_rfl)
theorem T92 (a0 a1:AV) (m:af):AC ae 92 [a0,a1] m=(AC ae 145 [a0,a1] m).bind fun r1=>(ag .other .geq r1.1 (.int .i64 0)).bind fun v2=>some (v2,r1.2):=
(bm ae 92 [a0,a1] m (fn:=f92) (c:=aB f92) qjI rfl).trans (by kernel_rfl)
def Rs (m:af):St:=⟨(bC (aK (aG []))),m⟩
def RI (x4:AV) (m:af):St:=⟨(aM (x4::aW (aM (aK [])))),m⟩
def zQ (x0 x1 x7 x8:AV) (m:af) (K:KT):OM:=ck 145 (b9 (c2 (aB f145))) 2 (x0::x1::aM (aG (x7::x8::aW (aK [])))) m K
abbrev qb3 (K:KT):KT:=bE 145 (c2 (c2 (aB f145))) K
abbrev qb4 (K:KT):KT:=bz 0 (qb3 K)
abbrev zL (K:KT):KT:=(qb4 K)
theorem qf2 (a0 a1:AV) (m:af):AC ae 145 [a0,a1] m=(aO false a0).bind fun v1=>zQ a0 a1 v1 (.int .i64 0) m (zL (aE ae.P f145.results.toList)):=
(bm ae 145 [a0,a1] m (fn:=f145) (c:=aB f145) qis rfl).trans (by kernel_rfl)
theorem Qx (x0 x1 x7 x8:AV) (m:af) (K:KT):zQ x0 x1 x7 x8 m K=(ag .other .lss x8 x7).bind fun v1=>aw v1 ((aH none x0 x8).bind fun v2=>(aj none m v2).bind fun v3=>(lH x1).bind fun g4=>j0 ae 145 (AP ae) (AC ae) none g4.1 ([v3]++g4.2) m fun v5 m6=>aw v5 (K .ret (RI x8 m6)) ((ag .other .add x8 (.int .i64 1)).bind fun v7=>zQ x0 x1 x7 v7 m6 K)) (K (.exit 0) (Rs m)):=
(cg (bW _) _ _ _).trans (by kernel_rfl)
theorem qb6 (m:af):zL (aE ae.P f145.results.toList) (.exit 0) (Rs  m)=some ((.int .i64 (-1)),m):=by kernel_rfl
theorem qb5 (x4:AV) (m:af):zL (aE ae.P f145.results.toList) .ret (RI x4 m)=some (x4,m):=by kernel_rfl
theorem T93 (a0:AV) (m:af):AC ae 93 [a0] m=(ag .other .lss a0 (.int .i64 1)).bind fun v1=>aw v1 (some ((.bool true),m)) ((ag .other .gtr a0 (.int .i64 64)).bind fun v2=>some (v2,m)):=
(bm ae 93 [a0] m (fn:=f93) (c:=aB f93) qjJ rfl).trans (by kernel_rfl)
theorem Ls (a0:AV) (m:af):AC ae 88 [a0] m=(ag .sl .eql a0 au).bind fun v1=>aw v1 (some (au,m)) ((dO none []).bind fun v2=>(b8 none false 3 none 8 m v2 a0).bind fun r3=>some (r3.1,r3.2)):=
(bm ae 88 [a0] m (fn:=f88) (c:=aB f88) qjG rfl).trans (by kernel_rfl)
theorem T80 (a0:AV) (m:af):AC ae 80 [a0] m=(ag .pt .eql a0 .nilp).bind fun v1=>aw v1 (some ((.bool true),m)) ((iG a0).bind fun v2=>(aT 3 v2).bind fun v3=>(aj none m v3).bind fun v4=>(ag .other .eql v4 (.int .i64 0)).bind fun v5=>some (v5,m)):=
(bm ae 80 [a0] m (fn:=f80) (c:=aB f80) qjD rfl).trans (by kernel_rfl)
theorem R7 (a0:AV) (m:af):AC ae 94 [a0] m=(ag .other .geq a0 (.int .i64 0)).bind fun v1=>aw v1 ((ag .other .leq a0 (.int .i64 2147483647)).bind fun v2=>some (v2,m)) (some ((.bool false),m)):=
(bm ae 94 [a0] m (fn:=f94) (c:=aB f94) qjK rfl).trans (by kernel_rfl)
theorem R6 (a0 a1:AV) (m:af):AC ae 84 [a0,a1] m=(dI none none m a0).bind fun r1=>(aj none (az none (az none r1.2 (.obj true [(.int .i64 0)])).2 (.obj true [(.int .i64 0)])).2 r1.1).bind fun v2=>(iG v2).bind fun v3=>(aT 1 v3).bind fun v4=>(aj none (az none (az none r1.2 (.obj true [(.int .i64 0)])).2 (.obj true [(.int .i64 0)])).2 v4).bind fun v5=>(aO false v5).bind fun v6=>(aL none (az none (az none (az none r1.2 (.obj true [(.int .i64 0)])).2 (.obj true [(.int .i64 0)])).2 (.obj true [(.int .i64 0)])).2 (.ptr (az none (az none (az none r1.2 (.obj true [(.int .i64 0)])).2 (.obj true [(.int .i64 0)])).2 .resv).1 0) v6).bind fun m7=>(lH a1).bind fun g8=>j0 ae 84 (AP ae) (AC ae) none g8.1 ([]++g8.2) m7 fun v9 m10=>(aL none m10 (.ptr (az none r1.2 .resv).1 0) v9).bind fun m11=>(aL none m11 (.ptr (az none (az none r1.2 (.obj true [(.int .i64 0)])).2 .resv).1 0) (.int .i64 0)).bind fun m12=>(aj none m12 (.ptr (az none r1.2 .resv).1 0)).bind fun bu=>(aj none m12 (.ptr (az none (az none r1.2 (.obj true [(.int .i64 0)])).2 .resv).1 0)).bind fun bq=>some ((.tup [bu,bq]),m12):=
(bm ae 84 [a0,a1] m (fn:=f84) (c:=aB f84) qjF rfl).trans (by kernel_rfl)
theorem T95 (a0 a1:AV) (m:af):AC ae 95 [a0,a1] m=(aj none m a0).bind fun v1=>(aj none m a1).bind fun v2=>(AC ae 96 [v1,v2] m).bind fun r3=>some (r3.1,r3.2):=
(bm ae 95 [a0,a1] m (fn:=f95) (c:=aB f95) qjL rfl).trans (by kernel_rfl)
theorem T96 (a0 a1:AV) (m:af):AC ae 96 [a0,a1] m=(gm (.agg [(.int .i64 0),au,(.int .i64 0)]) [(0,none,(.int .i64 (-1))),(2,none,a1)]).bind fun v1=>(AC ae 139 [a0,v1] m).bind fun r2=>some (r2.1,r2.2):=
(bm ae 96 [a0,a1] m (fn:=f96) (c:=aB f96) qjM rfl).trans (by kernel_rfl)
theorem T81 (a0 a1:AV) (m:af):AC ae 81 [a0,a1] m=(ag .other .geq a1 (.int .i64 0)).bind fun v1=>aw v1 ((iG a0).bind fun v2=>(aT 1 v2).bind fun v3=>(aj none m v3).bind fun v4=>(aO false v4).bind fun v5=>(ag .other .lss a1 v5).bind fun v6=>some (v6,m)) (some ((.bool false),m)):=
(bm ae 81 [a0,a1] m (fn:=f81) (c:=aB f81) qjE rfl).trans (by kernel_rfl)
theorem T68 (a0 a1:AV) (m:af):AC ae 68 [a0,a1] m=(iG a0).bind fun v1=>(aT 1 v1).bind fun v2=>(aj none m v2).bind fun v3=>(aH (some 3) v3 a1).bind fun v4=>(aj (some 3) m v4).bind fun v5=>(aL (some 3) (az none m (.obj true [(.int .i64 0),au,(.int .i64 0)])).2 (.ptr (az none m .resv).1 0) v5).bind fun m6=>(aT 0 (.ptr (az none m .resv).1 0)).bind fun v7=>(aj none m6 v7).bind fun v8=>(ag .other .geq v8 (.int .i64 0)).bind fun v9=>aw v9 ((aT 0 (.ptr (az none m .resv).1 0)).bind fun v10=>(aj none m6 v10).bind fun v11=>some (v11,m6)) ((iG a0).bind fun v12=>(aT 0 v12).bind fun bu=>(aj none m6 bu).bind fun bq=>(aO false bq).bind fun br=>some (br,m6)):=
(bm ae 68 [a0,a1] m (fn:=f68) (c:=aB f68) qjr rfl).trans (by kernel_rfl)
def Ll (x2:AV) (m:af):St:=⟨(aK (x2::bC (aW (aK [])))),m⟩
def Ln (x6:AV) (m:af):St:=⟨(aM (aK (x6::bC (aM (aK []))))),m⟩
def GC (x0 x1 x2 x9 aF aZ:AV) (m:af) (K:KT):OM:=ck 99 (b9 (c2 (aB f99))) 2 (x0::x1::x2::aM (aK (x9::aF::aZ::bC (aG [])))) m K
abbrev qe6 (K:KT):KT:=bE 99 (c2 (c2 (aB f99))) K
abbrev qe7 (K:KT):KT:=bz 0 (qe6 K)
abbrev FL (K:KT):KT:=(qe7 K)
theorem T99 (a0 a1 a2:AV) (m:af):AC ae 99 [a0,a1,a2] m=(aO false a2).bind fun v1=>GC a0 a1 a2 a2 v1 (.int .i64 0) m (FL (aE ae.P f99.results.toList)):=
(bm ae 99 [a0,a1,a2] m (fn:=f99) (c:=aB f99) qjP rfl).trans (by kernel_rfl)
theorem Ri (x0 x1 x2 x9 aF aZ:AV) (m:af) (K:KT):GC x0 x1 x2 x9 aF aZ m K=(ag .other .lss aZ aF).bind fun v1=>aw v1 ((aH none x9 aZ).bind fun v2=>(aj none m v2).bind fun v3=>(aH none x2 (.int .i64 0)).bind fun v4=>(aj none m v4).bind fun v5=>(ag .other .neq v3 v5).bind fun v6=>aw v6 ((gm (.agg [(.int .i64 0),au,(.int .i64 0)]) [(0,none,x1),(1,none,x2)]).bind fun v7=>(AC ae 139 [x0,v7] m).bind fun r8=>K .ret (Ln r8.1 r8.2)) ((ag .other .add aZ (.int .i64 1)).bind fun v9=>GC x0 x1 x2 x9 aF v9 m K)) (K (.exit 0) (Ll x2 m)):=
(cg (bW _) _ _ _).trans (by kernel_rfl)
theorem qe9 (x2:AV) (m:af):FL (aE ae.P f99.results.toList) (.exit 0) (Ll x2 m)=(aH none x2 (.int .i64 0)).bind fun v1=>(aj none m v1).bind fun v2=>some (v2,m):=by kernel_rfl
theorem qe8 (x6:AV) (m:af):FL (aE ae.P f99.results.toList) .ret (Ln x6 m)=some (x6,m):=by kernel_rfl
theorem Lp (a0 a1:AV) (m:af):AC ae 139 [a0,a1] m=(dI none (some 3) m a1).bind fun r1=>(aj (some 3) r1.2 r1.1).bind fun v2=>(yZ [v2]).bind fun v3=>(iG a0).bind fun v4=>(aT 2 v4).bind fun v5=>(aj none r1.2 v5).bind fun v6=>(o8 .str (.int .i64 0) r1.2 v6 v3).bind fun q7=>(aY (.tup [q7.1,.bool q7.2]) 0).bind fun v8=>(aY (.tup [q7.1,.bool q7.2]) 1).bind fun v9=>aw v9 (some (v8,r1.2)) ((iG a0).bind fun v10=>(aT 1 v10).bind fun v11=>(aj none r1.2 v11).bind fun v12=>(aO false v12).bind fun bu=>(iG a0).bind fun bq=>(aT 3 bq).bind fun br=>(aj none r1.2 br).bind fun bT=>(ag .other .geq bu bT).bind fun bH=>aw bH ((gm (.agg []) []).bind fun fI=>none) ((iG a0).bind fun dG=>(aT 1 dG).bind fun v20=>(aj none (cU r1.2 1) v20).bind fun v21=>(aj (some 3) (cU r1.2 1) r1.1).bind fun v22=>(dO (some 3) [v22]).bind fun v23=>(b8 (some r1.2.length) false 74 (some 3) 40 (cU r1.2 1) v21 v23).bind fun mo=>(iG a0).bind fun v25=>(aT 1 v25).bind fun v26=>(aL none mo.2 v26 mo.1).bind fun m27=>(iG a0).bind fun v28=>(aT 2 v28).bind fun kR=>(aj none m27 kR).bind fun v30=>(iG a0).bind fun v31=>(aT 1 v31).bind fun mR=>(aj none m27 mR).bind fun pQ=>(aO false pQ).bind fun qO=>(ag .other .sub qO (.int .i64 1)).bind fun nw=>(kQ .str m27 v30 v3 nw).bind fun m36=>(iG a0).bind fun v37=>(aT 1 v37).bind fun te=>(aj none m36 te).bind fun uj=>(aO false uj).bind fun v40=>(ag .other .sub v40 (.int .i64 1)).bind fun EN=>some (EN,m36))):=
(bm ae 139 [a0,a1] m (fn:=f139) (c:=aB f139) qin rfl).trans (by kernel_rfl)
theorem RZ (a0 a1:AV) (m:af):AC ae 33 [a0,a1] m=(dI none none m a0).bind fun r1=>(dI none none r1.2 a1).bind fun r2=>(aj none r2.2 r1.1).bind fun v3=>(AC ae 80 [v3] r2.2).bind fun r4=>aw r4.1 (some ((.tup [(.int .i64 0),(.int .i64 4)]),r4.2)) ((aj none r4.2 r2.1).bind fun v5=>(aD (AP ae) none r4.2 94 [v5]).bind fun r6=>(jN .not r6.1).bind fun v7=>aw v7 (some ((.tup [(.int .i64 0),(.int .i64 1)]),r6.2)) ((aj none r6.2 r1.1).bind fun v8=>(AC ae 84 [v8,(.fn 95 [r1.1,r2.1])] r6.2).bind fun r9=>(aY r9.1 0).bind fun v10=>(aY r9.1 1).bind fun v11=>some ((.tup [v10,v11]),r9.2))):=
(bm ae 33 [a0,a1] m (fn:=f33) (c:=aB f33) qi6 rfl).trans (by kernel_rfl)
end
end Go.Ab
namespace Go.Ab
theorem qp2 (x:Int):IntKind.wrap .i64 x=if x % 18446744073709551616≥9223372036854775808 then x % 18446744073709551616 - 18446744073709551616 else x % 18446744073709551616:=by
 show (if (true && decide (x % 18446744073709551616≥9223372036854775808))=true then x % 18446744073709551616 - 18446744073709551616 else x % 18446744073709551616)=_
 simp
theorem ZF (x:Int):IntKind.wrap .u64 x=x % 18446744073709551616:=by
 rfl
theorem xm (x:Int):IntKind.wrap .u32 x=x % 4294967296:=by
 rfl
theorem iQ {x:Int} (h:-9223372036854775808<=x) (h':x < 9223372036854775808):IntKind.wrap .i64 x=x:=by
 rw[qp2];split<;>omega
theorem jv {x:Int} (h:0<=x) (h':x < 18446744073709551616):IntKind.wrap .u64 x=x:=by
 rw[ZF];omega
theorem zz {x:Int} (h:0<=x) (h':x < 4294967296):IntKind.wrap .u32 x=x:=by
 rw[xm];omega
structure NV where
 z:Bool
 o:Own
 ds:List Nat
def dg (d:Nat):AV:=.int .u32 d
def NV.av (x:NV):AV:=.lst none x.z x.o (x.ds.map dg)
section
variable {R:Type}
theorem ir (tk:TK) (k:IntKind) (a b:Int):ag tk .gtr (.int k a) (.int k b)=some (.bool (decide (a > b))):=by cases tk<;>simp[ag,re]
theorem bh (tk:TK) (k:IntKind) (a b:Int):ag tk .lss (.int k a) (.int k b)=some (.bool (decide (a < b))):=by cases tk<;>simp[ag,re]
theorem jZ (tk:TK) (k:IntKind) (a b:Int):ag tk .geq (.int k a) (.int k b)=some (.bool (decide (a≥b))):=by cases tk<;>simp[ag,re]
theorem si (tk:TK) (k:IntKind) (a b:Int):ag tk .leq (.int k a) (.int k b)=some (.bool (decide (a<=b))):=by cases tk<;>simp[ag,re]
theorem iS (tk:TK) (k:IntKind) (a b:Int):ag tk .eql (.int k a) (.int k b)=some (.bool (decide (a=b))):=by cases tk<;>simp[ag,re]<;>rfl
theorem jg (tk:TK) (k:IntKind) (a b:Int):ag tk .neq (.int k a) (.int k b)=some (.bool (decide (a≠b))):=by cases tk<;>simp[ag,re]<;>by_cases h:a=b<;>simp[h]
theorem kX (tk:TK) (k:IntKind) (a b:Int):ag tk .add (.int k a) (.int k b)=some (.int k (k.wrap (a+b))):=by cases tk<;>simp[ag,re]
theorem pB (tk:TK) (k:IntKind) (a b:Int):ag tk .sub (.int k a) (.int k b)=some (.int k (k.wrap (a - b))):=by cases tk<;>simp[ag,re]
theorem we (tk:TK) (k:IntKind) (a b:Int):ag tk .mul (.int k a) (.int k b)=some (.int k (k.wrap (a * b))):=by cases tk<;>simp[ag,re]
theorem o0 (sh:Sh) (z:Bool) (o:Own) (es:List AV):aO false (.lst sh z o es)=some (.int .i64 es.length):=rfl
theorem aA (p:Prop) [Decidable p] (x y:Option R):aw (.bool (decide p)) x y=if p then x else y:=by
 by_cases h:p<;>simp[aw,h]
theorem tY {z:Bool} {o:Own} {ds:List Nat} {k:IntKind} {i:Int} (h:0<=i) (h':i < ds.length):aH none (.lst none z o (ds.map dg)) (.int k i)=some (.vptr [dg (ds.getD i.toNat 0)]):=by
 have hi:i.toNat < ds.length:=by omega
 simp[aH,h,hi,AV.cells,dg,aS]
theorem fV (m:af) (x:AV):aj none m (.vptr [x])=some x:=rfl
theorem YX {z:Bool} {o:Own} {ds:List Nat} {k:IntKind} {i:Int} (h:0<=i) (h':i<=ds.length):nS none (.lst none z o (ds.map dg)) none (some (.int k i)) none=some (.lst none z .no ((ds.take i.toNat).map dg)):=by
 simp[nS,qK,jy,h,h',Ah]
end
def Own.fr:Own->Own
 | .tok ..=>.no
 | o=>o
def NV.fr (x:NV):NV:=⟨x.z,x.o.fr,x.ds⟩
def Fz (v v':AV):Prop:=∀ m,bG m j6 v=some (v',[])
theorem cF (x:NV):Fz x.av x.fr.av:=by
 intro m;obtain ⟨z,o,ds⟩:=x;cases o<;>rfl
theorem gh (k:IntKind) (n:Int):Fz (.int k n) (.int k n):=fun _=>rfl
theorem qv (b:Bool):Fz (.bool b) (.bool b):=fun _=>rfl
section
variable {cp:Nat->List AV->Option AV} {d:Option Nat} {m:af} {g:Nat}
theorem zb:aD cp d m g []=(cp g []).map fun v=>(v,m):=by
 simp[aD,eY,ju]
theorem cJ {a a':AV} (ha:Fz a a'):aD cp d m g [a]=(cp g [a']).map fun v=>(v,m):=by
 simp[aD,eY,ju,ha m]
theorem fG {a a' b b':AV} (ha:Fz a a') (hb:Fz b b'):aD cp d m g [a,b]=(cp g [a',b']).map fun v=>(v,m):=by
 simp[aD,eY,ju,ha m,hb m]
theorem IN {a a' b b' c c':AV} (ha:Fz a a') (hb:Fz b b') (hc:Fz c c'):aD cp d m g [a,b,c]=(cp g [a',b',c']).map fun v=>(v,m):=by
 simp[aD,eY,ju,ha m,hb m,hc m]
theorem qod {a a' b b' c c' e e':AV} (ha:Fz a a') (hb:Fz b b') (hc:Fz c c') (he:Fz e e'):aD cp d m g [a,b,c,e]=(cp g [a',b',c',e']).map fun v=>(v,m):=by
 simp[aD,eY,ju,ha m,hb m,hc m,he m]
end
theorem iK {C:Cfg} {f:Nat} {args:List AV} {v v':AV} {m:af} {l:List Nat} (h:AC C f args []=some (v,m)) (hf:bG m j6 v=some (v',l)) (hv:(mh args || jd v')=true):AP C f args=some v':=by
 unfold AP jG;rw[h];simp only[aa,hf,an hv]
theorem pO (x:NV):jd x.av=true:=rfl
def nU (m:af) (n:Nat):af:=m++[some (.tok n 1)]
theorem W0 {e b:Nat} {z:AV} {m:af} {c:Int} (h:0 < c) (h':c * b<=281474976710656) (h2:c<=9223372036854775807):iP none e none z b m (.int .i64 0) (.int .i64 c)=some (.lst none false (.tok m.length e) [],nU m 0):=by
 have h3:¬ (0:Int)=c:=by omega
 have h4:0<=c:=by omega
 simp[iP,h3,h4,h',h2,az,nU,Sh.size]
theorem C8 {e b:Nat} {m:af} {es:List AV} {z:Bool} {o:Own} {y:AV} (h:(es.length+1) * b<=gG):b8 none false e none b (nU m es.length) (.lst none false (.tok m.length e) es) (.lst none z o [y])=some (.lst none false (.tok m.length e) (es++[y]),nU m (es.length+1)):=by
 simp[b8,nU,af.get,Sh.size,h]
theorem rh (k:IntKind) (n:Int):dO none [.int k n]=some (.lst none false .full [.int k n]):=rfl
theorem lZ (k k':IntKind) (n:Int):bn k (.int k' n)=some (.int k (k.wrap n)):=rfl
theorem To (tk:TK) (k k':IntKind) (a b:Int) (h:0<=b):ag tk .shr (.int k a) (.int k' b)=some (.int k (a.fdiv (2 ^ (min b.toNat k.bits)))):=by
 have:¬ b < 0:=by omega
 cases tk<;>simp[ag,s7,this]
theorem C9 (tk:TK) (k':IntKind) (a:Int) (h:0<=a):ag tk .shr (.int .u64 a) (.int k' 32)=some (.int .u64 (a / 4294967296)):=by
 rw[To tk .u64 k' a 32 (by omega)];show some (AV.int .u64 (a.fdiv 4294967296))=_;rw[Int.fdiv_eq_ediv_of_nonneg _ (by omega)]
def np (m:af) (ds:List Nat):af:=m++[some (.obj false (ds.map dg))]
theorem WZ {e b:Nat} {m:af} {n:Nat} (h':n * b<=281474976710656) (h2:n<=9223372036854775807):iP none e none (.int .u32 0) b m (.int .i64 n) (.int .i64 n)=some (.arr m.length 0 n none,np m (List.replicate n 0)):=by
 have h3:(n:Int) * b<=281474976710656:=by
  have:=Int.ofNat_le.2 h';rw[qR] at this;exact this
 have h4:(n:Int)<=9223372036854775807:=by omega
 have h5:(0:Int)<=n:=by omega
 simp only[iP,h3,h4,h5,az,np,qQ,ql,and_self,bw,cK,List.map_replicate]
 rfl
theorem OB (m:af) (ds:List Nat):(np m ds).obj? m.length=some (false,ds.map dg):=by
 simp[np,af.obj?,af.get]
theorem fZ {nm n:Nat} {k:IntKind} {i:Nat} (h:i < n):aH none (.arr nm 0 n none) (.int k i)=some (.ptr nm i):=by
 have:(i:Int) < n:=by omega
 simp[aH,this,Sh.size]
theorem qm6 {m:af} {ds:List Nat} {i:Nat} (h:i < ds.length):aj none (np m ds) (.ptr m.length i)=some (dg (ds.getD i 0)):=by
 simp[aj,OB,ku,aS,h]
theorem BJ {m:af} {ds:List Nat} {i v:Nat} (h:i < ds.length):aL none (np m ds) (.ptr m.length i) (.int .u32 v)=some (np m (ds.set i v)):=by
 have h1:i+1<=ds.length:=h;simp only[aL,OB,aa,Sh.size,bX,h1,bw,c9,di,AV.cells];congr 1;simp only[np,bP,aJ,aP];rw[rY _ _ (aQ _)];simp only[pz,cZ];congr 4;rw[List.map_set,CG];simp[h,dg,Ah,List.map_drop]
theorem Oa (m:af) (k:Nat):∀ ds:List Nat,eY (bG m (k+1)) (ds.map dg)=some (ds.map dg,[])
 | []=>rfl
 | d::ds=>by
  have:bG m (k+1) (dg d)=some (dg d,[]):=rfl;simp[eY,this,Oa m k ds]
theorem OO:∀ ds:List Nat,lB (ds.map dg)=true
 | []=>rfl
 | d::ds=>by
  have:pl (dg d)=true:=rfl;simp[lB,this,OO ds]
theorem qkV (m:af) (ds:List Nat):bG (np m ds) j6 (.arr m.length 0 ds.length none)=some (.lst none false .no (ds.map dg),[m.length]):=by
 have h1:((ds.map dg).all di)=true:=by simp[List.all_map,dg,di]
 show ((np m ds).obj? m.length).bind _=_;rw[OB];simp only[aa,Sh.size,bX,bp,kV,aQ,decide_true,nX,mV,bw,iR,jQ (by simp:(ds.map dg).length<=ds.length)];rw[Oa];simp only[aa,h1,OO,mV,bw,ll];rw[jQ (by simp)]
theorem qoe {cp:Nat->List AV->Option AV} {m:af} {g:Nat} {ds:List Nat}:aD cp none (np m ds) g [.arr m.length 0 ds.length none]=(cp g [.lst none false .no (ds.map dg)]).map fun v=>(v,m++[none]):=by
 simp only[aD,eY,qkV,aa,ju,Option.isSome_none,lY,cm,ux,List.foldl_nil];simp[np]
theorem Tn (tk:TK) (k':IntKind) (a:Nat) (h:a < 4294967296):ag tk .shl (.int .u64 a) (.int k' 32)=some (.int .u64 (a * 4294967296:Nat)):=by
 have e:ag tk .shl (.int .u64 a) (.int k' 32)=some (.int .u64 (IntKind.wrap .u64 ((a:Int) * 4294967296))):=by cases tk<;>rfl
 rw[e,jv (by omega) (by omega)]
 rfl
theorem qjU (tk:TK) (lo hi:Nat) (h:lo < 4294967296) (h':hi < 4294967296):ag tk .or (.int .u64 lo) (.int .u64 (hi * 4294967296:Nat))=some (.int .u64 (lo+hi * 4294967296:Nat)):=by
 have e:ag tk .or (.int .u64 lo) (.int .u64 (hi * 4294967296:Nat))=some (.int .u64 (IntKind.wrap .u64 ((BitVec.ofInt 64 lo ||| BitVec.ofInt 64 (hi * 4294967296:Nat)).toNat:Nat))):=by cases tk<;>rfl
 have e2:(BitVec.ofInt 64 (lo:Int) ||| BitVec.ofInt 64 ((hi * 4294967296:Nat):Int)).toNat=lo+hi * 4294967296:=by
  rw[BitVec.toNat_or,xr,xr];have h1:(((lo:Nat):Int) % ((2 ^ 64:Nat):Int)).toNat=lo:=by omega
  have h2:(((hi * 4294967296:Nat):Int) % ((2 ^ 64:Nat):Int)).toNat=hi * 4294967296:=by omega
  rw[h1,h2,Nat.or_comm];have:=Nat.two_pow_add_eq_or_of_lt (i:=32) (b:=lo) (by omega) hi;rw[show hi * 4294967296=2 ^ 32 * hi by omega,<- this];omega
 rw[e,e2,jv (by omega) (by omega)]
end Go.Ab
namespace Go.Ab
def lW (ds:List Nat):Nat->Nat
 | 0=>0
 | n+1=>if ds.getD n 0=0 then lW ds n else n+1
theorem EH (ds:List Nat):∀ n,lW ds n<=n
 | 0=>aQ _
 | n+1=>by
  rw[lW]
  split
  ·exact Nat.le_succ_of_le (EH ds n)
  ·exact aQ _
def tr (ds:List Nat):List Nat:=ds.take (lW ds ds.length)
theorem BO (a:List Nat):(tr a).length<=a.length:=by simp only[tr,jP];omega
def Dg (a:List Nat):Prop:=∀ i,a.getD i 0 < 4294967296
theorem Dg.take {a:List Nat} (h:Dg a) (n:Nat):Dg (a.take n):=by
 intro i;have:=h i;simp only[aS,qo] at this ⊢
 split
 ·exact this
 ·simp
theorem Dg.set {a:List Nat} (h:Dg a) (n v:Nat) (hv:v < 4294967296):Dg (a.set n v):=by
 intro i;have:=h i;simp only[aS,CB] at this ⊢
 split
 ·split
  ·exact hv
  ·simp
 ·exact this
theorem tc {a:List Nat} (h:Dg a):Dg (tr a):=h.take _
theorem ym {l:List Nat} {i:Nat} (h:¬ (i:Int) < (l.length:Int)):l.getD i 0=0:=by
 rw[aS,n5 (by omega)];rfl
theorem yd:Dg []:=by intro i;simp
theorem mE {d:Nat} {ds:List Nat}:Dg (d::ds)↔d < 4294967296/\Dg ds:=by
 constructor
 ·intro h;exact ⟨h 0,fun i=>h (i+1)⟩
 ·intro h i
  cases i with
  | zero=>exact h.1
  | succ i=>exact h.2 i
theorem yc {a b:List Nat} (ha:Dg a) (hb:Dg b):Dg (a++b):=by
 induction a with
 | nil=>exact hb
 | cons d a ih=>exact mE.2 ⟨(mE.1 ha).1,ih (mE.1 ha).2⟩
theorem uQ {d:Nat} (h:d < 4294967296):Dg [d]:=mE.2 ⟨h,yd⟩
theorem ye (n:Nat):Dg (List.replicate n 0):=by
 induction n with
 | zero=>exact yd
 | succ n ih=>exact mE.2 ⟨by decide,ih⟩
theorem uT {l:List Nat} {i j v:Nat} (h:i≠j):(l.set i v).getD j 0=l.getD j 0:=by
 simp only[aS];rw[Ae h]
theorem rm {l:List Nat} {i v:Nat} (h:i < l.length):(l.set i v).getD i 0=v:=by
 simp only[aS];rw[xI h];rfl
theorem HM (n i:Nat):(List.replicate n 0).getD i 0=0:=by
 simp only[aS,Ad];split<;>rfl
theorem BB (p b c:Nat):p * c=p * (c % b)+p * b * (c / b):=by
 rw[dZ,<- gB,Nat.mod_add_div]
theorem X9 (p b x s:Nat) (h:s<=x+b):p * (x+b - s)+p * s=p * x+p * b:=by
 rw[<- gB,Nat.sub_add_cancel h,gB]
theorem IT (p x s:Nat) (h:s<=x):p * (x - s)+p * s=p * x:=by
 rw[<- gB,Nat.sub_add_cancel h]
def val:List Nat->Nat
 | []=>0
 | d::ds=>d+4294967296 * val ds
def aC (n:Nat):List Nat:=if h:n=0 then [] else n % 4294967296::aC (n / 4294967296)
 termination_by n
 decreasing_by exact Nat.div_lt_self (by omega) (by omega)
theorem lF:aC 0=[]:=by rw[aC];rfl
theorem yf {n:Nat} (h:n≠0):aC n=n % 4294967296::aC (n / 4294967296):=by rw[aC,dif_neg h]
theorem gz (n:Nat):val (aC n)=n:=by
 induction n using Nat.strongRecOn with
 | ind n ih=>
  by_cases h:n=0
  ·subst h;rw[lF];rfl
  ·rw[yf h,val,ih _ (Nat.div_lt_self (by omega) (by omega))];omega
theorem gu (n:Nat):Dg (aC n):=by
 induction n using Nat.strongRecOn with
 | ind n ih=>
  by_cases h:n=0
  ·subst h;rw[lF];exact yd
  ·rw[yf h];exact mE.2 ⟨jY _ (by omega),ih _ (Nat.div_lt_self (by omega) (by omega))⟩
theorem mF {k:Nat}:∀ {n:Nat},n < 4294967296 ^ k->(aC n).length<=k:=by
 induction k with
 | zero=>
   intro n h;have:n=0:=by simpa using h
   subst this;rw[lF];exact aQ _
 | succ k ih=>
  intro n h
  by_cases h0:n=0
  ·subst h0;rw[lF];exact kW _
  ·rw[yf h0,aJ];refine Nat.succ_le_succ (ih ?_);rw[jR] at h;exact Nat.div_lt_of_lt_mul (by rw[cM];exact h)
theorem mS {ds:List Nat} (h:Dg ds):val ds < 4294967296 ^ ds.length:=by
 induction ds with
 | nil=>exact Nat.one_pos
 | cons d ds ih=>
  have ih:=ih (mE.1 h).2;have hd:=(mE.1 h).1;rw[val,aJ,jR];omega
theorem T8 {ds:List Nat} (h:Dg ds):(aC (val ds)).length<=ds.length:=mF (mS h)
theorem ER {n:Nat}:aC n=[]↔n=0:=by
 constructor
 ·intro h;have:=gz n;rw[h] at this;exact this.symm
 ·intro h;subst h;exact lF
theorem qky {a b:Nat} (h:aC a=aC b):a=b:=by
 have:=cV val h
 rwa [gz,gz] at this
theorem Zm (d:Nat) (ds:List Nat):∀ n,lW (d::ds) (n+1)=if lW ds n=0 then (if d=0 then 0 else 1) else lW ds n+1
 | 0=>by
  simp only[lW,pq,bw]
 | n+1=>by
  rw[lW,Zm d ds n];simp only[xH];rw[lW]
  by_cases h:ds.getD n 0=0
  ·rw[an h,an h]
  ·rw[ai h,ai h,ai (by omega)]
theorem qpH (d:Nat) (ds:List Nat):tr (d::ds)=if tr ds=[] then (if d=0 then [] else [d]) else d::tr ds:=by
 have h0:tr ds=[]↔lW ds ds.length=0:=by
  have:=EH ds ds.length;rw[tr,<- List.length_eq_zero_iff,jP];omega
 rw[tr,aJ,Zm]
 by_cases h:lW ds ds.length=0
 ·rw[an h,an (h0.2 h)];split<;>rfl
 ·rw[ai h,ai (fun e=>h (h0.1 e))]
  rfl
theorem lC {ds:List Nat} (h:Dg ds):tr ds=aC (val ds):=by
 induction ds with
 | nil=>rw[val,lF];rfl
 | cons d ds ih=>
  have hd:=(mE.1 h).1;rw[qpH,ih (mE.1 h).2,val]
  by_cases h0:val ds=0
  ·rw[an (ER.2 h0),h0]
   split
   ·subst d;exact lF.symm
   ·rw[yf (by omega),show (d+4294967296 * 0) % 4294967296=d by omega,show (d+4294967296 * 0) / 4294967296=0 by omega,lF]
  ·rw[ai (fun e=>h0 (ER.1 e)),yf (n:=d+4294967296 * val ds) (by omega),show (d+4294967296 * val ds) % 4294967296=d by omega,show (d+4294967296 * val ds) / 4294967296=val ds by omega]
theorem xi {ds:List Nat} (h:Dg ds):val (tr ds)=val ds:=by rw[lC h,gz]
theorem xh (a b:List Nat):val (a++b)=val a+4294967296 ^ a.length * val b:=by
 induction a with
 | nil=>simp[val]
 | cons d a ih=>
  rw[cn,val,val,ih,aJ,jR,gB,mw,cM (4294967296 ^ a.length) 4294967296,dZ]
theorem ES:∀ (l:List Nat) (i v:Nat),i < l.length->val (l.set i v)+4294967296 ^ i * l.getD i 0=val l+4294967296 ^ i * v
 | [],i,v,h=>by simp at h
 | d::l,0,v,h=>by simp[val];omega
 | d::l,i+1,v,h=>by
  have ih:=ES l i v (by simpa using h);simp only[ei,val,xH,jR];rw[cM (4294967296 ^ i) 4294967296,dZ,dZ];omega
def vs (a:List Nat) (i:Nat):Nat:=val (a.take i)
theorem rJ (a:List Nat):vs a 0=0:=rfl
theorem jn {a:List Nat} {i:Nat} (h:a.length<=i):vs a i=val a:=by rw[vs,jQ h]
theorem jO (a:List Nat) (i:Nat):vs a (i+1)=vs a i+4294967296 ^ i * a.getD i 0:=by
 by_cases h:i < a.length
 ·rw[vs,n7 h,xh,jP,Nat.min_eq_left (by omega),aS,bD h,vs];simp[val]
 ·rw[jn (by omega),jn (by omega),aS,n5 (by omega)];simp
theorem xj {a:List Nat} (h:Dg a) (i:Nat):vs a i < 4294967296 ^ i:=by
 have h1:=mS (h.take i);refine qV h1 (py (by omega) ?_);rw[jP];omega
theorem Jy (n:Nat):val (List.replicate n 0)=0:=by
 induction n with
 | zero=>rfl
 | succ n ih=>rw[xK,val,ih]
def mC (a b:List Nat):Nat->Int
 | 0=>0
 | n+1=>if a.getD n 0 < b.getD n 0 then -1 else if a.getD n 0 > b.getD n 0 then 1 else mC a b n
def uN (a b:List Nat):Int:=if a.length < b.length then -1 else if a.length > b.length then 1 else mC a b a.length
def gQ (a b:Nat):Int:=if a < b then -1 else if a > b then 1 else 0
theorem TS {a b:List Nat} (ha:Dg a) (hb:Dg b):∀ n,mC a b n=gQ (vs a n) (vs b n)
 | 0=>by simp[mC,rJ,gQ]
 | n+1=>by
  have ih:=TS ha hb n;have h1:=xj ha n;have h2:=xj hb n;rw[mC,jO,jO,ih];generalize 4294967296 ^ n=p at *;generalize a.getD n 0=x;generalize b.getD n 0=y;unfold gQ
  by_cases h:x < y
  ·have:p * (x+1)<=p * y:=kG _ h;rw[gB] at this;rw[an h,an (by omega)]
  ·by_cases h':x > y
   ·have:p * (y+1)<=p * x:=kG _ h';rw[gB] at this;rw[ai h,an h',ai (by omega),an (by omega)]
   ·have:x=y:=by omega
    subst this;rw[ai h,ai h'];simp only[Nat.add_lt_add_iff_right,gt_iff_lt]
theorem Hz {n k:Nat} (h:k < (aC n).length):4294967296 ^ k<=n:=by
 apply qj;intro hn;have:=mF (Nat.lt_of_not_le hn);omega
theorem TR (a b:Nat):uN (aC a) (aC b)=gQ a b:=by
 have ha:=mS (gu a);have hb:=mS (gu b);rw[gz] at ha hb;unfold uN
 by_cases h:(aC a).length < (aC b).length
 ·have:=Hz h;rw[an h,gQ,an (by omega)]
 ·rw[ai h]
  by_cases h':(aC a).length > (aC b).length
  ·have:=Hz h';rw[an h',gQ,ai (by omega),an (by omega)]
  ·rw[ai h',TS (gu a) (gu b),jn (aQ _),jn (by omega),gz,gz]
theorem qkl {a b:List Nat} (ha:Dg a) (hb:Dg b):uN (tr a) (tr b)=gQ (val a) (val b):=by rw[lC ha,lC hb,TR]
def cL (a b:List Nat):Nat->List Nat×Nat
 | 0=>([],0)
 | i+1=>((cL a b i).1++[((cL a b i).2+a.getD i 0+b.getD i 0) % 4294967296],((cL a b i).2+a.getD i 0+b.getD i 0) / 4294967296)
theorem vZ (a b:List Nat):∀ i,(cL a b i).1.length=i
 | 0=>rfl
 | i+1=>by simp[cL,vZ a b i]
theorem xU {a b:List Nat} (ha:Dg a) (hb:Dg b):∀ i,(cL a b i).2<=1
 | 0=>by simp[cL]
 | i+1=>by
  have:=xU ha hb i;have h1:=ha i;have h2:=hb i;simp only[cL];omega
theorem LD (a b:List Nat):∀ i,Dg (cL a b i).1
 | 0=>yd
 | i+1=>yc (LD a b i) (uQ (jY _ (by omega)))
theorem LF (a b:List Nat):∀ i,val (cL a b i).1+4294967296 ^ i * (cL a b i).2=vs a i+vs b i
 | 0=>by simp[cL,val,rJ]
 | i+1=>by
  have ih:=LF a b i;simp only[cL,xh,vZ,val,jO,jR];have h1:=BB (4294967296 ^ i) 4294967296 ((cL a b i).2+a.getD i 0+b.getD i 0);generalize hs:(cL a b i).2+a.getD i 0+b.getD i 0=s at *;rw[<- hs,gB,gB,hs] at h1;rw[n8,jF];omega
def C5 (a b:List Nat):List Nat:=tr ((cL a b a.length).1++[(cL a b a.length).2])
def As (a b:List Nat):List Nat:=if a.length < b.length then C5 b a else C5 a b
theorem S6 {a b:List Nat} (ha:Dg a) (hb:Dg b) (h:b.length<=a.length):C5 a b=aC (val a+val b):=by
 have hc:=xU ha hb a.length;rw[C5,lC (yc (LD _ _ _) (uQ (by omega))),xh,vZ];have:=LF a b a.length;rw[jn (aQ _),jn h] at this;simp only[val,n8,jF,this]
theorem qhw {a b:List Nat} (ha:Dg a) (hb:Dg b):As a b=aC (val a+val b):=by
 unfold As
 split
 ·rw[S6 hb ha (by omega),rZ]
 ·rw[S6 ha hb (by omega)]
theorem qhx {a b:List Nat} (ha:Dg a) (hb:Dg b):As (tr a) (tr b)=aC (val a+val b):=by
 rw[qhw (tc ha) (tc hb),xi ha,xi hb]
def gR (b:List Nat) (x i:Nat):Nat->List Nat×Nat->List Nat×Nat
 | 0,s=>s
 | k+1,s=>let t:=gR b x i k s
  (t.1.set (i+k) ((t.2+(t.1.getD (i+k) 0+x * b.getD k 0)) % 4294967296),(t.2+(t.1.getD (i+k) 0+x * b.getD k 0)) / 4294967296)
theorem w4 (b:List Nat) (x i:Nat) (s:List Nat×Nat):∀ k,(gR b x i k s).1.length=s.1.length
 | 0=>rfl
 | k+1=>by simp[gR,w4 b x i s k]
theorem Bp {b:List Nat} {x i:Nat} {s:List Nat×Nat} (hb:Dg b) (hx:x < 4294967296) (hs:Dg s.1) (hc:s.2 < 4294967296):∀ k,Dg (gR b x i k s).1/\(gR b x i k s).2 < 4294967296
 | 0=>⟨hs,hc⟩
 | k+1=>by
  obtain ⟨h1,h2⟩:=Bp hb hx hs hc k;have h3:=h1 (i+k);have h4:=hb k;have h5:x * b.getD k 0<=4294967295 * 4294967295:=qX (by omega) (by omega);refine ⟨h1.set _ _ (jY _ (by omega)),?_⟩;simp only[gR];omega
theorem Xl (b:List Nat) (x i:Nat) (s:List Nat×Nat):∀ k,i+k<=s.1.length->val (gR b x i k s).1+4294967296 ^ (i+k) * (gR b x i k s).2=val s.1+4294967296 ^ i * (s.2+x * vs b k)
 | 0,_=>by simp[gR,rJ]
 | k+1,h=>by
  have ih:=Xl b x i s k (by omega);have hl:=w4 b x i s k;simp only[gR,jO];generalize gR b x i k s=t at *;have h1:=ES t.1 (i+k) ((t.2+(t.1.getD (i+k) 0+x * b.getD k 0)) % 4294967296) (by omega);have h2:=BB (4294967296 ^ (i+k)) 4294967296 (t.2+(t.1.getD (i+k) 0+x * b.getD k 0))
  have h3:4294967296 ^ i * (s.2+x * (vs b k+4294967296 ^ k * b.getD k 0))=4294967296 ^ i * (s.2+x * vs b k)+4294967296 ^ (i+k) * (x * b.getD k 0):=by
   rw[qY];simp only[gB,mw];congr 2;simp only[<- dZ];congr 1;rw[Nat.mul_right_comm]
  rw[h3];generalize hw:t.2+(t.1.getD (i+k) 0+x * b.getD k 0)=w at *;rw[<- hw,gB,gB,hw] at h2;rw[<- mw,jR];omega
def iU (a b:List Nat):Nat->List Nat
 | 0=>List.replicate (a.length+b.length) 0
 | i+1=>(gR b (a.getD i 0) i b.length (iU a b i,0)).1.set (i+b.length) (gR b (a.getD i 0) i b.length (iU a b i,0)).2
def Ek (a b:List Nat):List Nat:=tr (iU a b a.length)
theorem wZ (a b:List Nat):∀ i,(iU a b i).length=a.length+b.length
 | 0=>by simp[iU]
 | i+1=>by simp[iU,w4,wZ a b i]
theorem yY {a b:List Nat} (ha:Dg a) (hb:Dg b):∀ i,Dg (iU a b i)
 | 0=>ye _
 | i+1=>by
  have ih:=yY ha hb i;obtain ⟨h1,h2⟩:=Bp (i:=i) (s:=(iU a b i,0)) hb (ha i) ih (by simp) b.length;exact h1.set _ _ h2
theorem Oi (b:List Nat) (x i:Nat) (s:List Nat×Nat) (j:Nat):∀ k,i+k<=j->(gR b x i k s).1.getD j 0=s.1.getD j 0
 | 0,_=>rfl
 | k+1,h=>by
  have ih:=Oi b x i s j k (by omega);rw[<- ih];simp only[gR,aS];rw[Ae (by omega)]
theorem Xk (a b:List Nat) (j:Nat):∀ i,i+b.length<=j->(iU a b i).getD j 0=0
 | 0,h=>by
  simp only[iU,aS,Ad];split<;>rfl
 | i+1,h=>by
  have ih:=Xk a b j i (by omega);rw[iU,uT (by omega),Oi b (a.getD i 0) i (iU a b i,0) j b.length (by omega)];exact ih
theorem Oh (a b:List Nat):∀ i,i<=a.length->val (iU a b i)=vs a i * val b
 | 0,_=>by simp[iU,Jy,rJ]
 | i+1,h=>by
  have ih:=Oh a b i (by omega);have hl:=wZ a b i;have h1:=Xl b (a.getD i 0) i (iU a b i,0) b.length (by simp only[hl];omega)
  have h0:(gR b (a.getD i 0) i b.length (iU a b i,0)).1.getD (i+b.length) 0=0:=by
   rw[Oi _ _ _ _ _ _ (aQ _)];exact Xk a b _ i (aQ _)
  have h2:=ES (gR b (a.getD i 0) i b.length (iU a b i,0)).1 (i+b.length) (gR b (a.getD i 0) i b.length (iU a b i,0)).2 (by rw[w4];simp only[hl];omega);rw[h0,n8,jF] at h2;rw[iU,h2,h1,ih,jn (aQ _),jO,gO,bp,dZ]
theorem qnp {a b:List Nat} (ha:Dg a) (hb:Dg b):Ek a b=aC (val a * val b):=by
 rw[Ek,lC (yY ha hb _),Oh _ _ _ (aQ _),jn (aQ _)]
theorem qnq {a b:List Nat} (ha:Dg a) (hb:Dg b):Ek (tr a) (tr b)=aC (val a * val b):=by
 rw[qnp (tc ha) (tc hb),xi ha,xi hb]
def gH (a b:List Nat):Nat->List Nat×Nat
 | 0=>(List.replicate a.length 0,0)
 | i+1=>if a.getD i 0 < (gH a b i).2+b.getD i 0 then ((gH a b i).1.set i (a.getD i 0+4294967296 - ((gH a b i).2+b.getD i 0)),1)
  else ((gH a b i).1.set i (a.getD i 0 - ((gH a b i).2+b.getD i 0)),0)
def Jm (a b:List Nat):List Nat:=tr (gH a b a.length).1
theorem BM (a b:List Nat):∀ i,(gH a b i).1.length=a.length
 | 0=>by simp[gH]
 | i+1=>by simp only[gH];split<;>simp[BM a b i]
theorem Jn (a b:List Nat):∀ i,(gH a b i).2<=1
 | 0=>by simp[gH]
 | i+1=>by simp only[gH];split<;>simp
theorem BL {a b:List Nat} (ha:Dg a) (hb:Dg b):∀ i,Dg (gH a b i).1
 | 0=>ye _
 | i+1=>by
  have:=Jn a b i;have h1:=ha i;have h2:=hb i;simp only[gH]
  split
  ·exact (BL ha hb i).set _ _ (by omega)
  ·exact (BL ha hb i).set _ _ (by omega)
theorem Y9 (a b:List Nat) (j:Nat):∀ i,i<=j->(gH a b i).1.getD j 0=0
 | 0,_=>by
  simp only[gH,aS,Ad];split<;>rfl
 | i+1,h=>by
  have ih:=Y9 a b j i (by omega);simp only[gH];split<;>simp only[]<;>rw[uT (by omega),ih]
theorem Za {p x y b v1:Nat} {va vb r:Nat} (ih:r+vb=va+p * b) :
  (x < b+y->b+y<=x+v1->r+p * (x+v1 - (b+y))+(vb+p * y)=va+p * x+p * v1 * 1)/\(¬ x < b+y->r+p * (x - (b+y))+(vb+p * y)=va+p * x+p * v1 * 0):=by
 constructor
 ·intro h h';have e:=X9 p v1 x (b+y) h';rw[gB _ b] at e;rw[kV];omega
 ·intro h;have e:=IT p x (b+y) (by omega);rw[gB _ b] at e;rw[n8];omega
theorem qpm {a b:List Nat} (ha:Dg a) (hb:Dg b) (i:Nat):i<=a.length->val (gH a b i).1+vs b i=vs a i+4294967296 ^ i * (gH a b i).2:=by
 induction i with
 | zero=>
  intro _;rw[gH,Jy,rJ,rJ]
  rfl
 | succ i ih=>
  intro h;have ih:=ih (by omega);have hl:=BM a b i;have h0:=Y9 a b i i (aQ _);have hc:=Jn a b i;have h1:=ha i;have h2:=hb i;rw[jO,jO,jR,gH];obtain ⟨s1,s2⟩:=Za (x:=a.getD i 0) (y:=b.getD i 0) (v1:=4294967296) ih
  have hs:∀ v,val ((gH a b i).1.set i v)=val (gH a b i).1+4294967296 ^ i * v:=by
   intro v;have:=ES (gH a b i).1 i v (by omega)
   rwa [h0,n8,jF] at this
  split
  ·rename_i hlt;rw[hs];exact s1 hlt (by omega)
  ·rename_i hlt;rw[hs];exact s2 hlt
theorem ZC (a:List Nat) (i:Nat):∀ k,vs a i<=vs a (i+k)
 | 0=>aQ _
 | k+1=>by rw[<- mw,jO];exact dY (ZC a i k) (Nat.le_add_right _ _)
theorem ZB (a:List Nat) (i:Nat):vs a i<=val a:=by
 have:=ZC a i a.length
 rwa [jn (by omega:a.length<=i+a.length)] at this
theorem ZA {a b:List Nat} (ha:Dg a) (h:val b<=val a):vs b a.length=val b:=by
 have h1:=mS ha;apply qj;intro hn;have hlt:vs b a.length < val b:=Nat.lt_of_le_of_ne (ZB _ _) hn
 have:∀ k,vs b a.length < vs b (a.length+k)->4294967296 ^ a.length<=vs b (a.length+k):=by
  intro k
  induction k with
  | zero=>intro h;exact absurd h (vS _)
  | succ k ih=>
   intro hk;rw[<- mw,jO] at hk ⊢
   by_cases h0:vs b a.length < vs b (a.length+k)
   ·exact dY (ih h0) (Nat.le_add_right _ _)
   ·have:b.getD (a.length+k) 0≠0:=by
     intro e;rw[e] at hk;omega
    have h3:4294967296 ^ a.length<=4294967296 ^ (a.length+k):=py (by omega) (by omega);have h4:4294967296 ^ (a.length+k) * 1<=4294967296 ^ (a.length+k) * b.getD (a.length+k) 0:=kG _ (by omega);omega
 have:=this b.length (by rwa [jn (by omega:b.length<=a.length+b.length)]);rw[jn (by omega:b.length<=a.length+b.length)] at this;omega
theorem qpk {a b:List Nat} (ha:Dg a) (hb:Dg b) (h:val b<=val a):Jm a b=aC (val a - val b):=by
 rw[Jm,lC (BL ha hb _)];have h1:=qpm ha hb a.length (aQ _);rw[jn (aQ _),ZA ha h] at h1;have h2:=mS (BL ha hb a.length);rw[BM] at h2;have h3:=mS ha;have hc:=Jn a b a.length;congr 1
 have:(gH a b a.length).2=0:=by
  apply qj;intro hn;have e:(gH a b a.length).2=1:=by omega
  rw[e,kV] at h1;omega
 rw[this,n8,jF] at h1;omega
theorem qpl {a b:List Nat} (ha:Dg a) (hb:Dg b) (h:val b<=val a):Jm (tr a) (tr b)=aC (val a - val b):=by
 rw[qpk (tc ha) (tc hb) (by rwa [xi ha,xi hb]),xi ha,xi hb]
end Go.Ab
namespace Go.Ab
section
variable {tk:TK} {k k':IntKind} {a b:Nat}
theorem Bq:ag tk .gtr (.int k a) (.int k b)=some (.bool (decide (a > b))):=by rw[ir];congr 2;exact jS.2 (by omega)
theorem cX:ag tk .lss (.int k a) (.int k b)=some (.bool (decide (a < b))):=by rw[bh];congr 2;exact jS.2 (by omega)
theorem IE:ag tk .geq (.int k a) (.int k b)=some (.bool (decide (a≥b))):=by rw[jZ];congr 2;exact jS.2 (by omega)
theorem El:ag tk .eql (.int k a) (.int k b)=some (.bool (decide (a=b))):=by rw[iS];congr 2;exact jS.2 (by omega)
theorem Oj:ag tk .neq (.int k a) (.int k b)=some (.bool (decide (a≠b))):=by rw[jg];congr 2;exact jS.2 (by omega)
theorem vx:ag tk .gtr (.int k a) (.int k 0)=some (.bool (decide (a > 0))):=Bq (b:=0)
theorem Em:ag tk .geq (.int k a) (.int k 0)=some (.bool true):=by rw[jZ];congr 2
theorem IF:ag tk .lss (.int k a) (.int k 0)=some (.bool false):=by rw[bh];congr 2
theorem nL:ag tk .eql (.int k a) (.int k 0)=some (.bool (decide (a=0))):=El (b:=0)
theorem qnt:ag tk .neq (.int k a) (.int k 0)=some (.bool (decide (a≠0))):=Oj (b:=0)
theorem vw:ag tk .eql (.int k a) (.int k 1)=some (.bool (decide (a=1))):=El (b:=1)
theorem Xn:ag tk .eql (.int k a) (.int k 2)=some (.bool (decide (a=2))):=El (b:=2)
theorem qns:ag tk .geq (.int k a) (.int k 4294967296)=some (.bool (decide (a≥4294967296))):=IE (b:=4294967296)
theorem IG:ag tk .lss (.int k a) (.int k 4294967296)=some (.bool (decide (a < 4294967296))):=cX (b:=4294967296)
theorem nV (h:a+b < 18446744073709551616):ag tk .add (.int .u64 a) (.int .u64 b)=some (.int .u64 (a+b:Nat)):=by
 rw[kX,jv (by omega) (by omega)];rfl
theorem EJ (h:a * b < 18446744073709551616):ag tk .mul (.int .u64 a) (.int .u64 b)=some (.int .u64 (a * b:Nat)):=by
 rw[we,<- qR,jv (by omega) (by omega)]
theorem zw (h:b<=a) (h':a < 18446744073709551616):ag tk .sub (.int .u64 a) (.int .u64 b)=some (.int .u64 (a - b:Nat)):=by
 rw[pB,jv (by omega) (by omega)];congr 2;omega
theorem Ju (h:1<=a) (h':a < 18446744073709551616):ag tk .sub (.int .u64 a) (.int .u64 1)=some (.int .u64 (a - 1:Nat)):=zw (b:=1) h h'
theorem zu (h:b≠0) (h':a < 18446744073709551616):ag tk .quo (.int .u64 a) (.int .u64 b)=some (.int .u64 (a / b:Nat)):=by
 have e:ag tk .quo (.int .u64 a) (.int .u64 b)=if (b:Int)=0 then none else some (.int .u64 (IntKind.wrap .u64 ((a:Int).tdiv b))):=by cases tk<;>rfl
 rw[e,ai (by omega)];have e2:(a:Int).tdiv b=((a / b:Nat):Int):=rfl;have:=xM a b;rw[e2];generalize a / b=q at *;rw[jv (by omega) (by omega)]
theorem BP (h:b≠0) (h':a < 18446744073709551616):ag tk .rem (.int .u64 a) (.int .u64 b)=some (.int .u64 (a % b:Nat)):=by
 have e:ag tk .rem (.int .u64 a) (.int .u64 b)=if (b:Int)=0 then none else some (.int .u64 ((a:Int).tmod b)):=by cases tk<;>rfl
 rw[e,ai (by omega)]
 rfl
theorem qpR (h':a < 18446744073709551616):ag tk .and (.int .u64 a) (.int .u64 4294967295)=some (.int .u64 (a % 4294967296:Nat)):=by
 have e:ag tk .and (.int .u64 a) (.int .u64 4294967295)=some (.int .u64 (IntKind.wrap .u64 ((BitVec.ofInt 64 a &&& BitVec.ofInt 64 4294967295).toNat:Nat))):=by cases tk<;>rfl
 have e2:(BitVec.ofInt 64 (a:Int) &&& BitVec.ofInt 64 4294967295).toNat=a % 4294967296:=by
  rw[BitVec.toNat_and,xr,xr];have h1:(((a:Nat):Int) % ((2 ^ 64:Nat):Int)).toNat=a:=by omega
  have h2:((4294967295:Int) % ((2 ^ 64:Nat):Int)).toNat=2 ^ 32 - 1:=by omega
  rw[h1,h2,Nat.and_two_pow_sub_one_eq_mod]
 rw[e,e2,jv (by omega) (by omega)]
theorem EL (h:a < 4294967296):ag tk .shl (.int .u64 a) (.int k' 32)=some (.int .u64 (a * 4294967296:Nat)):=Tn tk k' a h
theorem Jt:ag tk .shr (.int .u64 a) (.int k' 32)=some (.int .u64 (a / 4294967296:Nat)):=by
 rw[C9 tk k' a (by omega)];rfl
theorem EK (h:a < 4294967296) (h':b < 4294967296):ag tk .or (.int .u64 (a * 4294967296:Nat)) (.int .u64 b)=some (.int .u64 (a * 4294967296+b:Nat)):=by
 have e:ag tk .or (.int .u64 (a * 4294967296:Nat)) (.int .u64 b)=some (.int .u64 (IntKind.wrap .u64 ((BitVec.ofInt 64 (a * 4294967296:Nat) ||| BitVec.ofInt 64 b).toNat:Nat))):=by cases tk<;>rfl
 have e2:(BitVec.ofInt 64 ((a * 4294967296:Nat):Int) ||| BitVec.ofInt 64 (b:Int)).toNat=a * 4294967296+b:=by
  rw[BitVec.toNat_or,xr,xr];have h1:(((b:Nat):Int) % ((2 ^ 64:Nat):Int)).toNat=b:=by omega
  have h2:(((a * 4294967296:Nat):Int) % ((2 ^ 64:Nat):Int)).toNat=a * 4294967296:=by omega
  rw[h1,h2];have:=Nat.two_pow_add_eq_or_of_lt (i:=32) (b:=b) (by omega) a;rw[show a * 4294967296=2 ^ 32 * a by omega,<- this]
 rw[e,e2,jv (by omega) (by omega)]
theorem kM (h:a+b < 9223372036854775808):ag tk .add (.int .i64 a) (.int .i64 b)=some (.int .i64 (a+b:Nat)):=by
 rw[kX,iQ (by omega) (by omega)];rfl
theorem cB (h:a+1 < 9223372036854775808):ag tk .add (.int .i64 a) (.int .i64 1)=some (.int .i64 (a+1:Nat)):=kM (b:=1) h
theorem nk (h:b<=a) (h':a < 9223372036854775808):ag tk .sub (.int .i64 a) (.int .i64 b)=some (.int .i64 (a - b:Nat)):=by
 rw[pB,iQ (by omega) (by omega)];congr 2;omega
theorem oY (h:1<=a) (h':a < 9223372036854775808):ag tk .sub (.int .i64 a) (.int .i64 1)=some (.int .i64 (a - 1:Nat)):=nk (b:=1) h h'
theorem VZ (h:2<=a) (h':a < 9223372036854775808):ag tk .sub (.int .i64 a) (.int .i64 2)=some (.int .i64 (a - 2:Nat)):=nk (b:=2) h h'
theorem rF (h':a < 9223372036854775808):ag tk .sub (.int .i64 a) (.int .i64 1)=some (.int .i64 ((a:Int) - 1)):=by
 rw[pB,iQ (by omega) (by omega)]
theorem Ax (h:a < 18446744073709551616):bn .u64 (.int k a)=some (.int .u64 a):=by rw[lZ,jv (by omega) (by omega)]
theorem mz:bn .u32 (.int k a)=some (.int .u32 (a % 4294967296:Nat)):=by rw[lZ,xm];rfl
theorem my (d:Nat) (h:d < 4294967296):bn .u64 (dg d)=some (.int .u64 d):=Ax (by omega)
theorem Zq {s:Nat} (hs:s < 32) (h:a < 4294967296):ag tk .shl (.int .u32 a) (.int .u64 s)=some (.int .u32 (a * 2 ^ s % 4294967296:Nat)):=by
 have e:ag tk .shl (.int .u32 a) (.int .u64 s)=s7 true .u32 a s:=by cases tk<;>rfl
 have e3:IntKind.bits .u32=32:=rfl;rw[e,s7,ai (by omega),an rfl,e3,cK,Nat.min_eq_left (by omega),xm];congr 2
theorem Po {s:Nat} (hs:s < 32):ag tk .shr (.int .u32 a) (.int .u64 s)=some (.int .u32 (a / 2 ^ s:Nat)):=by
 have e:ag tk .shr (.int .u32 a) (.int .u64 s)=s7 false .u32 a s:=by cases tk<;>rfl
 have e3:IntKind.bits .u32=32:=rfl;rw[e,s7,ai (by omega),ai (by decide),e3,cK,Nat.min_eq_left (by omega),Int.fdiv_eq_ediv_of_nonneg _ (by exact Int.le_of_lt (Int.pow_pos (by omega)))];congr 2
theorem qpQ {s:Nat} (hs:s < 32) (h:a < 4294967296):ag tk .shl (.int .u64 a) (.int .u64 s)=some (.int .u64 (a * 2 ^ s:Nat)):=by
 have e:ag tk .shl (.int .u64 a) (.int .u64 s)=s7 true .u64 a s:=by cases tk<;>rfl
 have e3:IntKind.bits .u64=64:=rfl;have h1:2 ^ s<=2 ^ 31:=py (by omega) (by omega);have h2:a * 2 ^ s<=a * 2 ^ 31:=kG _ h1;have h3:(a:Int) * 2 ^ s=((a * 2 ^ s:Nat):Int):=by rw[qR,Int.natCast_pow];rfl
 rw[e,s7,ai (by omega),an rfl,e3,cK,Nat.min_eq_left (by omega),h3,jv (by omega) (by omega)]
theorem qnT {x y s:Nat} (h:x < 2 ^ s) (hy:y % 2 ^ s=0):x ||| y=x+y:=by
 have e:y=2 ^ s * (y / 2 ^ s):=by have:=uD y (2 ^ s);omega
 rw[e,Nat.or_comm,<- Nat.two_pow_add_eq_or_of_lt h,rZ]
theorem Zp {s:Nat} (h:a < 2 ^ s) (hb:b % 2 ^ s=0) (hs:a+b < 4294967296):ag tk .or (.int .u32 a) (.int .u32 b)=some (.int .u32 (a+b:Nat)):=by
 have e:ag tk .or (.int .u32 a) (.int .u32 b)=some (.int .u32 (IntKind.wrap .u32 ((BitVec.ofInt 32 a ||| BitVec.ofInt 32 b).toNat:Nat))):=by cases tk<;>rfl
 have e2:(BitVec.ofInt 32 (a:Int) ||| BitVec.ofInt 32 (b:Int)).toNat=a+b:=by
  rw[BitVec.toNat_or,xr,xr];have h1:(((a:Nat):Int) % ((2 ^ 32:Nat):Int)).toNat=a:=by omega
  have h2:(((b:Nat):Int) % ((2 ^ 32:Nat):Int)).toNat=b:=by omega
  rw[h1,h2,qnT h hb]
 rw[e,e2,zz (by omega) (by omega)]
theorem qpN:ag tk .add (.int .u32 a) (.int .u32 b)=some (.int .u32 ((a+b) % 4294967296:Nat)):=by
 rw[kX,xm];rfl
end
theorem mN {x:NV} {k:IntKind} {i:Nat} (h:i < x.ds.length):aH none x.av (.int k i)=some (.vptr [dg (x.ds.getD i 0)]):=by
 rw[NV.av,tY (by omega) (by omega)];simp
theorem Im {x:NV} {k:IntKind} (h:0 < x.ds.length):aH none x.av (.int k 0)=some (.vptr [dg (x.ds.getD 0 0)]):=mN (i:=0) h
theorem iF (x:NV):aO false x.av=some (.int .i64 x.ds.length):=by simp[NV.av,aO]
theorem kN {m:af} {x:AV}:aj none m (.vptr [x])=some x:=rfl
def oc (ds:List Nat):Option Ent:=some (.obj false (ds.map dg))
theorem OC {m:af} {n:Nat} {ds:List Nat} (h:m[n]?=some (oc ds)):m.obj? n=some (false,ds.map dg):=by
 simp[af.obj?,af.get,h,oc]
theorem sT {m:af} {n:Nat} {ds:List Nat} {i:Nat} (h:m[n]?=some (oc ds)) (hi:i < ds.length):aj none m (.ptr n i)=some (dg (ds.getD i 0)):=by
 simp[aj,OC h,ku,aS,hi]
theorem pj {m:af} {n:Nat} {ds:List Nat} {i v:Nat} (h:m[n]?=some (oc ds)) (hi:i < ds.length):aL none m (.ptr n i) (.int .u32 v)=some (m.set n (oc (ds.set i v))):=by
 have h1:i+1<=ds.length:=hi;simp only[aL,OC h,aa,Sh.size,bX,h1,bw,c9,di,AV.cells,oc];congr 4;simp only[bP,aJ,aP];rw[List.map_set,CG];simp[hi,dg,Ah,List.map_drop]
theorem wY {e b:Nat} {m:af} {n:Nat} (h':n * b<=281474976710656) (h2:n<=9223372036854775807):iP none e none (.int .u32 0) b m (.int .i64 n) (.int .i64 n)=some (.arr m.length 0 n none,m++[oc (List.replicate n 0)]):=WZ h' h2
theorem qm1 (nm n:Nat):aO false (.arr nm 0 n none)=some (.int .i64 n):=rfl
theorem qkW {m:af} {nm:Nat} {ds:List Nat} (h:m[nm]?=some (oc ds)):bG m j6 (.arr nm 0 ds.length none)=some (.lst none false .no (ds.map dg),[nm]):=by
 have h1:((ds.map dg).all di)=true:=by simp[List.all_map,dg,di]
 show (m.obj? nm).bind _=_;rw[OC h];simp only[aa,Sh.size,bX,bp,kV,aQ,decide_true,nX,mV,bw,iR,jQ (by simp:(ds.map dg).length<=ds.length)];rw[Oa];simp only[aa,h1,OO,mV,bw,ll];rw[jQ (by simp)]
theorem w5 {cp:Nat->List AV->Option AV} {m:af} {g nm:Nat} {ds:List Nat} (h:m[nm]?=some (oc ds)):aD cp none m g [.arr nm 0 ds.length none]=(cp g [(NV.mk false .no ds).av]).map fun v=>(v,m.set nm none):=by
 simp only[aD,eY,qkW h,aa,ju,Option.isSome_none,lY,cm,ux,List.foldl_nil]
 rfl
end Go.Ab
namespace Go.Ab
open Go.Proofs
theorem bY {m:af} {e:Option Ent} {nm:Nat} (h:nm < m.length):af.get (m++[e]) nm=m.get nm:=by
 rw[Mx,an h]
theorem bJ {m:af} {e:Option Ent} {nm:Nat} (h:nm=m.length):af.get (m++[e]) nm=e:=by
 subst h;simp[af.get]
theorem cG {m:af} {k nm:Nat} {e:Option Ent} (h:nm≠k):af.get (m.set k e) nm=m.get nm:=by rw[gF,ai h]
theorem c8 {m:af} {k nm:Nat} {e:Option Ent} (h:nm=k) (hk:k < m.length):af.get (m.set k e) nm=e:=by
 subst h;rw[gF,an rfl,an hk]
def Bv:Option Ent->Option (Bool×List AV)
 | some (.obj b cs)=>some (b,cs)
 | _=>none
theorem kD (b:Bool) (cs:List AV):Bv (some (.obj b cs))=some (b,cs):=rfl
theorem oL (m:af) (nm:Nat):m.obj? nm=Bv (m.get nm):=by
 unfold af.obj? Bv
 cases h:m.get nm with
 | none=>rfl
 | some e=>cases e<;>rfl
theorem dQ (sh:Sh) (m:af) (nm off:Nat):aj sh m (.ptr nm off)=(Bv (m.get nm)).bind fun o=>ku sh o.2 off:=by
 rw[<- oL];rfl
def cS (sh:Sh) (m:af) (nm off:Nat) (v:AV) (o:Bool×List AV):Option af:=
 if off+sh.size<=o.2.length then if c9 sh v then some (m.set nm (some (.obj o.1 (bP o.2 off v.cells)))) else none else none
theorem qL (sh:Sh) (m:af) (nm off:Nat) (v:AV):aL sh m (.ptr nm off) v=(Bv (m.get nm)).bind (cS sh m nm off v):=by
 rw[<- oL];rfl
theorem uP (cs:List AV) (off:Nat):ku none cs off=cs[off]?:=rfl
theorem TY (a b c:AV):ku (some 3) [a,b,c] 0=some (.agg [a,b,c]):=rfl
theorem TZ (a b c d:AV):ku (some 4) [a,b,c,d] 0=some (.agg [a,b,c,d]):=rfl
theorem o9 (nm off:Nat):iG (.ptr nm off)=some (.ptr nm off):=rfl
theorem gI (o nm off:Nat):aT o (.ptr nm off)=some (.ptr nm (off+o)):=rfl
theorem bs {α β:Type} {x:Option α} {v:α} {f:α->Option β} {r:Option β} (h:x=some v) (k:f v=r):x.bind f=r:=by rw[h];exact k
theorem dJ {α:Type} {x:Option α} {v:α} {f:α->OM} (h:x=some v) (k:∃ m',f v=some (.bool true,m')):∃ m',x.bind f=some (.bool true,m'):=by rw[h];exact k
theorem rj (v w:AV):aY (.tup [v,w]) 0=some v:=rfl
theorem rl (v w:AV):aY (.tup [v,w]) 1=some w:=rfl
structure Fr (m m':af) (F:List Nat):Prop where
 len:m.length<=m'.length
 get:∀ x,x < m.length->x∉F->m'.get x=m.get x
theorem Fr.refl (m:af) (F:List Nat):Fr m m F:=⟨aQ _,fun _ _ _=>rfl⟩
theorem Fr.trans {m m1 m2:af} {F F1:List Nat} (h:Fr m m1 F) (k:Fr m1 m2 F1) (hF:∀ x∈F1,x∈F\/m.length<=x):Fr m m2 F:=
 ⟨dY h.len k.len,fun x hx hn=>(k.get x (qV hx h.len) fun h1=>by rcases hF x h1 with h2 | h2<;>first | exact hn h2 | omega).trans (h.get x hx hn)⟩
theorem Fr.mono {m m':af} {F F':List Nat} (h:Fr m m' F) (hs:∀ x∈F,x∈F'):Fr m m' F':=⟨h.len,fun x hx hn=>h.get x hx fun h'=>hn (hs x h')⟩
theorem Fr.app (m:af) (e:Option Ent) (F:List Nat):Fr m (m++[e]) F:=⟨by simp,fun x hx _=>bY hx⟩
theorem Fr.snoc {m m':af} {F:List Nat} (h:Fr m m' F) (e:Option Ent):Fr m (m'++[e]) F:=h.trans (Fr.app m' e []) (fun _ h=>by cases h)
theorem Fr.set {m m':af} {F:List Nat} (h:Fr m m' F) {k:Nat} (e:Option Ent) (hk:k∈F\/m.length<=k):Fr m (m'.set k e) F:=
 ⟨by rw[a8];exact h.len,fun x hx hn=>by
  rw[cG (by rintro rfl;rcases hk with hk | hk;exact hn hk;omega)];exact h.get x hx hn⟩
def dP (n:ND):AV:=if n.var < 0 then au else .lst none false .no (n.kids.map (AV.int .i64))
def ND.av (n:ND):AV:=.agg [.int .i64 n.var,dP n,.int .i64 n.leaf]
def ma:Nat->List ND->List (AV×AV)
 | _,[]=>[]
 | k,n::l=>(.str ⟨n.key.toArray⟩,.int .i64 k)::ma (k+1) l
theorem qmO {a b:ND} (ha:a.ok) (hb:b.ok):jj (.str ⟨a.key.toArray⟩) (.str ⟨b.key.toArray⟩)=decide (a=b):=by
 simp only[jj,uK];refine jS.2 ⟨fun h=>qmP ha hb ?_,fun h=>by rw[h]⟩;have:=cV (fun s:ByteArray=>s.data.toList) h;simpa using this
theorem Mm {n:ND} (hn:n.ok):∀ (l:List ND) (k:Nat),(∀ x∈l,x.ok)->(ma k l).find? (fun p=>jj p.1 (.str ⟨n.key.toArray⟩))=if n∈l then some (.str ⟨n.key.toArray⟩,.int .i64 (k+l.idxOf n:Nat)) else none
 | [],k,_=>rfl
 | x::l,k,h=>by
  rw[ma,List.find?_cons,qmO (h x fN) hn]
  by_cases he:x=n
  ·subst he;simp
  ·rw[dd he];simp only[];rw[Mm hn l (k+1) fun y hy=>h y (fJ _ hy)];have:n∈x::l↔n∈l:=⟨fun h=>(gE.1 h).resolve_left (fun e=>he e.symm),fJ _⟩
   by_cases hm:n∈l
   ·rw[an hm,an (this.2 hm),List.idxOf_cons,cond_eq_ite,ai (by simpa using he)];congr 3;omega
   ·rw[ai hm,ai (fun h=>hm (this.1 h))]
theorem Ud (n:ND):∀ (l:List ND) (k:Nat),ma k (l++[n])=ma k l++[(.str ⟨n.key.toArray⟩,.int .i64 (k+l.length:Nat))]
 | [],k=>rfl
 | x::l,k=>by
  rw[cn,ma,ma,Ud n l (k+1)];simp only[cn,aJ];congr 5;omega
theorem Ue:∀ (l:List ND) (k:Nat),(ma k l).length=l.length
 | [],_=>rfl
 | _::l,k=>by rw[ma,aJ,Ue l,aJ]
theorem qmQ {n:ND} (h:n.ok):n.key.length<=10000:=by
 rcases h with ⟨h1,h2,h3,h4⟩ | ⟨h1,h2,h3,h4,h5⟩
 ·unfold ND.key Yd.nameB;rw[h1,an (by decide)];have:=Yd.itoa_len (n:=n.leaf) ⟨by omega,by omega⟩;simp;omega
 ·have:=Yd.part_len (var:=n.var) (ks:=n.kids) ⟨by omega,by omega⟩ (fun k hk=>by have:=h4 k hk;constructor<;>omega) n.kids.length (aQ _);unfold Yd.part at this;rw[List.take_length] at this;unfold ND.key Yd.nameB;rw[ai (by omega)];omega
theorem Wj {n:ND} (h:n.ok):(⟨n.key.toArray⟩:ByteArray).size<=maxLen:=by
 have:=qmQ h;simp only[ByteArray.size,List.size_toArray,maxLen];omega
theorem WT {m:af} {p:Nat} {l:List ND} {n:ND} (hp:m.get p=some (.mp .str (ma 0 l))) (hl:∀ x∈l,x.ok) (hn:n.ok) (z:AV) :
  o8 .str z m (.mref p) (.str ⟨n.key.toArray⟩)=some (if n∈l then (.int .i64 (l.idxOf n:Nat),true) else (z,false)):=by
 have h1:mg m .str (.mref p)=some (p,ma 0 l):=by simp[mg,hp]
 have h2:jU .str (.str ⟨n.key.toArray⟩)=true:=dD (Wj hn);unfold o8;rw[h1];simp only[aa,h2,bw,Bn,Mm hn l 0 hl]
 by_cases hm:n∈l
 ·rw[an hm,an hm];simp
 ·rw[ai hm,ai hm]
theorem qpW {m:af} {p:Nat} {l:List ND} {n:ND} (hp:m.get p=some (.mp .str (ma 0 l))) (hl:∀ x∈l,x.ok) (hn:n.ok) (hne:n∉l) (hlen:l.length < 100000) :
  kQ .str m (.mref p) (.str ⟨n.key.toArray⟩) (.int .i64 l.length)=some (m.set p (some (.mp .str (ma 0 (l++[n]))))):=by
 have h1:mg m .str (.mref p)=some (p,ma 0 l):=by simp[mg,hp]
 have h2:jU .str (.str ⟨n.key.toArray⟩)=true:=dD (Wj hn)
 have h3:(ma 0 l).any (fun p=>jj p.1 (.str ⟨n.key.toArray⟩))=false:=by
  have:=Mm hn l 0 hl;rw[ai hne,List.find?_eq_none] at this;rw[List.any_eq_false];exact this
 unfold kQ;rw[h1,aa,an ⟨h2,rfl,by rw[Ue];unfold maxLen;omega⟩,Ud];simp only[nO,h3,bp]
inductive NA (m:af):AV->List ND->List Nat->Prop
 | none:NA m au [] []
 | some (t:Nat) (l:List ND) (ht:m.get t=some (.tok l.length 3)):NA m (.lst (some 3) false (.tok t 74) (l.map ND.av)) l [t]
structure SAt (m:af) (s p:Nat) (arms na:AV) (most:Int) (l:List ND) (T:List Nat):Prop where
 hs:m.get s=some (.obj true [arms,na,.mref p,.int .i64 most])
 hp:m.get p=some (.mp .str (ma 0 l))
 hn:NA m na l T
 ok:∀ x∈l,x.ok
 ne:s≠p
 hT:∀ t∈T,t≠s/\t≠p
end Go.Ab
namespace Go.Ab
open Go.Proofs Go.Proofs.Tryz
theorem nM (m:af) (e:Ent):az none m e=(m.length,m++[some e]):=rfl
theorem Tt {sh:Sh} {m:af} {v:AV} (h:c9 sh v=true):dI none sh m v=some (.ptr m.length 0,m++[some (Ent.obj true v.cells)]):=by
 unfold dI;rw[an h];rfl
theorem uL (k:IntKind) (n:Int) (m:af):dI none none m (.int k n)=some (.ptr m.length 0,m++[some (Ent.obj true [.int k n])]):=rfl
theorem pX (nm o:Nat) (m:af):dI none none m (.ptr nm o)=some (.ptr m.length 0,m++[some (Ent.obj true [.ptr nm o])]):=rfl
theorem Aw (a b:Int) (z:Bool) (o:Own) (ks:List AV) (m:af):dI none (some 3) m (.agg [.int .i64 a,.lst none z o ks,.int .i64 b])=some (.ptr m.length 0,m++[some (Ent.obj true [.int .i64 a,.lst none z o ks,.int .i64 b])]):=rfl
theorem gM (m:af):cU m 1=m++[some Ent.resv]:=rfl
theorem rI (b:Bool):jN .not (.bool b)=some (.bool (!b)):=rfl
theorem yV (m:af) (a b c:AV):aj (some 3) m (.vptr [a,b,c])=some (.agg [a,b,c]):=rfl
theorem Wu (m:af) (a b c:AV):aj none m (.vptr [a,b,c])=some a:=rfl
theorem TE (k:IntKind) (n:Int):AV.cells (.int k n)=[.int k n]:=rfl
theorem LH (k:IntKind) (n:Int):di (.int k n)=true:=rfl
theorem TC (b:Bool):AV.cells (.bool b)=[.bool b]:=rfl
theorem Tb (b:Bool):di (.bool b)=true:=rfl
theorem TJ (s:ByteArray):AV.cells (.str s)=[.str s]:=rfl
theorem Th (s:ByteArray):di (.str s)=true:=rfl
theorem TF (sh:Sh) (z:Bool) (o:Own) (es:List AV):AV.cells (.lst sh z o es)=[.lst sh z o es]:=rfl
theorem Td (sh:Sh) (z:Bool) (o:Own) (es:List AV):di (.lst sh z o es)=true:=rfl
theorem TI (nm off:Nat):AV.cells (.ptr nm off)=[.ptr nm off]:=rfl
theorem Tg (nm off:Nat):di (.ptr nm off)=true:=rfl
theorem TB (nm off n:Nat) (sh:Sh):AV.cells (.arr nm off n sh)=[.arr nm off n sh]:=rfl
theorem Ta (nm off n:Nat) (sh:Sh):di (.arr nm off n sh)=true:=rfl
theorem TD (f:Nat) (cs:List AV):AV.cells (.fn f cs)=[.fn f cs]:=rfl
theorem Tc (f:Nat) (cs:List AV):di (.fn f cs)=true:=rfl
theorem TG (nm:Nat):AV.cells (.mref nm)=[.mref nm]:=rfl
theorem Te (nm:Nat):di (.mref nm)=true:=rfl
theorem TH:AV.cells .nilp=[.nilp]:=rfl
theorem Tf:di .nilp=true:=rfl
theorem TA (cs:List AV):AV.cells (.agg cs)=cs:=rfl
theorem YQ (v:AV):c9 none v=di v:=rfl
theorem YR (n:Nat) (cs:List AV):c9 (some n) (.agg cs)=(cs.length == n && cs.all di):=rfl
theorem dH:type_of% @n0/\type_of% @List.all_nil.{0}/\type_of% @Bool.and_true/\type_of% @mV/\type_of% @gM/\type_of% @bX/\type_of% @yV/\type_of% @Wu/\type_of% @iS/\type_of% @jg/\type_of% @bh/\type_of% @si/\type_of% @ir/\type_of% @jZ/\type_of% @fV/\type_of% @rI/\type_of% @dQ/\type_of% @qL/\type_of% @kD/\type_of% @uP/\type_of% @TY/\type_of% @TZ/\type_of% @o9/\type_of% @gI/\type_of% @bY/\type_of% @bJ/\type_of% @cG/\type_of% @c8/\type_of% @nM/\type_of% @Tt/\type_of% @List.getElem?_cons_zero.{0}/\type_of% @List.getElem?_cons_succ.{0}/\type_of% @rj/\type_of% @rl/\type_of% @TE/\type_of% @LH/\type_of% @TC/\type_of% @Tb/\type_of% @TJ/\type_of% @Th/\type_of% @TF/\type_of% @Td/\type_of% @TI/\type_of% @Tg/\type_of% @TB/\type_of% @Ta/\type_of% @TD/\type_of% @Tc/\type_of% @TG/\type_of% @Te/\type_of% @TH/\type_of% @Tf/\type_of% @TA/\type_of% @YQ/\type_of% @YR/\type_of% @o0/\type_of% @aJ/\type_of% @aP/\type_of% @List.take_succ_cons.{0}/\type_of% @List.take_zero.{0}/\type_of% @List.drop_succ_cons.{0}/\type_of% @iR/\type_of% @cn/\type_of% @bV/\type_of% @cm/\type_of% @bp/\type_of% @List.drop_nil.{0}/\type_of% @List.take_nil.{0}/\type_of% @aI/\type_of% @a8:=⟨@n0,@List.all_nil.{0},@Bool.and_true,@mV,@gM,@bX,@yV,@Wu,@iS,@jg,@bh,@si,@ir,@jZ,@fV,@rI,@dQ,@qL,@kD,@uP,@TY,@TZ,@o9,@gI,@bY,@bJ,@cG,@c8,@nM,@Tt,@List.getElem?_cons_zero.{0},@List.getElem?_cons_succ.{0},@rj,@rl,@TE,@LH,@TC,@Tb,@TJ,@Th,@TF,@Td,@TI,@Tg,@TB,@Ta,@TD,@Tc,@TG,@Te,@TH,@Tf,@TA,@YQ,@YR,@o0,@aJ,@aP,@List.take_succ_cons.{0},@List.take_zero.{0},@List.drop_succ_cons.{0},@iR,@cn,@bV,@cm,@bp,@List.drop_nil.{0},@List.take_nil.{0},@aI,@a8⟩
theorem iC {R:Type} (x y:Option R):aw (.bool false) x y=y:=rfl
theorem mc {R:Type} (x y:Option R):aw (.bool true) x y=x:=rfl
theorem qoo {m:af} {s p:Nat} {arms na:AV} {most:Int} {l:List ND} {T:List Nat} (h:SAt m s p arms na most l T) {n:ND} (hn:n.ok) (hm:n∈l) (z:Bool) (o:Own) :
  AC ae 139 [.ptr s 0,.agg [.int .i64 n.var,.lst none z o (n.kids.map (AV.int .i64)),.int .i64 n.leaf]] m=some (.int .i64 (l.idxOf n:Nat),m++[some (Ent.obj true [.int .i64 n.var,.lst none z o (n.kids.map (AV.int .i64)),.int .i64 n.leaf])]):=by
 have hs:=h.hs;have hp:=h.hp;have mK:=bF hs;have hpl:=bF hp;have Np:af.get (m++[some (Ent.obj true [.int .i64 n.var,.lst none z o (n.kids.map (AV.int .i64)),.int .i64 n.leaf])]) p=some (Ent.mp .str (ma 0 l)):=by rw[bY hpl];exact hp
 have nm:=Xo hn z o;have lk:=WT Np h.ok hn (.int .i64 0);rw[an hm] at lk;rw[Lp]
 repeat ((with_reducible (first | apply bs | apply dJ));(focus (first | (simp (disch:=(first | assumption | omega | (simp only[aI,a8,aJ,aP];first | done | omega))) only[dH,beq_self_eq_true,cS,aa,Sh.size,bw,bP,Nat.reduceAdd,Nat.reduceLeDiff,aQ,hs,Aw,nm,lk];first | done | rfl) | rfl));try dsimp only)
 rw[mc]
theorem Hp (a b:Int) (z:Bool) (o:Own) (ks:List AV):dO (some 3) [.agg [.int .i64 a,.lst none z o ks,.int .i64 b]]=some (.lst (some 3) false .full [.agg [.int .i64 a,qh (.lst none z o ks),.int .i64 b]]):=by
 cases o<;>rfl
theorem qhM (b:Nat) (m:af) (y:AV):b8 (some b) false 74 (some 3) 40 m au (.lst (some 3) false .full [y])=some (.lst (some 3) false (.tok b 74) [y],m.set b (some (Ent.tok 1 3))):=rfl
theorem qhO {b t:Nat} {m:af} {es:List AV} {y:AV} (ht:m.get t=some (Ent.tok es.length 3)) (h:es.length < 1000000):b8 (some b) false 74 (some 3) 40 m (.lst (some 3) false (.tok t 74) es) (.lst (some 3) false .full [y])=some (.lst (some 3) false (.tok t 74) (es++[y]),m.set t (some (Ent.tok (es.length+1) 3))):=by
 have h2:(es.length+1) * 40<=gG:=by unfold gG;omega
 simp[b8,ht,Sh.size,h2]
theorem NA.move {m m':af} {na:AV} {l:List ND} {T:List Nat} (h:NA m na l T) (f:∀ x∈T,m'.get x=m.get x):NA m' na l T:=by
 cases h with
 | none=>exact .none
 | some t l ht=>exact .some t l ((f t (by simp)).trans ht)
theorem SAt.move {m m':af} {s p:Nat} {arms na:AV} {most:Int} {l:List ND} {T:List Nat} (h:SAt m s p arms na most l T) (f:∀ x∈s::p::T,m'.get x=m.get x):SAt m' s p arms na most l T:=
 ⟨(f s (by simp)).trans h.hs,(f p (by simp)).trans h.hp,h.hn.move fun x hx=>f x (by simp[hx]),h.ok,h.ne,h.hT⟩
theorem SAt.lt {m:af} {s p:Nat} {arms na:AV} {most:Int} {l:List ND} {T:List Nat} (h:SAt m s p arms na most l T):∀ x∈s::p::T,x < m.length:=by
 intro x hx;simp only[gE] at hx
 rcases hx with rfl | rfl | hx
 ·exact bF h.hs
 ·exact bF h.hp
 ·cases h.hn with
  | none=>cases hx
  | some t l ht=>
    obtain rfl:x=t:=by simpa using hx
    exact bF ht
def dC (m:af) (s:Nat) (F:List Nat) (arms:AV) (most:Int) (l:List ND):Prop:=∃ p na T,SAt m s p arms na most l T/\F=s::p::T
theorem dC.move {m m':af} {s:Nat} {F:List Nat} {arms:AV} {most:Int} {l:List ND} (h:dC m s F arms most l) (f:∀ x∈F,m'.get x=m.get x):dC m' s F arms most l:=by
 obtain ⟨p,na,T,h,rfl⟩:=h;exact ⟨p,na,T,h.move f,rfl⟩
theorem dC.lt {m:af} {s:Nat} {F:List Nat} {arms:AV} {most:Int} {l:List ND} (h:dC m s F arms most l):∀ x∈F,x < m.length:=by
 obtain ⟨p,na,T,h,rfl⟩:=h;exact h.lt
theorem dC.fr {m m':af} {s:Nat} {F G:List Nat} {arms:AV} {most:Int} {l:List ND} (h:dC m s F arms most l) (f:Fr m m' G) (hd:∀ x∈F,x∉G):dC m' s F arms most l:=h.move fun x hx=>f.get x (h.lt x hx) (hd x hx)
def Gr (m:af) (F F':List Nat):Prop:=∀ x∈F',x∈F\/m.length<=x
theorem Gr.refl (m:af) (F:List Nat):Gr m F F:=fun _ h=>.inl h
theorem Gr.trans {m m1:af} {F F1 F2:List Nat} (hl:m.length<=m1.length) (h:Gr m F F1) (k:Gr m1 F1 F2):Gr m F F2:=fun x hx=>by
 rcases k x hx with h1 | h1
 ·exact h x h1
 ·exact .inr (by omega)
def ji (l:List ND) (n:ND):List ND:=if n∈l then l else l++[n]
theorem D9 {l:List ND} {n:ND} (h:n∉l):l.idxOf n=l.length:=List.idxOf_eq_length h
theorem qon {m:af} {s p:Nat} {arms na:AV} {most:Int} {l:List ND} {T:List Nat} (h:SAt m s p arms na most l T) {n:ND} (hn:n.ok) (hm:n∉l) {z:Bool} {o:Own} (hk:qh (.lst none z o (n.kids.map (AV.int .i64)))=dP n)
  (hl:(l.length:Int) < most) (oX:most<=100000):∃ m' na' T',AC ae 139 [.ptr s 0,.agg [.int .i64 n.var,.lst none z o (n.kids.map (AV.int .i64)),.int .i64 n.leaf]] m=some (.int .i64 l.length,m') /\
   SAt m' s p arms na' most (l++[n]) T'/\Fr m m' (s::p::T)/\∀ t∈T',t∈T\/m.length<=t:=by
 have hs:=h.hs;have hp:=h.hp;have mK:=bF hs;have hpl:=bF hp;have hne:=h.ne;have qqh:p≠s:=fun e=>hne e.symm;have nm:=Xo hn z o
 have bg:∀ x∈l++[n],x.ok:=fun x hx=>by
  rcases il.1 hx with hx | hx
  ·exact h.ok x hx
  ·obtain rfl:x=n:=by simpa using hx
   exact hn
 have eE:l.length < 100000:=by omega
 generalize hbx:some (Ent.obj true [.int .i64 n.var,.lst none z o (n.kids.map (AV.int .i64)),.int .i64 n.leaf])=bx;have Np:af.get (m++[bx]) p=some (Ent.mp .str (ma 0 l)):=by rw[bY hpl];exact hp
 have lk:=WT Np h.ok hn (.int .i64 0);rw[ai hm] at lk;have sv:=Aw n.var n.leaf z o (n.kids.map (AV.int .i64)) m;rw[hbx] at sv;have ldb:Bv bx=some (true,[.int .i64 n.var,.lst none z o (n.kids.map (AV.int .i64)),.int .i64 n.leaf]):=by rw[<- hbx];rfl
 have hT:=h.hT;have ou:AV.agg [.int .i64 n.var,dP n,.int .i64 n.leaf]=n.av:=rfl;have up:=fun m' hp=>qpW (m:=m') (p:=p) hp h.ok hn hm eE;have len1:∀ y:AV,((l.map ND.av)++[y]).length=l.length+1:=fun y=>by simp
 have wr1:IntKind.wrap .i64 (((l.length+1:Nat):Int) - 1)=l.length:=by rw[iQ (by omega) (by omega)];omega
 have key:∃ m' na' T',AC ae 139 [.ptr s 0,.agg [.int .i64 n.var,.lst none z o (n.kids.map (AV.int .i64)),.int .i64 n.leaf]] m=some (.int .i64 l.length,m') /\
   af.get m' s=some (Ent.obj true [arms,na',.mref p,.int .i64 most])/\af.get m' p=some (Ent.mp .str (ma 0 (l++[n])))/\NA m' na' (l++[n]) T'/\Fr m m' (s::p::T)/\(∀ t∈T',t≠s/\t≠p)/\∀ t∈T',t∈T\/m.length<=t:=by
  cases h.hn with
  | none=>
   have e:AC ae 139 [.ptr s 0,.agg [.int .i64 n.var,.lst none z o (n.kids.map (AV.int .i64)),.int .i64 n.leaf]] m=some (.int .i64 (0:Nat),(((((m++[bx])++[some Ent.resv]).set (m.length+1) (some (Ent.tok 1 3))).set s (some (Ent.obj true [arms,.lst (some 3) false (.tok (m.length+1) 74) [n.av],.mref p,.int .i64 most]))).set p (some (Ent.mp .str (ma 0 ([]++[n])))))):=by
    rw[Lp]
    repeat ((with_reducible (first | apply bs | apply dJ));(focus (first | (simp (disch:=(first | assumption | omega | (simp only[aI,a8,aJ,aP];first | done | omega))) only[dH,beq_self_eq_true,cS,aa,Sh.size,bw,bP,Nat.reduceAdd,Nat.reduceLeDiff,aQ,hs,sv,nm,lk,ldb];first | done | rfl) | rfl));try dsimp only)
    rw[iC]
    repeat ((with_reducible (first | apply bs | apply dJ));(focus (first | (simp (disch:=(first | assumption | omega | (simp only[aI,a8,aJ,aP];first | done | omega))) only[dH,beq_self_eq_true,cS,aa,Sh.size,bw,bP,Nat.reduceAdd,Nat.reduceLeDiff,aQ,hs,sv,nm,lk,ldb];first | done | rfl) | rfl));try dsimp only)
    rw[aA,ai (by simp at hl ⊢;omega)]
    repeat ((with_reducible (first | apply bs | apply dJ));(focus (first | (simp (disch:=(first | assumption | omega | (simp only[aI,a8,aJ,aP];first | done | omega))) only[dH,beq_self_eq_true,cS,aa,Sh.size,bw,bP,Nat.reduceAdd,Nat.reduceLeDiff,aQ,hs,sv,nm,lk,ldb,Hp,hk,qhM,ou];first | done | rfl) | rfl));try dsimp only)
    rw[show IntKind.wrap .i64 ((1:Nat) - 1:Int)=((([]:List ND).length:Nat):Int) from rfl,up _ ?hq,aa]
    case hq=>exact (by simp (disch:=(first | assumption | omega | (simp only[aI,a8,aJ,aP];first | done | omega))) only[gM,bY,bJ,cG,c8,hp];first | done | rfl)
    repeat ((with_reducible (first | apply bs | apply dJ));(focus (first | (simp (disch:=(first | assumption | omega | (simp only[aI,a8,aJ,aP];first | done | omega))) only[dH,beq_self_eq_true,cS,aa,Sh.size,bw,bP,Nat.reduceAdd,Nat.reduceLeDiff,aQ,hs];first | done | rfl) | rfl));try dsimp only)
    rfl
   refine ⟨_,_,[m.length+1],e,(by simp (disch:=(first | assumption | omega | (simp only[aI,a8,aJ,aP];first | done | omega))) only[gM,bY,bJ,cG,c8];first | done | rfl),(by simp (disch:=(first | assumption | omega | (simp only[aI,a8,aJ,aP];first | done | omega))) only[gM,bY,bJ,cG,c8];first | done | rfl),?_,?_,?_,?_⟩
   ·exact .some _ [n] (by simp (disch:=(first | assumption | omega | (simp only[aI,a8,aJ,aP];first | done | omega))) only[gM,bY,bJ,cG,c8];first | done | rfl)
   ·exact ((((Fr.app m bx _).snoc _).set _ (.inr (by omega))).set _ (.inl (by simp))).set _ (.inl (by simp))
   ·intro t ht;obtain rfl:t=m.length+1:=by simpa using ht
    omega
   ·intro t ht;obtain rfl:t=m.length+1:=by simpa using ht
    omega
  | some t l ht=>
   have gy:=bF ht;have Bg:=(hT t (by simp)).1;have VS:=(hT t (by simp)).2;have qqp:s≠t:=fun e=>Bg e.symm;have qqo:p≠t:=fun e=>VS e.symm
   have e:AC ae 139 [.ptr s 0,.agg [.int .i64 n.var,.lst none z o (n.kids.map (AV.int .i64)),.int .i64 n.leaf]] m=some (.int .i64 l.length,(((((m++[bx])++[some Ent.resv]).set t (some (Ent.tok (l.length+1) 3))).set s (some (Ent.obj true [arms,.lst (some 3) false (.tok t 74) (l.map ND.av++[n.av]),.mref p,.int .i64 most]))).set p (some (Ent.mp .str (ma 0 (l++[n])))))):=by
    have ap:=fun m' b ht=>qhO (b:=b) (m:=m') (t:=t) (es:=l.map ND.av) (y:=n.av) ht (by simp;omega);simp only[bX] at ap;rw[Lp]
    repeat ((with_reducible (first | apply bs | apply dJ));(focus (first | (simp (disch:=(first | assumption | omega | (simp only[aI,a8,aJ,aP];first | done | omega))) only[dH,beq_self_eq_true,cS,aa,Sh.size,bw,bP,Nat.reduceAdd,Nat.reduceLeDiff,aQ,hs,sv,nm,lk,ldb];first | done | rfl) | rfl));try dsimp only)
    rw[iC]
    repeat ((with_reducible (first | apply bs | apply dJ));(focus (first | (simp (disch:=(first | assumption | omega | (simp only[aI,a8,aJ,aP];first | done | omega))) only[dH,beq_self_eq_true,cS,aa,Sh.size,bw,bP,Nat.reduceAdd,Nat.reduceLeDiff,aQ,hs,sv,nm,lk,ldb,bX];first | done | rfl) | rfl));try dsimp only)
    rw[aA,ai (by omega)]
    repeat ((with_reducible (first | apply bs | apply dJ));(focus (first | (simp (disch:=(first | assumption | omega | (simp only[aI,a8,aJ,aP];first | done | omega))) only[dH,beq_self_eq_true,cS,aa,Sh.size,bw,bP,Nat.reduceAdd,Nat.reduceLeDiff,aQ,hs,sv,nm,lk,ldb,Hp,hk,ou];first | done | rfl) | rfl));try dsimp only)
    rw[ap _ _ ?hq,aa]
    case hq=>exact (by simp (disch:=(first | assumption | omega | (simp only[aI,a8,aJ,aP];first | done | omega))) only[gM,bY,bJ,cG,c8,ht];first | done | rfl)
    dsimp only
    repeat ((with_reducible (first | apply bs | apply dJ));(focus (first | (simp (disch:=(first | assumption | omega | (simp only[aI,a8,aJ,aP];first | done | omega))) only[dH,beq_self_eq_true,cS,aa,Sh.size,bw,bP,Nat.reduceAdd,Nat.reduceLeDiff,aQ,hs,len1];first | done | rfl) | rfl));try dsimp only)
    rw[wr1,up _ ?hq,aa]
    case hq=>exact (by simp (disch:=(first | assumption | omega | (simp only[aI,a8,aJ,aP];first | done | omega))) only[gM,bY,bJ,cG,c8,hp];first | done | rfl)
    repeat ((with_reducible (first | apply bs | apply dJ));(focus (first | (simp (disch:=(first | assumption | omega | (simp only[aI,a8,aJ,aP];first | done | omega))) only[dH,beq_self_eq_true,cS,aa,Sh.size,bw,bP,Nat.reduceAdd,Nat.reduceLeDiff,aQ,hs,len1];first | done | rfl) | rfl));try dsimp only)
    rw[wr1]
   refine ⟨_,_,[t],e,(by simp (disch:=(first | assumption | omega | (simp only[aI,a8,aJ,aP];first | done | omega))) only[gM,bY,bJ,cG,c8];first | done | rfl),(by simp (disch:=(first | assumption | omega | (simp only[aI,a8,aJ,aP];first | done | omega))) only[gM,bY,bJ,cG,c8];first | done | rfl),?_,?_,?_,?_⟩
   ·have e2:(l++[n]).map ND.av=l.map ND.av++[n.av]:=by simp
    rw[<- e2];refine .some t (l++[n]) ?_;rw[aI]
    exact (by simp (disch:=(first | assumption | omega | (simp only[aI,a8,aJ,aP];first | done | omega))) only[gM,bY,bJ,cG,c8];first | done | rfl)
   ·exact ((((Fr.app m bx _).snoc _).set _ (.inl (by simp))).set _ (.inl (by simp))).set _ (.inl (by simp))
   ·intro x hx;obtain rfl:x=t:=by simpa using hx
    exact ⟨Bg,VS⟩
   ·intro x hx;exact .inl hx
 obtain ⟨m',na',T',e,k1,k2,k3,k4,k5,k6⟩:=key;exact ⟨m',na',T',e,⟨k1,k2,k3,bg,hne,k5⟩,k4,k6⟩
theorem Ya {m:af} {s:Nat} {F:List Nat} {arms:AV} {most:Int} {l:List ND} (h:dC m s F arms most l) {n:ND} (hn:n.ok) {z:Bool} {o:Own} (hk:qh (.lst none z o (n.kids.map (AV.int .i64)))=dP n)
  (hl:(l.length:Int) < most) (oX:most<=100000):∃ m' F',AC ae 139 [.ptr s 0,.agg [.int .i64 n.var,.lst none z o (n.kids.map (AV.int .i64)),.int .i64 n.leaf]] m=some (.int .i64 (l.idxOf n:Nat),m') /\
   dC m' s F' arms most (ji l n)/\Fr m m' F/\Gr m F F':=by
 obtain ⟨p,na,T,h,rfl⟩:=h
 by_cases hm:n∈l
 ·refine ⟨_,s::p::T,qoo h hn hm z o,?_,Fr.app m _ _,Gr.refl _ _⟩;rw[ji,an hm];exact ⟨p,na,T,h.move fun x hx=>bY (h.lt x hx),rfl⟩
 ·obtain ⟨m',na',T',e,h1,h2,h3⟩:=qon h hn hm hk hl oX
  refine ⟨m',s::p::T',by rw[D9 hm];exact e,?_,h2,fun x hx=>?_⟩
  ·rw[ji,ai hm];exact ⟨p,na',T',h1,rfl⟩
  ·simp only[gE] at hx ⊢
   rcases hx with rfl | rfl | hx
   ·exact .inl (.inl rfl)
   ·exact .inl (.inr (.inl rfl))
   ·rcases h3 x hx with h | h
    ·exact .inl (.inr (.inr h))
    ·exact .inr h
end Go.Ab
namespace Go.Ab
noncomputable section
open Go.Proofs.Tryz
theorem CT (a0 a1 a2:AV) (m:af):AC ae 34 [a0,a1,a2] m=(dI none none m a0).bind fun r1=>(dI none none r1.2 a1).bind fun r2=>(dI none none r2.2 a2).bind fun r3=>(aj none r3.2 r1.1).bind fun v4=>(AC ae 80 [v4] r3.2).bind fun r5=>aw r5.1 (some ((.tup [(.int .i64 0),(.int .i64 4)]),r5.2)) ((aj none r5.2 r2.1).bind fun v6=>(ag .other .lss v6 (.int .i64 0)).bind fun v7=>aw v7 (some ((.tup [(.int .i64 0),(.int .i64 1)]),r5.2)) ((aj none r5.2 r2.1).bind fun v8=>(aj none r5.2 r1.1).bind fun v9=>(iG v9).bind fun v10=>(aT 0 v10).bind fun v11=>(aj none r5.2 v11).bind fun v12=>(aO false v12).bind fun bu=>(ag .other .geq v8 bu).bind fun bq=>aw bq (some ((.tup [(.int .i64 0),(.int .i64 1)]),r5.2)) ((aj none r5.2 r3.1).bind fun br=>(aO false br).bind fun bT=>(aj none r5.2 r1.1).bind fun bH=>(iG bH).bind fun fI=>(aT 0 fI).bind fun dG=>(aj none r5.2 dG).bind fun v20=>(aj none r5.2 r2.1).bind fun v21=>(aH none v20 v21).bind fun v22=>(aj none r5.2 v22).bind fun v23=>(ag .other .neq bT v23).bind fun v24=>aw v24 (some ((.tup [(.int .i64 0),(.int .i64 1)]),r5.2)) ((aj none r5.2 r3.1).bind fun v25=>(AC ae 92 [v25,(.fn 97 [r1.1,r2.1])] r5.2).bind fun qH=>aw qH.1 (some ((.tup [(.int .i64 0),(.int .i64 1)]),qH.2)) ((aj none qH.2 r1.1).bind fun kh=>(AC ae 84 [kh,(.fn 98 [r1.1,r2.1,r3.1])] qH.2).bind fun ud=>(aY ud.1 0).bind fun kR=>(aY ud.1 1).bind fun v30=>some ((.tup [kR,v30]),ud.2)))))):=
(bm ae 34 [a0,a1,a2] m (fn:=f34) (c:=aB f34) qi7 rfl).trans (by kernel_rfl)
theorem R8 (a0 a1 a2:AV) (m:af):AC ae 97 [a0,a1,a2] m=(aj none m a1).bind fun v1=>(AC ae 81 [v1,a0] m).bind fun r2=>(jN .not r2.1).bind fun v3=>aw v3 (tW (some (AV.tup [],r2.2)=some (AV.tup [],r2.2)) (some ((.bool true),r2.2))) ((aj none r2.2 a1).bind fun v4=>(aj none r2.2 a2).bind fun v5=>(AC ae 68 [v4,a0] r2.2).bind fun r6=>tW ((aj none r6.2 a2).bind (fun v=>some (v,r6.2))=some (v5,r6.2)) ((ag .other .leq r6.1 v5).bind fun v7=>some (v7,r6.2))):=
(bm ae 97 [a0,a1,a2] m (fn:=f97) (c:=aB f97) qjN rfl).trans (by kernel_rfl)
theorem T98 (a0 a1 a2:AV) (m:af):AC ae 98 [a0,a1,a2] m=(aj none m a0).bind fun v1=>(aj none m a1).bind fun v2=>(aj none m a2).bind fun v3=>(aD (AP ae) none m 88 [v3]).bind fun r4=>tW ((aj none r4.2 a0).bind (fun v=>some (v,r4.2))=some (v1,r4.2)) (tW ((aj none r4.2 a1).bind (fun v=>some (v,r4.2))=some (v2,r4.2)) ((AC ae 99 [v1,v2,r4.1] r4.2).bind fun r5=>some (r5.1,r5.2))):=
(bm ae 98 [a0,a1,a2] m (fn:=f98) (c:=aB f98) qjO rfl).trans (by kernel_rfl)
end
end Go.Ab
namespace Go.Ab
open Go.Proofs Go.Proofs.Tryz
abbrev IA (z:Bool) (o:Own) (ns:List Int):AV:=.lst none z o (ns.map (AV.int .i64))
theorem mG (z:Bool) (o:Own) (ns:List Int):Fz (IA z o ns) (IA z o.fr ns):=fun m=>by cases o<;>rfl
theorem iE (z:Bool) (o:Own) (ns:List Int):aO false (IA z o ns)=some (.int .i64 ns.length):=by
 rw[o0,bX]
theorem jB {z:Bool} {o:Own} {ns:List Int} {k:IntKind} {i:Nat} (h:i < ns.length):aH none (IA z o ns) (.int k i)=some (.vptr [.int .i64 ns[i]]):=by
 simp[aH,h,AV.cells]
theorem Ea {z:Bool} {o:Own} {ns:List Int} {k:IntKind} (h:0 < ns.length):aH none (IA z o ns) (.int k 0)=some (.vptr [.int .i64 ns[0]]):=jB (i:=0) h
def xY (z:Bool) (ns:List Int):AV:=if z then au else if ns=[] then .lst none false .full [] else IA false .no ns
theorem V49 (z:Bool) (o:Own) (ns:List Int) (hl:ns.length<=1000000):AP ae 88 [IA z o ns]=some (xY z ns):=by
 have e0:ag .sl .eql (IA z o ns) au=some (.bool z):=rfl
 cases z with
 | true=>
  refine iK (m:=[]) (v:=au) (l:=[]) ?_ rfl rfl;rw[Ls,e0,aa,mc]
 | false=>
  cases ns with
  | nil=>
   refine iK (m:=[]) (v:=.lst none false .full []) (l:=[]) ?_ rfl rfl;rw[Ls,e0,aa,iC]
   rfl
  | cons n ns=>
   refine iK (m:=[some (Ent.tok (0+(ns.length+1)) 1)]) (v:=.lst none false (.tok 0 3) ((n::ns).map (AV.int .i64))) (l:=[]) ?_ rfl rfl;rw[Ls,e0,aa,iC,show dO none []=some (.lst none false .full []) from rfl,aa];have hb:(0+(ns.length+1)) * 8<=gG:=by unfold gG;simp at hl;omega
   simp only[b8,gd,aP,aJ,bX,hb,bw,or_true,jX,me,az,aP,bV,aa,Sh.size]
theorem OI (z:Bool) (o:Own) (ns:List Int) (hl:ns.length<=1000000) (m:af):aD (AP ae) none m 88 [IA z o ns]=some (xY z ns,m):=by
 rw[cJ (mG z o ns),V49 _ _ _ hl];rfl
theorem V51 (n:Int):AP ae 94 [.int .i64 n]=some (.bool (decide (0<=n/\n<=2147483647))):=by
 refine iK (m:=[]) (v:=.bool (decide (0<=n/\n<=2147483647))) (l:=[]) ?_ rfl rfl;rw[R7,jZ,aa,aA]
 by_cases h:n≥0
 ·rw[an h,si,aa];congr 3;exact jS.2 (by omega)
 ·rw[ai h];congr 3;exact (dd (by omega)).symm
theorem OJ (n:Int) (m:af):aD (AP ae) none m 94 [.int .i64 n]=some (.bool (decide (0<=n/\n<=2147483647)),m):=by
 rw[cJ (gh _ _),V51];rfl
section
variable {m:af} {s:Nat} {F:List Nat} {arms:AV} {most:Int} {l:List ND}
theorem B0 (h:dC m s F arms most l) (hm:most≠0):AC ae 80 [.ptr s 0] m=some (.bool false,m):=by
 obtain ⟨p,na,T,h,rfl⟩:=h;have hs:=h.hs;rw[T80,show ag .pt .eql (.ptr s 0) .nilp=some (.bool false) from rfl,aa,iC]
 repeat ((with_reducible (first | apply bs | apply dJ));(focus (first | (simp (disch:=(first | assumption | omega | (simp only[aI,a8,aJ,aP];first | done | omega))) only[dH,beq_self_eq_true,cS,aa,Sh.size,bw,bP,Nat.reduceAdd,Nat.reduceLeDiff,aQ,hs];first | done | rfl) | rfl));try dsimp only)
 rw[show (decide (most=0))=false from dd hm]
theorem JD (h:dC m s F arms most l) (i:Int):AC ae 81 [.ptr s 0,.int .i64 i] m=some (.bool (decide (0<=i/\i < l.length)),m):=by
 obtain ⟨p,na,T,h,rfl⟩:=h;have hs:=h.hs
 have hlen:aO false na=some (.int .i64 l.length):=by
  cases h.hn with
  | none=>rfl
  | some t l ht=>rw[o0,bX]
 rw[T81,jZ,aa,aA]
 by_cases h0:i≥0
 ·rw[an h0]
  repeat ((with_reducible (first | apply bs | apply dJ));(focus (first | (simp (disch:=(first | assumption | omega | (simp only[aI,a8,aJ,aP];first | done | omega))) only[dH,beq_self_eq_true,cS,aa,Sh.size,bw,bP,Nat.reduceAdd,Nat.reduceLeDiff,aQ,hs,hlen];first | done | rfl) | rfl));try dsimp only)
  congr 3;exact jS.2 (by omega)
 ·rw[ai h0,show (decide (0<=i/\i < l.length))=false from dd (by omega)]
def fD (a:Nat) (n:ND):Int:=if n.var≥0 then n.var else a
theorem Eo {na:AV} {T:List Nat} (h:NA m na l T) {i:Nat} (hi:i < l.length):aH (some 3) na (.int .i64 i)=some (.vptr [.int .i64 l[i].var,dP l[i],.int .i64 l[i].leaf]):=by
 cases h with
 | none=>simp at hi
 | some t l ht=>simp[aH,hi];rfl
theorem Hn (n:ND) (m:af) (h:af.get m m.length=none):aL (some 3) (m++[some (Ent.obj true [.int .i64 0,au,.int .i64 0])]) (.ptr m.length 0) (.agg [.int .i64 n.var,dP n,.int .i64 n.leaf])=some (m++[some (Ent.obj true [.int .i64 n.var,dP n,.int .i64 n.leaf])]):=by
 have e:c9 (some 3) (.agg [.int .i64 n.var,dP n,.int .i64 n.leaf])=true:=by unfold dP;split<;>rfl
 rw[qL,bJ rfl,kD,aa];simp[cS,Sh.size,e,bP,AV.cells]
theorem HN (m:af):af.get m m.length=none:=by simp[af.get]
theorem JE {z:Bool} {o:Own} {ar:List Int} (h:dC m s F (IA z o ar) most l) {i:Nat} (hi:i < l.length):∃ m',AC ae 68 [.ptr s 0,.int .i64 i] m=some (.int .i64 (fD ar.length l[i]),m')/\Fr m m' []:=by
 obtain ⟨p,na,T,h,rfl⟩:=h;have hs:=h.hs;have mK:=bF hs;have nb:=Eo h.hn hi;have bx:=Hn l[i] m (HN m);refine ⟨_,?_,Fr.app m (some (Ent.obj true [.int .i64 l[i].var,dP l[i],.int .i64 l[i].leaf])) []⟩;rw[T68]
 repeat ((with_reducible (first | apply bs | apply dJ));(focus (first | (simp (disch:=(first | assumption | omega | (simp only[aI,a8,aJ,aP];first | done | omega))) only[dH,beq_self_eq_true,cS,aa,Sh.size,bw,bP,Nat.reduceAdd,Nat.reduceLeDiff,aQ,hs,nb,bx];first | done | rfl) | rfl));try dsimp only)
 rw[aA]
 by_cases hv:l[i].var≥0
 ·rw[an hv]
  repeat ((with_reducible (first | apply bs | apply dJ));(focus (first | (simp (disch:=(first | assumption | omega | (simp only[aI,a8,aJ,aP];first | done | omega))) only[dH,beq_self_eq_true,cS,aa,Sh.size,bw,bP,Nat.reduceAdd,Nat.reduceLeDiff,aQ,hs];first | done | rfl) | rfl));try dsimp only)
  rw[fD,an hv]
 ·rw[ai hv]
  repeat ((with_reducible (first | apply bs | apply dJ));(focus (first | (simp (disch:=(first | assumption | omega | (simp only[aI,a8,aJ,aP];first | done | omega))) only[dH,beq_self_eq_true,cS,aa,Sh.size,bw,bP,Nat.reduceAdd,Nat.reduceLeDiff,aQ,hs,iE];first | done | rfl) | rfl));try dsimp only)
  rw[fD,ai hv]
def iD (x:Int):ND:=⟨-1,[],x⟩
theorem Wv {x:Int} (h:0<=x/\x<=2147483647):(iD x).ok:=.inl ⟨rfl,rfl,h⟩
theorem PJ (h:dC m s F arms most l) {x:Int} (hx:0<=x/\x<=2147483647) (hl:(l.length:Int) < most) (oX:most<=100000) :
  ∃ m' F',AC ae 96 [.ptr s 0,.int .i64 x] m=some (.int .i64 (l.idxOf (iD x):Nat),m')/\dC m' s F' arms most (ji l (iD x))/\Fr m m' F/\Gr m F F':=by
 obtain ⟨m',F',e,h1,h2,h3⟩:=Ya h (Wv hx) (z:=true) (o:=.full) rfl hl oX;refine ⟨m',F',?_,h1,h2,h3⟩;have e:AC ae 139 [.ptr s 0,.agg [.int .i64 (-1),au,.int .i64 x]] m=_:=e;rw[T96,show gm (.agg [(.int .i64 0),au,(.int .i64 0)]) [(0,none,(.int .i64 (-1))),(2,none,.int .i64 x)]=some (.agg [.int .i64 (-1),au,.int .i64 x]) from rfl,aa,e,aa]
def hG (v:Int) (ks:List Int):ND:=⟨v,ks,0⟩
def nN (l:List ND) (v:Int) (ks:List Int):Int×List ND:=if ks.all (fun k=>k == ks.headD 0) then (ks.headD 0,l) else (((l.idxOf (hG v ks):Nat):Int),ji l (hG v ks))
theorem Xr (l:List ND) (v k0:Int) (ks:List Int):nN l v (k0::ks)=if (k0::ks).all (fun k=>k == k0) then (k0,l) else (((l.idxOf (hG v (k0::ks)):Nat):Int),ji l (hG v (k0::ks))):=rfl
theorem SL (x0:AV) (v:Int) (z:Bool) (o:Own) (k0:Int) (ks:List Int) (hlen:(k0::ks).length<=1000) (K:KT):∀ j i:Nat,i+j=(k0::ks).length ->
  GC x0 (.int .i64 v) (IA z o (k0::ks)) (IA z o (k0::ks)) (.int .i64 (k0::ks).length) (.int .i64 i) m K =
   if ((k0::ks).drop i).all (fun k=>k == k0) then K (.exit 0) (Ll (IA z o (k0::ks)) m) else
    (AC ae 139 [x0,.agg [.int .i64 v,IA z o (k0::ks),.int .i64 0]] m).bind fun r8=>K .ret (Ln r8.1 r8.2)
 | 0,i,h=>by
  rw[Ri,bh,aa,aA,ai (by omega),jo (by omega)];rfl
 | j+1,i,h=>by
  have hi:i < (k0::ks).length:=by omega
  rw[Ri,bh,aa,aA,an (by omega),jB hi,aa,fV,aa,Ea (by simp),aa,fV,aa,jg,aa,aA,kT hi,n0];have hb:∀ (a b:Int),gm (.agg [(.int .i64 0),au,(.int .i64 0)]) [(0,none,.int .i64 v),(1,none,IA z o (k0::ks))]=some (.agg [.int .i64 v,IA z o (k0::ks),.int .i64 0]):=fun _ _=>rfl
  by_cases he:(k0::ks)[i]=k0
  ·rw[ai (by simpa using he),cB (by omega),aa,SL x0 v z o k0 ks hlen K j (i+1) (by omega),show ((k0::ks)[i] == k0)=true by simpa using he,iL]
  ·rw[an (by simpa using he),hb 0 0,aa,show ((k0::ks)[i] == k0)=false by simpa using he,lY];rfl
theorem PK (h:dC m s F arms most l) {v:Int} {z:Bool} {o:Own} {ks:List Int} (hne:ks≠[]) (hn:(hG v ks).ok) (hz:z=false) (ho:o=.no\/∃ t e,o=.tok t e) (hl:(l.length:Int) < most) (oX:most<=100000) :
  ∃ m' F',AC ae 99 [.ptr s 0,.int .i64 v,IA z o ks] m=some (.int .i64 (nN l v ks).1,m')/\dC m' s F' arms most (nN l v ks).2/\Fr m m' F/\Gr m F F':=by
 obtain ⟨k0,ks,rfl⟩:=List.exists_cons_of_ne_nil hne;subst hz
 have hv:¬ v < 0/\(k0::ks).length<=64:=by
  rcases hn with ⟨_,h2,_⟩ | ⟨h1,_,_,_,h5⟩
  ·cases h2
  ·exact ⟨by simp only[hG] at h1;omega,h5⟩
 rw[T99,iE,aa];have w:=SL (m:=m) (.ptr s 0) v false o k0 ks (by omega) (FL (aE ae.P f99.results.toList)) (k0::ks).length 0 (by omega);rw[iR] at w;rw[show (AV.int .i64 0)=.int .i64 ((0:Nat):Int) from rfl,w,Xr]
 by_cases ha:((k0::ks).all fun k=>k == k0)=true
 ·rw[an ha,an ha,qe9,Ea (by simp),aa,fV,aa];exact ⟨m,F,rfl,h,Fr.refl _ _,Gr.refl _ _⟩
 ·rw[ai ha,ai ha]
  have hk:qh (.lst none false o (((hG v (k0::ks)).kids).map (AV.int .i64)))=dP (hG v (k0::ks)):=by
   unfold dP;rw[ai (show ¬ (hG v (k0::ks)).var < 0 from hv.1)]
   rcases ho with rfl | ⟨t,e,rfl⟩<;>rfl
  obtain ⟨m',F',e,h1,h2,h3⟩:=Ya h hn (z:=false) (o:=o) hk hl oX;refine ⟨m',F',?_,h1,h2,h3⟩;have e:AC ae 139 [.ptr s 0,.agg [.int .i64 v,IA false o (k0::ks),.int .i64 0]] m=_:=e;rw[e,aa,qe8]
theorem tz {f g:Nat} {vs:List AV} {m:af} {K:AV->af->OM} (h1:((ae.lib g).isNone && (ae.libm g).isNone)=true) (h2:ae.inl f g=true) (h3:ae.thaw f g=false) (h4:ae.frzc f g=false:=by rfl):j0 ae f (AP ae) (AC ae) none g vs m K=(AC ae g vs m).bind fun r=>K r.1 r.2:=by
 have h5:ae.lib g=none/\ae.libm g=none:=by
  rw[b7] at h1;exact ⟨Option.isNone_iff_eq_none.1 h1.1,Option.isNone_iff_eq_none.1 h1.2⟩
 unfold j0;rw[h5.2,h5.1,h2,h4,h3]
theorem PI {g:Nat} {caps:List AV} {id:Int} {l':List ND} (h:dC m s F arms most l) (h1:((ae.lib g).isNone && (ae.libm g).isNone)=true) (h2:ae.inl 84 g=true) (h3:ae.thaw 84 g=false)
  (hc:∀ m1,Fr m m1 []->∃ m' F',AC ae g caps m1=some (.int .i64 id,m')/\dC m' s F' arms most l'/\Fr m1 m' F/\Gr m1 F F') :
  ∃ m' F',AC ae 84 [.ptr s 0,.fn g caps] m=some (.tup [.int .i64 id,.int .i64 0],m')/\dC m' s F' arms most l'/\Fr m m' F/\Gr m F F':=by
 have hlt:=h.lt;obtain ⟨p,na,T,h,rfl⟩:=h;have hs:=h.hs;have mK:=bF hs
 have hlen:aO false na=some (.int .i64 l.length):=by
  cases h.hn with
  | none=>rfl
  | some t l ht=>rw[o0,bX]
 obtain ⟨m2,F2,e2,k1,k2,k3⟩:=hc (List.set (((m++[some (Ent.obj true [.ptr s 0])])++[some (Ent.obj true [.int .i64 0])])++[some (Ent.obj true [.int .i64 0])]++[some (Ent.obj true [.int .i64 0])]) (m.length+1+1+1) (some (Ent.obj true [.int .i64 l.length]))) (((((Fr.app m _ _).snoc _).snoc _).snoc _).set _ (.inr (by omega)));have len2:=k2.len;simp only[a8,aI,aJ,aP] at len2
 have g1:af.get m2 (m.length+1)=some (Ent.obj true [.int .i64 0]):=by
  rw[k2.get _ (by simp) (fun hx=>by have:=hlt _ hx;omega)];exact (by simp (disch:=(first | assumption | omega | (simp only[aI,a8,aJ,aP];first | done | omega))) only[gM,bY,bJ,cG,c8];first | done | rfl)
 have g2:af.get m2 (m.length+2)=some (Ent.obj true [.int .i64 0]):=by
  rw[k2.get _ (by simp) (fun hx=>by have:=hlt _ hx;omega)];exact (by simp (disch:=(first | assumption | omega | (simp only[aI,a8,aJ,aP];first | done | omega))) only[gM,bY,bJ,cG,c8];first | done | rfl)
 have e:AC ae 84 [.ptr s 0,.fn g caps] m=some (.tup [.int .i64 id,.int .i64 0],(m2.set (m.length+1) (some (Ent.obj true [.int .i64 id]))).set (m.length+1+1) (some (Ent.obj true [.int .i64 0]))):=by
  rw[R6]
  repeat ((with_reducible (first | apply bs | apply dJ));(focus (first | (simp (disch:=(first | assumption | omega | (simp only[aI,a8,aJ,aP];first | done | omega))) only[dH,beq_self_eq_true,cS,aa,Sh.size,bw,bP,Nat.reduceAdd,Nat.reduceLeDiff,aQ,hs,hlen,pX];first | done | rfl) | rfl));try dsimp only)
  rw[bV,tz h1 h2 h3,e2,aa];dsimp only
  repeat ((with_reducible (first | apply bs | apply dJ));(focus (first | (simp (disch:=(first | assumption | omega | (simp only[aI,a8,aJ,aP];first | done | omega))) only[dH,beq_self_eq_true,cS,aa,Sh.size,bw,bP,Nat.reduceAdd,Nat.reduceLeDiff,aQ,g1,g2];first | done | rfl) | rfl));try dsimp only)
 refine ⟨_,F2,e,?_,?_,?_⟩
 ·refine k1.move fun x hx=>?_
  have hx2:x≠m.length+1/\x≠m.length+1+1:=by
   rcases k3 x hx with h | h
   ·have:=hlt x h;omega
   ·simp only[a8,aI,aJ,aP] at h;omega
  rw[cG hx2.2,cG hx2.1]
 ·have f1:Fr m m2 (s::p::T):=Fr.trans (((((Fr.app m _ _).snoc _).snoc _).snoc _).set _ (.inr (by omega))) k2 fun x hx=>.inl hx;exact (f1.set _ (.inr (by omega))).set _ (.inr (by omega))
 ·intro x hx
  rcases k3 x hx with h | h
  ·exact .inl h
  ·simp only[a8,aI,aJ,aP] at h;exact .inr (by omega)
end
end Go.Ab
namespace Go.Ab
open Go.Proofs Go.Proofs.Tryz
section
variable {m:af} {s:Nat} {F:List Nat} {arms:AV} {most:Int} {l:List ND}
theorem not_mem_nil {F:List Nat}:∀ x∈F,x∉([]:List Nat):=fun _ _ h=>by cases h
theorem dC.app (h:dC m s F arms most l) {m':af} (f:Fr m m' []):dC m' s F arms most l:=h.fr f not_mem_nil
def wW (l:List ND) (x:Int):(Int×Int)×List ND:=if 0<=x/\x<=2147483647 then ((((l.idxOf (iD x):Nat):Int),0),ji l (iD x)) else ((0,1),l)
theorem ZY {b1 b2:Nat} {x:Int} (h:dC m s F arms most l) (h1:m.get b1=some (Ent.obj true [.ptr s 0])) (h2:m.get b2=some (Ent.obj true [.int .i64 x])) (hx:0<=x/\x<=2147483647) (hl:(l.length:Int) < most) (oX:most<=100000) :
  ∃ m' F',AC ae 95 [.ptr b1 0,.ptr b2 0] m=some (.int .i64 (l.idxOf (iD x):Nat),m')/\dC m' s F' arms most (ji l (iD x))/\Fr m m' F/\Gr m F F':=by
 obtain ⟨m',F',e,k⟩:=PJ h hx hl oX;refine ⟨m',F',?_,k⟩;rw[T95]
 repeat ((with_reducible (first | apply bs | apply dJ));(focus (first | (simp (disch:=(first | assumption | omega | (simp only[aI,a8,aJ,aP];first | done | omega))) only[dH,beq_self_eq_true,cS,aa,Sh.size,bw,bP,Nat.reduceAdd,Nat.reduceLeDiff,aQ,h1,h2,e];first | done | rfl) | rfl));try dsimp only)
theorem ZO (h:dC m s F arms most l) (x:Int) (hl:(l.length:Int) < most) (oX:most<=100000) :
  ∃ m' F',AC ae 33 [.ptr s 0,.int .i64 x] m=some (.tup [.int .i64 (wW l x).1.1,.int .i64 (wW l x).1.2],m')/\dC m' s F' arms most (wW l x).2/\Fr m m' F/\Gr m F F':=by
 have f2:Fr m ((m++[some (Ent.obj true [.ptr s 0])])++[some (Ent.obj true [.int .i64 x])]) []:=(Fr.app m _ _).snoc _;have h2:=h.app f2;have e50:=B0 h2 (by omega);have hlt:=h.lt
 by_cases hx:0<=x/\x<=2147483647
 ·have hd:decide (0<=x/\x<=2147483647)=true:=dD hx
  obtain ⟨m',F',e52,k1,k2,k3⟩:=PI (g:=95) (caps:=[.ptr m.length 0,.ptr (m.length+1) 0]) (id:=(l.idxOf (iD x):Nat)) h2 rfl rfl rfl
   (fun m1 fr=>ZY (h2.app fr) (by rw[fr.get _ (by simp) (by simp)];exact (by simp (disch:=(first | assumption | omega | (simp only[aI,a8,aJ,aP];first | done | omega))) only[gM,bY,bJ,cG,c8];first | done | rfl)) (by rw[fr.get _ (by simp) (by simp)];exact (by simp (disch:=(first | assumption | omega | (simp only[aI,a8,aJ,aP];first | done | omega))) only[gM,bY,bJ,cG,c8];first | done | rfl)) hx hl oX)
  refine ⟨m',F',?_,by rw[wW,an hx];exact k1,Fr.trans (f2.mono (by simp)) k2 fun _ h=>.inl h,Gr.trans f2.len (Gr.refl m F) k3⟩;rw[RZ,wW,an hx]
  repeat ((with_reducible (first | apply bs | apply dJ));(focus (first | (simp (disch:=(first | assumption | omega | (simp only[aI,a8,aJ,aP];first | done | omega))) only[dH,beq_self_eq_true,cS,aa,Sh.size,bw,bP,Nat.reduceAdd,Nat.reduceLeDiff,aQ,pX,uL,e50];first | done | rfl) | rfl));try dsimp only)
  rw[iC]
  repeat ((with_reducible (first | apply bs | apply dJ));(focus (first | (simp (disch:=(first | assumption | omega | (simp only[aI,a8,aJ,aP];first | done | omega))) only[dH,beq_self_eq_true,cS,aa,Sh.size,bw,bP,Nat.reduceAdd,Nat.reduceLeDiff,aQ,pX,uL,OJ,hd];first | done | rfl) | rfl));try dsimp only)
  rw[kS,iC]
  repeat ((with_reducible (first | apply bs | apply dJ));(focus (first | (simp (disch:=(first | assumption | omega | (simp only[aI,a8,aJ,aP];first | done | omega))) only[dH,beq_self_eq_true,cS,aa,Sh.size,bw,bP,Nat.reduceAdd,Nat.reduceLeDiff,aQ,e52];first | done | rfl) | rfl));try dsimp only)
 ·have hd:decide (0<=x/\x<=2147483647)=false:=dd hx;refine ⟨_,F,?_,by rw[wW,ai hx];exact h2,f2.mono (by simp),Gr.refl _ _⟩;rw[RZ,wW,ai hx]
  repeat ((with_reducible (first | apply bs | apply dJ));(focus (first | (simp (disch:=(first | assumption | omega | (simp only[aI,a8,aJ,aP];first | done | omega))) only[dH,beq_self_eq_true,cS,aa,Sh.size,bw,bP,Nat.reduceAdd,Nat.reduceLeDiff,aQ,pX,uL,e50];first | done | rfl) | rfl));try dsimp only)
  rw[iC]
  repeat ((with_reducible (first | apply bs | apply dJ));(focus (first | (simp (disch:=(first | assumption | omega | (simp only[aI,a8,aJ,aP];first | done | omega))) only[dH,beq_self_eq_true,cS,aa,Sh.size,bw,bP,Nat.reduceAdd,Nat.reduceLeDiff,aQ,pX,uL,OJ,hd];first | done | rfl) | rfl));try dsimp only)
  rw[nX,mc]
def tZ (a:Nat) (l:List ND) (v k:Int):Bool:=decide (0<=k/\k < l.length) && decide (v < fD a (l.getD k.toNat ⟨0,[],0⟩))
def vt (ar:List Int) (l:List ND) (v:Int) (ks:List Int):(Int×Int)×List ND:=
 if 0<=v/\v < ar.length/\(ks.length:Int)=ar.getD v.toNat 0/\ks.all (tZ ar.length l v)=true then (((nN l v ks).1,0),(nN l v ks).2) else ((0,1),l)
theorem ZZ {z:Bool} {o:Own} {ar:List Int} {b1 b2:Nat} {k v:Int} (h:dC m s F (IA z o ar) most l) (h1:m.get b1=some (Ent.obj true [.ptr s 0])) (h2:m.get b2=some (Ent.obj true [.int .i64 v])) :
  ∃ m',AC ae 97 [.int .i64 k,.ptr b1 0,.ptr b2 0] m=some (.bool (!tZ ar.length l v k),m')/\Fr m m' []:=by
 have e56:=JD h k;have nc:=bF h1;have iX:=bF h2
 by_cases hk:0<=k/\k < l.length
 ·have hd:decide (0<=k/\k < l.length)=true:=dD hk;obtain ⟨i,rfl⟩:=nA hk.1;have hi:i < l.length:=by omega
  obtain ⟨m',e57,f⟩:=JE h hi;refine ⟨m',?_,f⟩;have im:m'.get b2=some (Ent.obj true [.int .i64 v]):=(f.get _ iX (by simp)).trans h2;rw[R8]
  repeat ((with_reducible (first | apply bs | apply dJ));(focus (first | (simp (disch:=(first | assumption | omega | (simp only[aI,a8,aJ,aP];first | done | omega))) only[dH,beq_self_eq_true,cS,aa,Sh.size,bw,bP,Nat.reduceAdd,Nat.reduceLeDiff,aQ,h1,e56];first | done | rfl) | rfl));try dsimp only)
  rw[hd,kS,iC]
  repeat ((with_reducible (first | apply bs | apply dJ));(focus (first | (simp (disch:=(first | assumption | omega | (simp only[aI,a8,aJ,aP];first | done | omega))) only[dH,beq_self_eq_true,cS,aa,Sh.size,bw,bP,Nat.reduceAdd,Nat.reduceLeDiff,aQ,h1,h2,e57];first | done | rfl) | rfl));try dsimp only)
  rw[vr (by simp only[dQ,im,kD,aa];rfl)]
  repeat ((with_reducible (first | apply bs | apply dJ));(focus (first | (simp (disch:=(first | assumption | omega | (simp only[aI,a8,aJ,aP];first | done | omega))) only[dH,beq_self_eq_true,cS,aa,Sh.size,bw,bP,Nat.reduceAdd,Nat.reduceLeDiff,aQ];first | done | rfl) | rfl));try dsimp only)
  rw[tZ,hd,iL,cK,aS,bD hi,dh];congr 3;rw[<- decide_not];exact jS.2 (by omega)
 ·have hd:decide (0<=k/\k < l.length)=false:=dd hk;refine ⟨m,?_,Fr.refl _ _⟩;rw[R8]
  repeat ((with_reducible (first | apply bs | apply dJ));(focus (first | (simp (disch:=(first | assumption | omega | (simp only[aI,a8,aJ,aP];first | done | omega))) only[dH,beq_self_eq_true,cS,aa,Sh.size,bw,bP,Nat.reduceAdd,Nat.reduceLeDiff,aQ,h1,e56];first | done | rfl) | rfl));try dsimp only)
  rw[hd,nX,mc,vr rfl,tZ,hd,lY,nX]
theorem SU {z:Bool} {o:Own} {ks:List Int} {g:Nat} {caps:List AV} {p:Int->Bool} (hlen:ks.length<=100000) (h1:((ae.lib g).isNone && (ae.libm g).isNone)=true) (h2:ae.inl 145 g=true) (h3:ae.thaw 145 g=false) (m0:af)
  (hc:∀ m1 k,Fr m0 m1 []->∃ m',AC ae g (.int .i64 k::caps) m1=some (.bool (p k),m')/\Fr m1 m' []):∀ (j i:Nat) (m1:af),i+j=ks.length->Fr m0 m1 [] ->
  ∃ m' v,zQ (IA z o ks) (.fn g caps) (.int .i64 ks.length) (.int .i64 i) m1 (zL (aE ae.P f145.results.toList))=some (.int .i64 v,m')/\decide (v≥0)=(ks.drop i).any p/\Fr m0 m' []
 | 0,i,m1,h,f=>by
  refine ⟨m1,-1,?_,?_,f⟩
  ·rw[Qx,bh,aa,aA,ai (by omega),qb6]
  ·rw[jo (by omega)];rfl
 | j+1,i,m1,h,f=>by
  have hi:i < ks.length:=by omega
  obtain ⟨m2,e,f2⟩:=hc m1 ks[i] f;have f3:Fr m0 m2 []:=Fr.trans f f2 fun x hx=>by cases hx
  have e0:zQ (IA z o ks) (.fn g caps) (.int .i64 ks.length) (.int .i64 i) m1 (zL (aE ae.P f145.results.toList)) =
    aw (.bool (p ks[i])) (some (.int .i64 i,m2)) (zQ (IA z o ks) (.fn g caps) (.int .i64 ks.length) (.int .i64 (i+1:Nat)) m2 (zL (aE ae.P f145.results.toList))):=by
   rw[Qx,bh,aa,aA,an (by omega),jB hi,aa,fV,aa,show lH (.fn g caps)=some (g,caps) from rfl,aa,tz h1 h2 h3,List.singleton_append,e,aa,qb5,cB (by omega),aa]
  rw[e0,kT hi,List.any_cons]
  cases hp:p ks[i] with
  | true=>
   rw[mc];exact ⟨m2,i,rfl,by simp,f3⟩
  | false=>
   rw[iC];obtain ⟨m',v,e1,e2,e3⟩:=SU hlen h1 h2 h3 m0 hc j (i+1) m2 (by omega) f3;exact ⟨m',v,e1,by rw[e2,zG],e3⟩
theorem PH {z:Bool} {o:Own} {ks:List Int} {g:Nat} {caps:List AV} {p:Int->Bool} (hlen:ks.length<=100000) (h1:((ae.lib g).isNone && (ae.libm g).isNone)=true) (h2:ae.inl 145 g=true) (h3:ae.thaw 145 g=false)
  (hc:∀ m1 k,Fr m m1 []->∃ m',AC ae g (.int .i64 k::caps) m1=some (.bool (p k),m')/\Fr m1 m' []):∃ m',AC ae 92 [IA z o ks,.fn g caps] m=some (.bool (ks.any p),m')/\Fr m m' []:=by
 obtain ⟨m',v,e1,e2,e3⟩:=SU (z:=z) (o:=o) hlen h1 h2 h3 m hc ks.length 0 m (by omega) (Fr.refl _ _);refine ⟨m',?_,e3⟩;rw[T92,qf2,iE,aa,show (AV.int .i64 0)=.int .i64 ((0:Nat):Int) from rfl,e1,aa,show ((0:Nat):Int)=0 from rfl];rw[jZ,aa,e2,iR]
theorem Z0 {z:Bool} {o:Own} {ar:List Int} {b1 b2 b3:Nat} {v:Int} {kz:Bool} {ko:Own} {ks:List Int} (h:dC m s F (IA z o ar) most l) (h1:m.get b1=some (Ent.obj true [.ptr s 0])) (h2:m.get b2=some (Ent.obj true [.int .i64 v])) (h3:m.get b3=some (Ent.obj true [IA kz ko ks]))
  (hne:ks≠[]) (hz:kz=false) (hn:(hG v ks).ok) (hl:(l.length:Int) < most) (oX:most<=100000) :
  ∃ m' F',AC ae 98 [.ptr b1 0,.ptr b2 0,.ptr b3 0] m=some (.int .i64 (nN l v ks).1,m')/\dC m' s F' (IA z o ar) most (nN l v ks).2/\Fr m m' F/\Gr m F F':=by
 subst hz
 have fR:ks.length<=64:=by
  rcases hn with ⟨_,h2,_⟩ | ⟨_,_,_,_,h5⟩
  ·exact absurd h2 hne
  ·exact h5
 have hcl:xY false ks=IA false .no ks:=by unfold xY;rw[ai (by simp),ai hne]
 have c49:=fun m=>OI false ko ks (by omega) m;obtain ⟨m',F',e,k⟩:=PK h hne hn (z:=false) rfl (.inl rfl) hl oX;refine ⟨m',F',?_,k⟩;rw[T98]
 repeat ((with_reducible (first | apply bs | apply dJ));(focus (first | (simp (disch:=(first | assumption | omega | (simp only[aI,a8,aJ,aP];first | done | omega))) only[dH,beq_self_eq_true,cS,aa,Sh.size,bw,bP,Nat.reduceAdd,Nat.reduceLeDiff,aQ,h1,h2,h3,c49,hcl];first | done | rfl) | rfl));try dsimp only)
 rw[vr (by simp only[dQ,h1,kD,aa];rfl),vr (by simp only[dQ,h2,kD,aa];rfl)]
 repeat ((with_reducible (first | apply bs | apply dJ));(focus (first | (simp (disch:=(first | assumption | omega | (simp only[aI,a8,aJ,aP];first | done | omega))) only[dH,beq_self_eq_true,cS,aa,Sh.size,bw,bP,Nat.reduceAdd,Nat.reduceLeDiff,aQ,e];first | done | rfl) | rfl));try dsimp only)
theorem S9 (ks:List Int) (p:Int->Bool):ks.any (fun k=>!p k) = !ks.all p:=by
 induction ks with
 | nil=>rfl
 | cons k ks ih=>rw[List.any_cons,n0,ih,Bool.not_and]
theorem Db (z:Bool) (o:Own) (es:List AV) (m:af):dI none none m (.lst none z o es)=some (.ptr m.length 0,m++[some (Ent.obj true [.lst none z o es])]):=rfl
theorem ZP {z:Bool} {o:Own} {ar:List Int} {kz:Bool} {ko:Own} {ks:List Int} (h:dC m s F (IA z o ar) most l) (v:Int) (hz:kz=true->ks=[]) (har:∀ a∈ar,1<=a/\a<=64) (qp9:ar.length<=16) (fR:ks.length<=1000) (hl:(l.length:Int) < most) (oX:most<=100000) :
  ∃ m' F',AC ae 34 [.ptr s 0,.int .i64 v,IA kz ko ks] m=some (.tup [.int .i64 (vt ar l v ks).1.1,.int .i64 (vt ar l v ks).1.2],m')/\dC m' s F' (IA z o ar) most (vt ar l v ks).2/\Fr m m' F/\Gr m F F':=by
 have f3:Fr m (((m++[some (Ent.obj true [.ptr s 0])])++[some (Ent.obj true [.int .i64 v])])++[some (Ent.obj true [IA kz ko ks])]) []:=((Fr.app m _ _).snoc _).snoc _;have h3:=h.app f3;have e50:=B0 h3 (by omega)
 have hs:∃ na p,af.get m s=some (Ent.obj true [IA z o ar,na,.mref p,.int .i64 most]):=by
  obtain ⟨p,na,T,h,rfl⟩:=h;exact ⟨na,p,h.hs⟩
 obtain ⟨na,p,hs⟩:=hs;have mK:=bF hs;have bad:¬ (0<=v/\v < ar.length/\(ks.length:Int)=ar.getD v.toNat 0/\ks.all (tZ ar.length l v)=true)->vt ar l v ks=((0,1),l):=fun hb=>by rw[vt,ai hb]
 by_cases sN:v < 0
 ·refine ⟨_,F,?_,by rw[bad (by omega)];exact h3,f3.mono (by simp),Gr.refl _ _⟩;rw[CT,bad (by omega)]
  repeat ((with_reducible (first | apply bs | apply dJ));(focus (first | (simp (disch:=(first | assumption | omega | (simp only[aI,a8,aJ,aP];first | done | omega))) only[dH,beq_self_eq_true,cS,aa,Sh.size,bw,bP,Nat.reduceAdd,Nat.reduceLeDiff,aQ,pX,uL,Db,e50];first | done | rfl) | rfl));try dsimp only)
  rw[iC]
  repeat ((with_reducible (first | apply bs | apply dJ));(focus (first | (simp (disch:=(first | assumption | omega | (simp only[aI,a8,aJ,aP];first | done | omega))) only[dH,beq_self_eq_true,cS,aa,Sh.size,bw,bP,Nat.reduceAdd,Nat.reduceLeDiff,aQ];first | done | rfl) | rfl));try dsimp only)
  rw[aA,an sN]
 by_cases ke:v≥ar.length
 ·refine ⟨_,F,?_,by rw[bad (by omega)];exact h3,f3.mono (by simp),Gr.refl _ _⟩;rw[CT,bad (by omega)]
  repeat ((with_reducible (first | apply bs | apply dJ));(focus (first | (simp (disch:=(first | assumption | omega | (simp only[aI,a8,aJ,aP];first | done | omega))) only[dH,beq_self_eq_true,cS,aa,Sh.size,bw,bP,Nat.reduceAdd,Nat.reduceLeDiff,aQ,pX,uL,Db,e50];first | done | rfl) | rfl));try dsimp only)
  rw[iC]
  repeat ((with_reducible (first | apply bs | apply dJ));(focus (first | (simp (disch:=(first | assumption | omega | (simp only[aI,a8,aJ,aP];first | done | omega))) only[dH,beq_self_eq_true,cS,aa,Sh.size,bw,bP,Nat.reduceAdd,Nat.reduceLeDiff,aQ];first | done | rfl) | rfl));try dsimp only)
  rw[aA,ai sN]
  repeat ((with_reducible (first | apply bs | apply dJ));(focus (first | (simp (disch:=(first | assumption | omega | (simp only[aI,a8,aJ,aP];first | done | omega))) only[dH,beq_self_eq_true,cS,aa,Sh.size,bw,bP,Nat.reduceAdd,Nat.reduceLeDiff,aQ,hs];first | done | rfl) | rfl));try dsimp only)
  rw[aA,an ke]
 obtain ⟨i,rfl⟩:=nA (by omega:0<=v);have hi:i < ar.length:=by omega
 have gW:=jB (z:=z) (o:=o) (k:=.i64) hi;have MK:ar.getD ((i:Int).toNat) 0=ar[i]:=by rw[cK,aS,bD hi,dh]
 have lL:=har ar[i] (bS hi);by_cases hk:(ks.length:Int)=ar[i]
 case neg=>
  refine ⟨_,F,?_,by rw[bad (by rw[MK];omega)];exact h3,f3.mono (by simp),Gr.refl _ _⟩;rw[CT,bad (by rw[MK];omega)]
  repeat ((with_reducible (first | apply bs | apply dJ));(focus (first | (simp (disch:=(first | assumption | omega | (simp only[aI,a8,aJ,aP];first | done | omega))) only[dH,beq_self_eq_true,cS,aa,Sh.size,bw,bP,Nat.reduceAdd,Nat.reduceLeDiff,aQ,pX,uL,Db,e50];first | done | rfl) | rfl));try dsimp only)
  rw[iC]
  repeat ((with_reducible (first | apply bs | apply dJ));(focus (first | (simp (disch:=(first | assumption | omega | (simp only[aI,a8,aJ,aP];first | done | omega))) only[dH,beq_self_eq_true,cS,aa,Sh.size,bw,bP,Nat.reduceAdd,Nat.reduceLeDiff,aQ];first | done | rfl) | rfl));try dsimp only)
  rw[aA,ai sN]
  repeat ((with_reducible (first | apply bs | apply dJ));(focus (first | (simp (disch:=(first | assumption | omega | (simp only[aI,a8,aJ,aP];first | done | omega))) only[dH,beq_self_eq_true,cS,aa,Sh.size,bw,bP,Nat.reduceAdd,Nat.reduceLeDiff,aQ,hs];first | done | rfl) | rfl));try dsimp only)
  rw[aA,ai ke]
  repeat ((with_reducible (first | apply bs | apply dJ));(focus (first | (simp (disch:=(first | assumption | omega | (simp only[aI,a8,aJ,aP];first | done | omega))) only[dH,beq_self_eq_true,cS,aa,Sh.size,bw,bP,Nat.reduceAdd,Nat.reduceLeDiff,aQ,hs,gW];first | done | rfl) | rfl));try dsimp only)
  rw[aA,an hk]
 have hne:ks≠[]:=fun e=>by rw[e] at hk;simp at hk;omega
 have hzf:kz=false:=by cases kz with
  | false=>rfl
  | true=>exact absurd (hz rfl) hne
 obtain ⟨m4,e47,f4⟩:=PH (m:=(((m++[some (Ent.obj true [.ptr s 0])])++[some (Ent.obj true [.int .i64 i])])++[some (Ent.obj true [IA kz ko ks])])) (z:=kz) (o:=ko) (ks:=ks) (g:=97) (caps:=[.ptr m.length 0,.ptr (m.length+1) 0]) (p:=fun k=>!tZ ar.length l i k) (by omega) rfl rfl rfl
  (fun m1 k fr=>ZZ (h3.app fr) (by rw[fr.get _ (by simp) (by simp)];exact (by simp (disch:=(first | assumption | omega | (simp only[aI,a8,aJ,aP];first | done | omega))) only[gM,bY,bJ,cG,c8];first | done | rfl)) (by rw[fr.get _ (by simp) (by simp)];exact (by simp (disch:=(first | assumption | omega | (simp only[aI,a8,aJ,aP];first | done | omega))) only[gM,bY,bJ,cG,c8];first | done | rfl)))
 rw[S9] at e47;have h4:=h3.app f4;have f34:Fr m m4 []:=Fr.trans f3 f4 fun x hx=>by cases hx
 have g1:m4.get m.length=some (Ent.obj true [.ptr s 0]):=by rw[f4.get _ (by simp) (by simp)];exact (by simp (disch:=(first | assumption | omega | (simp only[aI,a8,aJ,aP];first | done | omega))) only[gM,bY,bJ,cG,c8];first | done | rfl)
 have g2:m4.get (m.length+1)=some (Ent.obj true [.int .i64 i]):=by rw[f4.get _ (by simp) (by simp)];exact (by simp (disch:=(first | assumption | omega | (simp only[aI,a8,aJ,aP];first | done | omega))) only[gM,bY,bJ,cG,c8];first | done | rfl)
 have g3:m4.get (m.length+1+1)=some (Ent.obj true [IA kz ko ks]):=by rw[f4.get _ (by simp) (by simp)];exact (by simp (disch:=(first | assumption | omega | (simp only[aI,a8,aJ,aP];first | done | omega))) only[gM,bY,bJ,cG,c8];first | done | rfl)
 by_cases ha:ks.all (tZ ar.length l i)=true
 case neg=>
  have MI:ks.all (tZ ar.length l i)=false:=by simpa using ha
  refine ⟨_,F,?_,by rw[bad (by rw[MI];simp)];exact h4,f34.mono (by simp),Gr.refl _ _⟩;rw[CT,bad (by rw[MI];simp)]
  repeat ((with_reducible (first | apply bs | apply dJ));(focus (first | (simp (disch:=(first | assumption | omega | (simp only[aI,a8,aJ,aP];first | done | omega))) only[dH,beq_self_eq_true,cS,aa,Sh.size,bw,bP,Nat.reduceAdd,Nat.reduceLeDiff,aQ,pX,uL,Db,e50];first | done | rfl) | rfl));try dsimp only)
  rw[iC]
  repeat ((with_reducible (first | apply bs | apply dJ));(focus (first | (simp (disch:=(first | assumption | omega | (simp only[aI,a8,aJ,aP];first | done | omega))) only[dH,beq_self_eq_true,cS,aa,Sh.size,bw,bP,Nat.reduceAdd,Nat.reduceLeDiff,aQ];first | done | rfl) | rfl));try dsimp only)
  rw[aA,ai sN]
  repeat ((with_reducible (first | apply bs | apply dJ));(focus (first | (simp (disch:=(first | assumption | omega | (simp only[aI,a8,aJ,aP];first | done | omega))) only[dH,beq_self_eq_true,cS,aa,Sh.size,bw,bP,Nat.reduceAdd,Nat.reduceLeDiff,aQ,hs];first | done | rfl) | rfl));try dsimp only)
  rw[aA,ai ke]
  repeat ((with_reducible (first | apply bs | apply dJ));(focus (first | (simp (disch:=(first | assumption | omega | (simp only[aI,a8,aJ,aP];first | done | omega))) only[dH,beq_self_eq_true,cS,aa,Sh.size,bw,bP,Nat.reduceAdd,Nat.reduceLeDiff,aQ,hs,gW];first | done | rfl) | rfl));try dsimp only)
  rw[aA,ai (by omega)]
  repeat ((with_reducible (first | apply bs | apply dJ));(focus (first | (simp (disch:=(first | assumption | omega | (simp only[aI,a8,aJ,aP];first | done | omega))) only[dH,beq_self_eq_true,cS,aa,Sh.size,bw,bP,Nat.reduceAdd,Nat.reduceLeDiff,aQ,e47];first | done | rfl) | rfl));try dsimp only)
  rw[MI,nX,mc]
 have good:vt ar l i ks=(((nN l i ks).1,0),(nN l i ks).2):=by rw[vt,an ⟨by omega,by omega,by rw[MK];exact hk,ha⟩]
 have hn:(hG i ks).ok:=by
  refine .inr ⟨by simp only[hG];omega,by simp only[hG];omega,rfl,fun k bO=>?_,by simp only[hG];omega⟩;have:=ga.1 ha k bO;unfold tZ at this;simp only[b7,oq] at this;omega
 obtain ⟨m',F',e52,k1,k2,k3⟩:=PI (g:=98) (caps:=[.ptr m.length 0,.ptr (m.length+1) 0,.ptr (m.length+1+1) 0]) (id:=(nN l i ks).1) (l':=(nN l i ks).2) h4 rfl rfl rfl
  (fun m1 fr=>Z0 (h4.app fr) (by rw[fr.get _ (bF g1) (by simp)];exact g1) (by rw[fr.get _ (bF g2) (by simp)];exact g2) (by rw[fr.get _ (bF g3) (by simp)];exact g3) hne hzf hn hl oX)
 refine ⟨m',F',?_,by rw[good];exact k1,Fr.trans (f34.mono (by simp)) k2 fun _ h=>.inl h,Gr.trans f34.len (Gr.refl m F) k3⟩;rw[CT,good]
 repeat ((with_reducible (first | apply bs | apply dJ));(focus (first | (simp (disch:=(first | assumption | omega | (simp only[aI,a8,aJ,aP];first | done | omega))) only[dH,beq_self_eq_true,cS,aa,Sh.size,bw,bP,Nat.reduceAdd,Nat.reduceLeDiff,aQ,pX,uL,Db,e50];first | done | rfl) | rfl));try dsimp only)
 rw[iC]
 repeat ((with_reducible (first | apply bs | apply dJ));(focus (first | (simp (disch:=(first | assumption | omega | (simp only[aI,a8,aJ,aP];first | done | omega))) only[dH,beq_self_eq_true,cS,aa,Sh.size,bw,bP,Nat.reduceAdd,Nat.reduceLeDiff,aQ];first | done | rfl) | rfl));try dsimp only)
 rw[aA,ai sN]
 repeat ((with_reducible (first | apply bs | apply dJ));(focus (first | (simp (disch:=(first | assumption | omega | (simp only[aI,a8,aJ,aP];first | done | omega))) only[dH,beq_self_eq_true,cS,aa,Sh.size,bw,bP,Nat.reduceAdd,Nat.reduceLeDiff,aQ,hs];first | done | rfl) | rfl));try dsimp only)
 rw[aA,ai ke]
 repeat ((with_reducible (first | apply bs | apply dJ));(focus (first | (simp (disch:=(first | assumption | omega | (simp only[aI,a8,aJ,aP];first | done | omega))) only[dH,beq_self_eq_true,cS,aa,Sh.size,bw,bP,Nat.reduceAdd,Nat.reduceLeDiff,aQ,hs,gW];first | done | rfl) | rfl));try dsimp only)
 rw[aA,ai (by omega)]
 repeat ((with_reducible (first | apply bs | apply dJ));(focus (first | (simp (disch:=(first | assumption | omega | (simp only[aI,a8,aJ,aP];first | done | omega))) only[dH,beq_self_eq_true,cS,aa,Sh.size,bw,bP,Nat.reduceAdd,Nat.reduceLeDiff,aQ,e47];first | done | rfl) | rfl));try dsimp only)
 rw[ha,kS,iC]
 repeat ((with_reducible (first | apply bs | apply dJ));(focus (first | (simp (disch:=(first | assumption | omega | (simp only[aI,a8,aJ,aP];first | done | omega))) only[dH,beq_self_eq_true,cS,aa,Sh.size,bw,bP,Nat.reduceAdd,Nat.reduceLeDiff,aQ,g1,e52];first | done | rfl) | rfl));try dsimp only)
end
end Go.Ab
namespace Go.Ab
theorem Bu {α:Type} {l:List α} (h:l.Nodup) {i j:Nat} (hi:i < l.length) (hj:j < l.length) (e:l[i]=l[j]):i=j:=by
 have hp:=List.pairwise_iff_getElem.1 h
 rcases Nat.lt_trichotomy i j with hh | hh | hh
 ·exact absurd e (hp i j hi hj hh)
 ·exact hh
 ·exact absurd e.symm (hp j i hj hi hh)
structure GoodL (ar:List Int) (l:List ND):Prop where
 ok:∀ n∈l,n.ok
 nd:l.Nodup
 var:∀ (i:Nat) (h:i < l.length),0<=l[i].var->l[i].var < ar.length/\(l[i].kids.length:Int)=ar.getD l[i].var.toNat 0
 kid:∀ (i:Nat) (h:i < l.length),0<=l[i].var->∀ k∈l[i].kids,∃ t:Nat,k=t/\t < i/\∀ (ht:t < l.length),l[i].var < fD ar.length l[t]
 dif:∀ (i:Nat) (h:i < l.length),0<=l[i].var->∃ k∈l[i].kids,k≠l[i].kids.headD 0
def uh (l:List ND) (a:Nat->Nat):Nat->Nat->Int
 | 0,_=>0
 | n+1,i=>match l[i]? with
  | none=>0
  | some x=>if x.var < 0 then x.leaf else uh l a n (x.kids.getD (a x.var.toNat) 0).toNat
def S (l:List ND) (a:Nat->Nat) (i:Nat):Int:=uh l a (i+1) i
def ik (ar:List Int) (a:Nat->Nat):Prop:=∀ v,v < ar.length->(a v:Int) < ar.getD v 0
def upd (a:Nat->Nat) (v k:Nat):Nat->Nat:=fun w=>if w=v then k else a w
theorem ik.upd {ar:List Int} {a:Nat->Nat} (h:ik ar a) {v k:Nat} (hk:(k:Int) < ar.getD v 0):ik ar (upd a v k):=fun w hw=>by
 unfold Ab.upd
 split
 ·rename_i e;rw[e];exact hk
 ·exact h w hw
section
variable {ar:List Int} {l:List ND}
theorem oI (g:GoodL ar l) {i:Nat} (hi:i < l.length) (hv:0<=l[i].var) {k:Nat} (hk:(k:Int) < ar.getD l[i].var.toNat 0) :
  ∃ t:Nat,l[i].kids.getD k 0=t/\t < i/\∀ (ht:t < l.length),l[i].var < fD ar.length l[t]:=by
 have hl:=(g.var i hi hv).2;have fR:k < l[i].kids.length:=by omega
 rw[aS,bD fR,dh];exact g.kid i hi hv _ (bS fR)
theorem YJ (g:GoodL ar l) {a:Nat->Nat} (ha:ik ar a):∀ (n i m:Nat),i < l.length->i < n->i < m->uh l a n i=uh l a m i
 | 0,i,m,_,h,_=>by omega
 | n+1,i,0,_,_,h=>by omega
 | n+1,i,m+1,hi,_,_=>by
  simp only[uh,bD hi]
  by_cases hv:l[i].var < 0
  ·rw[an hv,an hv]
  ·rw[ai hv,ai hv];obtain ⟨ke,rC⟩:=g.var i hi (by omega);obtain ⟨t,e,ht,_⟩:=oI g hi (by omega) (ha l[i].var.toNat (by omega));rw[e,cK];exact YJ g ha n t m (by omega) (by omega) (by omega)
theorem xR {a:Nat->Nat} {i:Nat} (hi:i < l.length) (hv:l[i].var < 0):S l a i=l[i].leaf:=by
 simp only[S,uh,bD hi,an hv]
theorem CR (g:GoodL ar l) {a:Nat->Nat} (ha:ik ar a) {i:Nat} (hi:i < l.length) (hv:¬ l[i].var < 0):S l a i=S l a (l[i].kids.getD (a l[i].var.toNat) 0).toNat:=by
 obtain ⟨ke,rC⟩:=g.var i hi (by omega);obtain ⟨t,e,ht,_⟩:=oI g hi (by omega) (ha l[i].var.toNat (by omega));rw[e,cK];unfold S;rw[uh];simp only[bD hi,ai hv,e,cK];exact YJ g ha _ _ _ (by omega) (by omega) (by omega)
theorem xQ (g:GoodL ar l) {a:Nat->Nat} (ha:ik ar a) {v k:Nat} (hk:(k:Int) < ar.getD v 0):∀ (i:Nat) (hi:i < l.length),(v:Int) < fD ar.length l[i]->S l (upd a v k) i=S l a i:=by
 intro i
 induction i using Nat.strongRecOn with
 | ind i ih=>
  intro hi hv
  by_cases hn:l[i].var < 0
  ·rw[xR hi hn,xR hi hn]
  ·rw[fD,an (by omega)] at hv;have hne:l[i].var.toNat≠v:=by omega
   have e:upd a v k l[i].var.toNat=a l[i].var.toNat:=by unfold upd;rw[ai hne]
   rw[CR g (ha.upd hk) hi hn,CR g ha hi hn,e];obtain ⟨ke,rC⟩:=g.var i hi (by omega);obtain ⟨t,e,ht,h2⟩:=oI g hi (by omega) (ha l[i].var.toNat (by omega));rw[e,cK];exact ih t ht (by omega) (by have:=h2 (by omega);omega)
theorem CS (g:GoodL ar l) {a:Nat->Nat} (ha:ik ar a) {i:Nat} (hi:i < l.length) {v k:Nat} (hv:l[i].var=v) (hk:(k:Int) < ar.getD v 0):S l (upd a v k) i=S l a (l[i].kids.getD k 0).toNat:=by
 have sP:l[i].var.toNat=v:=by omega
 rw[CR g (ha.upd hk) hi (by omega),sP];have e:upd a v k v=k:=by unfold upd;rw[an rfl]
 rw[e];obtain ⟨t,e,ht,h2⟩:=oI g hi (by omega) (k:=k) (by rw[sP];exact hk);rw[e,cK];exact xQ g ha hk t (by omega) (by have:=h2 (by omega);omega)
theorem WE {x y:List Int} (hl:x.length=y.length) (h:∀ k,k < x.length->x.getD k 0=y.getD k 0):x=y:=by
 apply List.ext_getElem hl;intro i h1 h2;have:=h i h1
 rwa [aS,aS,bD h1,bD h2] at this
theorem Oy (g:GoodL ar l) (h1:∀ x∈ar,1<=x) {i j:Nat} (hi:i < l.length) (hv:0<=l[i].var) (h:∀ k:Nat,(k:Int) < ar.getD l[i].var.toNat 0->l[i].kids.getD k 0=j):False:=by
 obtain ⟨k,hk,hne⟩:=g.dif i hi hv;have hl:=(g.var i hi hv).2
 have all:∀ k∈l[i].kids,k=j:=fun k hk=>by
  obtain ⟨t,ht,e⟩:=pv hk;have:=h t (by omega);rw[aS,bD ht,dh] at this;rw[<- e,this]
 apply hne;rw[all k hk]
 cases hh:l[i].kids with
 | nil=>rw[hh] at hk;cases hk
 | cons x y=>rw[List.headD_cons];exact (all x (by rw[hh];exact fN)).symm
theorem wb (h1:∀ x∈ar,1<=x):ik ar fun _=>0:=fun v hv=>by
 have:=h1 (ar[v]) (bS hv);rw[aS,bD hv,dh];show ((0:Nat):Int) < _;omega
theorem canon (g:GoodL ar l) (h1:∀ x∈ar,1<=x):∀ (n i j:Nat) (hi:i < l.length) (hj:j < l.length),i+j < n->(∀ a,ik ar a->S l a i=S l a j)->i=j:=by
 intro n
 induction n with
 | zero=>intro i j _ _ h;omega
 | succ n ih=>
  have half:∀ (i j:Nat) (hi:i < l.length) (hj:j < l.length),i+j < n+1->(∀ a,ik ar a->S l a i=S l a j)->¬ l[i].var < 0->l[i].var < fD ar.length l[j]->False:=by
   intro i j hi hj hn h hv hlt;refine Oy g h1 hi (j:=j) (by omega) fun k hk=>?_;obtain ⟨t,e,ht,h2⟩:=oI g hi (by omega) hk;have sP:((l[i].var.toNat:Nat):Int)=l[i].var:=by omega
   rw[e];congr 1;refine ih t j (by omega) hj (by omega) fun a ha=>?_;have e1:=CS g ha hi (v:=l[i].var.toNat) (k:=k) sP.symm hk;rw[e,cK] at e1;rw[<- e1,h _ (ha.upd hk)];exact xQ g ha hk j hj (by omega)
  intro i j hi hj hn h
  by_cases D6:l[i].var < 0
  ·by_cases qB:l[j].var < 0
   ·have hs:=h _ (wb h1);rw[xR hi D6,xR hj qB] at hs
    have e:l[i]=l[j]:=by
     have oi:=g.ok _ (bS hi);have oj:=g.ok _ (bS hj)
     rcases oi with ⟨a1,a2,_⟩ | ⟨a1,_⟩
     ·rcases oj with ⟨b1,b2,_⟩ | ⟨b1,_⟩
      ·generalize l[i]=x at *;generalize l[j]=y at *;obtain ⟨xv,xk,xl⟩:=x;obtain ⟨yv,yk,yl⟩:=y;simp only at a1 a2 b1 b2 hs;rw[a1,a2,b1,b2,hs]
      ·omega
     ·omega
    exact Bu g.nd hi hj e
   ·refine (half j i hj hi (by omega) (fun a ha=>(h a ha).symm) qB ?_).elim;rw[fD,ai (by omega)];exact (g.var j hj (by omega)).1
  ·by_cases hlt:l[i].var < fD ar.length l[j]
   ·exact (half i j hi hj hn h D6 hlt).elim
   ·have qB:¬ l[j].var < 0:=fun hh=>hlt (by rw[fD,ai (by omega)];exact (g.var i hi (by omega)).1);rw[fD,an (by omega)] at hlt
    by_cases hlt2:l[j].var < l[i].var
    ·exact (half j i hj hi (by omega) (fun a ha=>(h a ha).symm) qB (by rw[fD,an (by omega)];exact hlt2)).elim
    ·have hv:l[i].var=l[j].var:=by omega
     have vi:=g.var i hi (by omega);have vj:=g.var j hj (by omega)
     have hk:l[i].kids=l[j].kids:=by
      refine WE (by rw[hv] at vi;omega) fun k hk=>?_;have jH:(k:Int) < ar.getD l[i].var.toNat 0:=by omega
      have DM:(k:Int) < ar.getD l[j].var.toNat 0:=by rw[<- hv];exact jH
      obtain ⟨t,e,ht,h2⟩:=oI g hi (by omega) jH;obtain ⟨u,e',hu,im⟩:=oI g hj (by omega) DM;rw[e,e'];congr 1;refine ih t u (by omega) (by omega) (by omega) fun a ha=>?_;have e1:=CS g ha hi (v:=l[i].var.toNat) (k:=k) (by omega) jH;have e2:=CS g ha hj (v:=l[i].var.toNat) (k:=k) (by omega) jH;rw[e,cK] at e1;rw[e',cK] at e2;rw[<- e1,<- e2,h _ (ha.upd jH)]
     have e:l[i]=l[j]:=by
      have oi:=g.ok _ (bS hi);have oj:=g.ok _ (bS hj)
      have li:l[i].leaf=0:=by
       rcases oi with ⟨a1,_⟩ | ⟨_,_,a3,_⟩
       ·omega
       ·exact a3
      have lj:l[j].leaf=0:=by
       rcases oj with ⟨a1,_⟩ | ⟨_,_,a3,_⟩
       ·omega
       ·exact a3
      generalize l[i]=x at *;generalize l[j]=y at *;obtain ⟨xv,xk,xl⟩:=x;obtain ⟨yv,yk,yl⟩:=y;simp only at hv hk li lj;rw[hv,hk,li,lj]
     exact Bu g.nd hi hj e
theorem G5 (g:GoodL ar l) (r:List ND) {a:Nat->Nat} (ha:ik ar a):∀ (i:Nat),i < l.length->S (l++r) a i=S l a i:=by
 have key:∀ (n i:Nat),i < l.length->i < n->uh (l++r) a n i=uh l a n i:=by
  intro n
  induction n with
  | zero=>intro i _ h;omega
  | succ n ih=>
   intro i hi _;simp only[uh,nB hi,bD hi]
   by_cases hv:l[i].var < 0
   ·rw[an hv,an hv]
   ·rw[ai hv,ai hv];obtain ⟨ke,rC⟩:=g.var i hi (by omega);obtain ⟨t,e,ht,_⟩:=oI g hi (by omega) (ha l[i].var.toNat (by omega));rw[e,cK];exact ih t (by omega) (by omega)
 intro i hi;exact key _ i hi (by omega)
theorem MA:GoodL ar []:=⟨by simp,by simp,fun i h=>by simp at h,fun i h=>by simp at h,fun i h=>by simp at h⟩
theorem qlk (g:GoodL ar l) {n:ND} (hn:n.ok) (hne:n∉l) (h1:0<=n.var->n.var < ar.length/\(n.kids.length:Int)=ar.getD n.var.toNat 0/\(∀ k∈n.kids,∃ t:Nat,k=t/\∃ ht:t < l.length,n.var < fD ar.length l[t])/\∃ k∈n.kids,k≠n.kids.headD 0):GoodL ar (l++[n]):=by
 have old:∀ i (h:i < (l++[n]).length),(∃ h':i < l.length,(l++[n])[i]=l[i])\/(i=l.length/\(l++[n])[i]=n):=fun i h=>by
  by_cases hi:i < l.length
  ·exact .inl ⟨hi,List.getElem_append_left hi⟩
  ·have:i=l.length:=by simp at h;omega
   subst this;exact .inr ⟨rfl,by simp⟩
 refine ⟨fun x hx=>?_,?_,fun i h hv=>?_,fun i h hv k hk=>?_,fun i h hv=>?_⟩
 ·rcases il.1 hx with hx | hx
  ·exact g.ok x hx
  ·obtain rfl:x=n:=by simpa using hx
   exact hn
 ·rw[List.nodup_append]
  exact ⟨g.nd,by simp,fun a ha b hb e=>by
   obtain rfl:b=n:=by simpa using hb
   exact hne (e▸ha)⟩
 ·rcases old i h with ⟨h',e⟩ | ⟨_,e⟩
  ·rw[e] at hv ⊢;exact g.var i h' hv
  ·rw[e] at hv ⊢;exact ⟨(h1 hv).1,(h1 hv).2.1⟩
 ·rcases old i h with ⟨h',e⟩ | ⟨b6,e⟩
  ·rw[e] at hv hk ⊢;obtain ⟨t,a1,a2,a3⟩:=g.kid i h' hv k hk;refine ⟨t,a1,a2,fun ht=>?_⟩;rw[List.getElem_append_left (by omega)];exact a3 (by omega)
  ·rw[e] at hv hk ⊢;obtain ⟨t,a1,ht,a3⟩:=(h1 hv).2.2.1 k hk;refine ⟨t,a1,by omega,fun wT=>?_⟩;rw[List.getElem_append_left ht];exact a3
 ·rcases old i h with ⟨h',e⟩ | ⟨_,e⟩
  ·rw[e] at hv ⊢;exact g.dif i h' hv
  ·rw[e] at hv ⊢;exact (h1 hv).2.2.2
theorem V9 (n:ND) (l:List ND):∃ r,ji l n=l++r/\r.length<=1/\∃ h:l.idxOf n < (ji l n).length,(ji l n)[l.idxOf n]=n:=by
 unfold ji
 by_cases hm:n∈l
 ·rw[an hm];exact ⟨[],by simp,by simp,List.idxOf_lt_length_of_mem hm,List.getElem_idxOf _⟩
 ·rw[ai hm];have e:=D9 hm;refine ⟨[n],rfl,by simp,by rw[e];simp,?_⟩;simp[e]
theorem UB (g:GoodL ar l) {n:ND} (hn:n.ok) (h1:0<=n.var->n.var < ar.length/\(n.kids.length:Int)=ar.getD n.var.toNat 0/\(∀ k∈n.kids,∃ t:Nat,k=t/\∃ ht:t < l.length,n.var < fD ar.length l[t])/\∃ k∈n.kids,k≠n.kids.headD 0):GoodL ar (ji l n):=by
 unfold ji
 split
 ·exact g
 ·rename_i hm;exact qlk g hn hm h1
end
end Go.Ab
namespace Go.Ab
def bj:List Int->Nat
 | []=>1
 | n::r=>n.toNat * bj r
def jc:List Int->Nat->(Nat->Nat)->Nat
 | [],_,_=>0
 | n::r,v,a=>a v * bj r+jc r (v+1) a
theorem Uc {ar:List Int} {v:Nat} (hv:v < ar.length):ar.drop v=ar.getD v 0::ar.drop (v+1):=by
 rw[aS,bD hv,dh];exact kT hv
theorem tU {ar:List Int} {v:Nat} (hv:v < ar.length) (a:Nat->Nat):jc (ar.drop v) v a=a v * bj (ar.drop (v+1))+jc (ar.drop (v+1)) (v+1) a:=by
 rw[Uc hv,jc]
theorem uc {ar:List Int} {v:Nat} (hv:v < ar.length):bj (ar.drop v)=(ar.getD v 0).toNat * bj (ar.drop (v+1)):=by
 rw[Uc hv,bj]
theorem Eb {ar:List Int} {a:Nat->Nat} (ha:ik ar a):∀ (d v:Nat),v+d=ar.length->jc (ar.drop v) v a < bj (ar.drop v)
 | 0,v,h=>by rw[jo (by omega)];simp[jc,bj]
 | d+1,v,h=>by
  have hv:v < ar.length:=by omega
  have ih:=Eb ha d (v+1) (by omega);have hk:=ha v hv;rw[tU hv,uc hv];have h2:a v+1<=(ar.getD v 0).toNat:=by omega
  calc a v * bj (ar.drop (v+1))+jc (ar.drop (v+1)) (v+1) a < a v * bj (ar.drop (v+1))+bj (ar.drop (v+1)):=by omega
   _=(a v+1) * bj (ar.drop (v+1)):=by rw[gO,px]
   _<=_:=iM _ h2
theorem NP {ar:List Int} {a:Nat->Nat} {w k:Nat}:∀ (d v:Nat),v+d=ar.length->w < v->jc (ar.drop v) v (upd a w k)=jc (ar.drop v) v a
 | 0,v,h,_=>by rw[jo (by omega)];rfl
 | d+1,v,h,hw=>by
  have hv:v < ar.length:=by omega
  rw[tU hv,tU hv,NP d (v+1) (by omega) (by omega)];have:upd a w k v=a v:=by unfold upd;rw[ai (by omega)]
  rw[this]
theorem V6 {ar:List Int} (h1:∀ x∈ar,1<=x):∀ (d v i:Nat),v+d=ar.length->i < bj (ar.drop v)->∃ a,ik ar a/\jc (ar.drop v) v a=i
 | 0,v,i,h,hi=>by
  rw[jo (by omega)] at hi ⊢;simp only[bj] at hi;exact ⟨_,wb h1,by simp only[jc];omega⟩
 | d+1,v,i,h,hi=>by
  have hv:v < ar.length:=by omega
  rw[uc hv] at hi;have iO:0 < bj (ar.drop (v+1)):=oP fun e=>by rw[e] at hi;omega
  obtain ⟨a,ha,e⟩:=V6 h1 d (v+1) (i % bj (ar.drop (v+1))) (by omega) (jY _ iO);have hk:i / bj (ar.drop (v+1)) < (ar.getD v 0).toNat:=Nat.div_lt_of_lt_mul (by rw[cM];exact hi);have HV:=uD i (bj (ar.drop (v+1)));generalize i / bj (ar.drop (v+1))=q at hk HV;refine ⟨upd a v q,ha.upd (by omega),?_⟩;rw[tU hv,NP d (v+1) (by omega) (by omega),e];have:upd a v q v=q:=by unfold upd;rw[an rfl]
  rw[this,cM];exact HV
def part (t:List Int) (n k:Nat):List Int:=(t.drop (k * n)).take n
theorem part_len {t:List Int} {n k a:Nat} (ht:t.length=a * n) (hk:k < a):(part t n k).length=n:=by
 unfold part;rw[jP,qT,ht]
 have:k * n+n<=a * n:=by
  have:=iM n (show k+1<=a by omega)
  rwa [gO,px] at this
 omega
theorem XQ {t:List Int} {n k r:Nat} (hr:r < n):(part t n k).getD r 0=t.getD (k * n+r) 0:=by
 unfold part;simp only[aS,qo,an hr,rU]
theorem qn0 {t:List Int} {n k:Nat}:∀ x∈part t n k,x∈t:=fun x hx=>List.drop_subset _ _ (List.take_subset _ _ hx)
structure TabV (ar:List Int) (l:List ND) (id v:Nat) (t:List Int):Prop where
 len:t.length=bj (ar.drop v)
 lt:id < l.length
 top:∀ h:id < l.length,(v:Int)<=fD ar.length l[id]
 val:∀ a,ik ar a->S l a id=t.getD (jc (ar.drop v) v a) 0
theorem TabV.app {ar:List Int} {l:List ND} {id v:Nat} {t:List Int} (g:GoodL ar l) (h:TabV ar l id v t) (r:List ND):TabV ar (l++r) id v t:=
 ⟨h.len,by have:=h.lt;simp;omega,fun hh=>by rw[List.getElem_append_left h.lt];exact h.top h.lt,fun a ha=>by rw[G5 g r ha id h.lt];exact h.val a ha⟩
theorem qpx {ar:List Int} {l:List ND} {i j v:Nat} {t:List Int} (g:GoodL ar l) (h1:∀ x∈ar,1<=x) (hi:TabV ar l i v t) (hj:TabV ar l j v t):i=j:=
 canon g h1 _ i j hi.lt hj.lt (Nat.lt_succ_self _) fun a ha=>(hi.val a ha).trans (hj.val a ha).symm
section
variable {ar:List Int} {l:List ND}
theorem Xt (g:GoodL ar l) (h1:∀ x∈ar,1<=x/\x<=64) (cH:ar.length<=16) {v:Nat} (hv:v < ar.length) {ks:List Nat} (hl:(ks.length:Int)=ar.getD v 0) (hk:∀ k∈ks,∃ h:k < l.length,(v:Int) < fD ar.length l[k]) (eE:l.length<=100000) :
  ∃ r id,nN l v (ks.map Int.ofNat)=(((id:Nat):Int),l++r)/\r.length<=1/\(ks.length=1->r=[])/\GoodL ar (l++r)/\∃ h:id < (l++r).length,(v:Int)<=fD ar.length (l++r)[id]/\∀ a,ik ar a->S (l++r) a id=S l a (ks.getD (a v) 0):=by
 have ou:=h1 (ar[v]) (bS hv);have aU:ar.getD v 0=ar[v]:=by rw[aS,bD hv,dh]
 rw[aU] at hl
 obtain ⟨k0,kt,rfl⟩:∃ k0 kt,ks=k0::kt:=by
  cases ks with
  | nil=>simp at hl;omega
  | cons k0 kt=>exact ⟨k0,kt,rfl⟩
 rw[gd,Xr];obtain ⟨u6,qqb⟩:=hk k0 fN
 by_cases hall:((Int.ofNat k0::kt.map Int.ofNat).all fun k=>k == Int.ofNat k0)=true
 ·rw[an hall]
  refine ⟨[],k0,by rw[cm];rfl,by simp,fun _=>rfl,by rw[cm];exact g,by rw[cm];exact u6,?_,fun a ha=>?_⟩
  ·simp only[cm];omega
  ·have hlt:a v < (k0::kt).length:=by have:=ha v hv;rw[aU] at this;omega
   have:(k0::kt).getD (a v) 0=k0:=by
    rw[aS,bD hlt,dh];have h2:=ga.1 hall (Int.ofNat (k0::kt)[a v]) (by rw[<- gd];exact List.mem_map_of_mem (bS hlt));exact Int.ofNat.inj (by simpa using h2)
   rw[this,cm]
 ·rw[ai hall]
  have fW:∀ k∈(Int.ofNat k0::kt.map Int.ofNat),∃ t:Nat,k=t/\∃ ht:t < l.length,(v:Int) < fD ar.length l[t]:=fun k bO=>by
   rw[<- gd] at bO;obtain ⟨t,ht,rfl⟩:=jf.1 bO;exact ⟨t,rfl,hk t ht⟩
  have bg:(hG v (Int.ofNat k0::kt.map Int.ofNat)).ok:=by
   refine .inr ⟨by simp only[hG];omega,by simp only[hG];omega,rfl,fun k bO=>?_,?_⟩
   ·obtain ⟨t,rfl,ht,_⟩:=fW k bO;omega
   ·simp only[hG,aJ,bX];simp only[aJ] at hl;omega
  obtain ⟨r,er,hr,rv,hid⟩:=V9 (hG v (Int.ofNat k0::kt.map Int.ofNat)) l
  have gi:GoodL ar (ji l (hG v (Int.ofNat k0::kt.map Int.ofNat))):=by
   refine UB g bg fun _=>⟨by simp only[hG];omega,?_,fW,?_⟩
   ·simp only[hG,aJ,bX,cK];rw[aU];simpa using hl
   ·simp only[hG];rw[Bool.not_eq_true,List.all_eq_false] at hall;obtain ⟨k,bO,hne⟩:=hall;exact ⟨k,bO,by simpa using hne⟩
  rw[er] at gi rv ⊢
  have hid:(l++r)[l.idxOf (hG v (Int.ofNat k0::kt.map Int.ofNat))]=hG v (Int.ofNat k0::kt.map Int.ofNat):=by
   have:∀ (y:List ND) (h:l.idxOf (hG v (Int.ofNat k0::kt.map Int.ofNat)) < y.length),ji l (hG v (Int.ofNat k0::kt.map Int.ofNat))=y->y[l.idxOf (hG v (Int.ofNat k0::kt.map Int.ofNat))]=hG v (Int.ofNat k0::kt.map Int.ofNat):=fun y h e=>by subst e;exact hid
   exact this _ rv er
  refine ⟨r,_,rfl,hr,fun A5=>?_,gi,rv,?_,fun a ha=>?_⟩
  ·exfalso;have:kt=[]:=by simpa using A5
   rw[this] at hall;simp at hall
  ·rw[hid,fD,an (by simp only[hG];omega)];exact ql _
  ·have e:=CR gi ha rv (by rw[hid];simp only[hG];omega);rw[hid] at e;have hlt:a v < (k0::kt).length:=by have:=ha v hv;rw[aU] at this;omega
   rw[e,show (hG (↑v) (Int.ofNat k0::kt.map Int.ofNat)).kids=Int.ofNat k0::kt.map Int.ofNat from rfl,show (hG (↑v) (Int.ofNat k0::kt.map Int.ofNat)).var=v from rfl,cK]
   have e2:(Int.ofNat k0::kt.map Int.ofNat).getD (a v) 0=(((k0::kt).getD (a v) 0:Nat):Int):=by
    rw[<- gd,aS,oO,aS,bD hlt];rfl
   rw[e2,cK];refine G5 g r ha _ ?_;rw[aS,bD hlt,dh];exact (hk _ (bS hlt)).1
theorem Ww (g:GoodL ar l) {x:Int} (hx:0<=x/\x<=2147483647):∃ r,ji l (iD x)=l++r/\r.length<=1/\GoodL ar (l++r)/\TabV ar (l++r) (l.idxOf (iD x)) ar.length [x]:=by
 obtain ⟨r,er,hr,rv,hid⟩:=V9 (iD x) l;have gi:GoodL ar (ji l (iD x)):=UB g (Wv hx) fun h=>by simp[iD] at h
 rw[er] at gi;have MZ:l.idxOf (iD x) < (l++r).length:=by rw[<- er];exact rv
 have MY:(l++r)[l.idxOf (iD x)]=iD x:=by
  have:∀ (y:List ND) (h:l.idxOf (iD x) < y.length),ji l (iD x)=y->y[l.idxOf (iD x)]=iD x:=fun y h e=>by subst e;exact hid
  exact this _ MZ er
 refine ⟨r,er,hr,gi,⟨by rw[List.drop_length];rfl,MZ,fun _=>?_,fun a ha=>?_⟩⟩
 ·rw[MY,fD,ai (by simp[iD])];exact ql _
 ·rw[xR MZ (by rw[MY];simp[iD]),MY,List.drop_length];rfl
theorem qpv (g:GoodL ar l) (h1:∀ x∈ar,1<=x/\x<=64) (cH:ar.length<=16) {v:Nat} (hv:v < ar.length) {ks:List Nat} {t:List Int} (hl:(ks.length:Int)=ar.getD v 0) (ht:t.length=bj (ar.drop v)) (hk:∀ (k:Nat) (h:k < ks.length),TabV ar l ks[k] (v+1) (part t (bj (ar.drop (v+1))) k)) (eE:l.length<=100000) :
  ∃ r id,nN l v (ks.map Int.ofNat)=(((id:Nat):Int),l++r)/\r.length<=1/\(ks.length=1->r=[])/\GoodL ar (l++r)/\TabV ar (l++r) id v t:=by
 have aU:ar.getD v 0=ar[v]:=by rw[aS,bD hv,dh]
 obtain ⟨r,id,e,hr,Nu,gi,rv,mM,hS⟩:=Xt g h1 cH hv hl (fun k bO=>by
  obtain ⟨i,hi,e⟩:=pv bO;have:=hk i hi;rw[e] at this
  exact ⟨this.lt,by have:=this.top this.lt;omega⟩) eE
 refine ⟨r,id,e,hr,Nu,gi,ht,rv,fun _=>mM,fun a ha=>?_⟩;have hlt:a v < ks.length:=by have:=ha v hv;omega
 have hn:=Eb ha (ar.length - (v+1)) (v+1) (by omega);rw[hS a ha,aS,bD hlt,dh,(hk _ hlt).val a ha,XQ hn,tU hv]
end
end Go.Ab
namespace Go.Ab
def BQ (l:List ND):Nat->Nat->List Nat->List Nat
 | 0,_,out=>out
 | n+1,id,out=>if id∈out then out else match l[id]? with
  | none=>out
  | some x=>(x.kids.foldl (fun o k=>BQ l n k.toNat o) out)++[id]
def Vi (l:List ND) (id:Nat) (out:List Nat):List Nat:=BQ l (id+1) id out
def iw (l:List ND) (ks:List Int) (out:List Nat):List Nat:=ks.foldl (fun o k=>Vi l k.toNat o) out
theorem Mq {α β:Type} {f g:β->α->β}:∀ (l:List α) (b:β),(∀ x∈l,∀ b,f b x=g b x)->l.foldl f b=l.foldl g b
 | [],_,_=>rfl
 | x::l,b,h=>by
  rw[ux,ux,h x fN,Mq l _ fun y hy=>h y (fJ _ hy)]
section
variable {ar:List Int} {l:List ND}
theorem pJ (g:GoodL ar l) {i:Nat} (hi:i < l.length):∀ k∈l[i].kids,∃ t:Nat,k=t/\t < i:=fun k hk=>by
 by_cases hv:0<=l[i].var
 ·obtain ⟨t,e,ht,_⟩:=g.kid i hi hv k hk;exact ⟨t,e,ht⟩
 ·rcases g.ok _ (bS hi) with ⟨_,h2,_⟩ | ⟨h1,_⟩
  ·rw[h2] at hk;cases hk
  ·omega
theorem Zz (g:GoodL ar l):∀ (n id m:Nat) (out:List Nat),id < l.length->id < n->id < m->BQ l n id out=BQ l m id out
 | 0,id,m,_,_,h,_=>by omega
 | n+1,id,0,_,_,_,h=>by omega
 | n+1,id,m+1,out,hi,_,_=>by
  simp only[BQ,bD hi];rw[Mq l[id].kids out fun k hk b=>?_];obtain ⟨t,rfl,ht⟩:=pJ g hi k hk;exact Zz g n _ m b (by omega) (by simp;omega) (by simp;omega)
theorem tu (g:GoodL ar l) {id:Nat} (hi:id < l.length) (out:List Nat):Vi l id out=if id∈out then out else iw l l[id].kids out++[id]:=by
 unfold Vi iw;rw[BQ,bD hi];dsimp only;rw[Mq l[id].kids out fun k hk b=>?_];obtain ⟨t,rfl,ht⟩:=pJ g hi k hk;exact Zz g id _ _ b (by omega) (by simp;omega) (by simp[Vi])
theorem qgT (out:List Nat):iw l [] out=out:=rfl
theorem C2 (k:Int) (ks:List Int) (out:List Nat):iw l (k::ks) out=iw l ks (Vi l k.toNat out):=rfl
structure Cl (l:List ND) (out:List Nat):Prop where
 nd:out.Nodup
 lt:∀ j∈out,j < l.length
 cl:∀ i (h:i < out.length) (hj:out[i] < l.length),∀ k∈l[out[i]].kids,k.toNat∈out.take i
theorem ri:Cl l []:=⟨by simp,by simp,fun i h=>by simp at h⟩
theorem Cl.kids {out:List Nat} (h:Cl l out) {j:Nat} (hj:j∈out) (hl:j < l.length):∀ k∈l[j].kids,k.toNat∈out:=fun k hk=>by
 obtain ⟨i,hi,e⟩:=pv hj;subst e;exact List.take_subset _ _ (h.cl i hi hl k hk)
theorem Cl.snoc {out:List Nat} (h:Cl l out) {id:Nat} (hi:id < l.length) (hn:id∉out) (hk:∀ k∈l[id].kids,k.toNat∈out):Cl l (out++[id]):=by
 refine ⟨?_,fun j hj=>?_,fun i h2 hj k kA=>?_⟩
 ·rw[List.nodup_append]
  exact ⟨h.nd,by simp,fun a ha b hb e=>by
   obtain rfl:b=id:=by simpa using hb
   exact hn (e▸ha)⟩
 ·rcases il.1 hj with hj | hj
  ·exact h.lt j hj
  ·obtain rfl:j=id:=by simpa using hj
   exact hi
 ·by_cases b6:i < out.length
  ·rw[List.take_append_of_le_length (by omega)];refine h.cl i b6 (h.lt _ (bS b6)) k ?_;have e:(out++[id])[i]=out[i]:=List.getElem_append_left b6;rw[List.getElem_of_eq rfl] at kA;have:∀ (y:Nat) (hy:y < l.length),y=out[i]->k∈l[y].kids->k∈(l[out[i]]'(h.lt _ (bS b6))).kids:=fun y hy e h=>by subst e;exact h
   exact this _ hj e kA
  ·have H0:i=out.length:=by simp at h2;omega
   subst H0;have e:(out++[id])[out.length]=id:=by simp
   have:∀ (y:Nat) (hy:y < l.length),y=id->k∈l[y].kids->k∈l[id].kids:=fun y hy e h=>by subst e;exact h
   have:=hk k (this _ hj e kA);simpa using this
theorem qs (g:GoodL ar l):∀ id,id < l.length->∀ out,Cl l out->Cl l (Vi l id out)/\id∈Vi l id out/\∃ r,Vi l id out=out++r/\∀ y∈r,y<=id:=by
 intro id
 induction id using Nat.strongRecOn with
 | ind id ih=>
  intro hi out hc
  have key:∀ (ks:List Int),(∀ k∈ks,∃ t:Nat,k=t/\t < id)->∀ out,Cl l out->Cl l (iw l ks out)/\(∀ k∈ks,k.toNat∈iw l ks out)/\∃ r,iw l ks out=out++r/\∀ y∈r,y < id:=by
   intro ks
   induction ks with
   | nil=>intro _ out hc;exact ⟨hc,by simp,[],by simp[iw],by simp⟩
   | cons k ks ihk=>
    intro hk out hc;obtain ⟨t,rfl,ht⟩:=hk k fN;obtain ⟨a1,a2,r1,a3,a4⟩:=ih t ht (by omega) out hc;obtain ⟨b1,b2,r2,b3,b4⟩:=ihk (fun k bO=>hk k (fJ _ bO)) _ a1;rw[C2,cK]
    refine ⟨b1,fun k bO=>?_,r1++r2,by rw[b3,a3,gA],fun y hy=>?_⟩
    ·rcases gE.1 bO with rfl | bO
     ·rw[b3];exact Ai _ (by simpa using a2)
     ·exact b2 k bO
    ·rcases il.1 hy with hy | hy
     ·have:=a4 y hy;omega
     ·exact b4 y hy
  rw[tu g hi]
  by_cases hm:id∈out
  ·rw[an hm];exact ⟨hc,hm,[],by simp,by simp⟩
  ·rw[ai hm];obtain ⟨b1,b2,r,b3,b4⟩:=key l[id].kids (fun k hk=>pJ g hi k hk) out hc
   refine ⟨b1.snoc hi (fun h=>?_) b2,by simp,r++[id],by rw[b3,gA],fun y hy=>?_⟩
   ·rw[b3] at h
    rcases il.1 h with h | h
    ·exact hm h
    ·have:=b4 _ h;omega
   ·rcases il.1 hy with hy | hy
    ·have:=b4 y hy;omega
    ·have:y=id:=by simpa using hy
     omega
theorem Lz (g:GoodL ar l) {id:Nat} (hi:id < l.length):∀ (ks:List Int),(∀ k∈ks,∃ t:Nat,k=t/\t < id)->∀ out,Cl l out->Cl l (iw l ks out)/\(∀ k∈ks,k.toNat∈iw l ks out)/\∃ r,iw l ks out=out++r/\∀ y∈r,y < id:=by
 intro ks
 induction ks with
 | nil=>intro _ out hc;exact ⟨hc,by simp,[],by simp[iw],by simp⟩
 | cons k ks ihk=>
  intro hk out hc;obtain ⟨t,rfl,ht⟩:=hk k fN;obtain ⟨a1,a2,r1,a3,a4⟩:=qs g t (by omega) out hc;obtain ⟨b1,b2,r2,b3,b4⟩:=ihk (fun k bO=>hk k (fJ _ bO)) _ a1;rw[C2,cK]
  refine ⟨b1,fun k bO=>?_,r1++r2,by rw[b3,a3,gA],fun y hy=>?_⟩
  ·rcases gE.1 bO with rfl | bO
   ·rw[b3];exact Ai _ (by simpa using a2)
   ·exact b2 k bO
  ·rcases il.1 hy with hy | hy
   ·have:=a4 y hy;omega
   ·exact b4 y hy
theorem SA (g:GoodL ar l):∀ (ks:List Int) (out:List Nat),(∀ k∈ks,k.toNat∈out/\k.toNat < l.length)->iw l ks out=out
 | [],_,_=>rfl
 | k::ks,out,h=>by
  obtain ⟨h1,h2⟩:=h k fN;rw[C2,tu g h2,an h1];exact SA g ks out fun k hk=>h k (fJ _ hk)
theorem Sz (g:GoodL ar l) {id:Nat} (hi:id < l.length) {out:List Nat} (hc:Cl l out):Vi l id out=if id∈iw l l[id].kids out then iw l l[id].kids out else iw l l[id].kids out++[id]:=by
 rw[tu g hi]
 by_cases hm:id∈out
 ·rw[SA g _ _ fun k hk=>⟨hc.kids hm hi k hk,hc.lt _ (hc.kids hm hi k hk)⟩,an hm]
  try rw[an hm]
 ·obtain ⟨b1,b2,r,b3,b4⟩:=Lz g hi l[id].kids (fun k hk=>pJ g hi k hk) out hc;rw[ai hm,ai];intro h;rw[b3] at h
  rcases il.1 h with h | h
  ·exact hm h
  ·have:=b4 _ h;omega
def nd (l:List ND) (out:List Nat) (id:Nat):ND:=⟨(l.getD id ⟨0,[],0⟩).var,(l.getD id ⟨0,[],0⟩).kids.map (fun k=>((out.idxOf k.toNat:Nat):Int)),(l.getD id ⟨0,[],0⟩).leaf⟩
def dn (l:List ND) (out:List Nat):List ND:=out.map (nd l out)
theorem js {id:Nat} (hi:id < l.length):l.getD id ⟨0,[],0⟩=l[id]:=by rw[aS,bD hi,dh]
theorem Oq {out:List Nat} {id:Nat} (hi:id < l.length) (hk:∀ k∈l[id].kids,k.toNat∈out) (r:List Nat):nd l (out++r) id=nd l out id:=by
 unfold nd;rw[js hi];congr 1;refine List.map_congr_left fun k bO=>?_;rw[List.idxOf_append,an (hk k bO)]
theorem Xc {out:List Nat} (hc:Cl l out) {id:Nat} (hi:id < l.length) (hk:∀ k∈l[id].kids,k.toNat∈out):dn l (out++[id])=dn l out++[nd l out id]:=by
 unfold dn;rw[kU,gd,qU,Oq hi hk];congr 1;exact List.map_congr_left fun j hj=>Oq (hc.lt j hj) (hc.kids hj (hc.lt j hj)) [id]
theorem qmD {out:List Nat} {a b:Nat} (ha:a∈out) (hb:b∈out) (e:out.idxOf a=out.idxOf b):a=b:=by
 have h1:=List.getElem_idxOf (List.idxOf_lt_length_of_mem ha);have h2:=List.getElem_idxOf (List.idxOf_lt_length_of_mem hb);rw[<- h1,<- h2];simp only[e]
theorem Ot (g:GoodL ar l) {out:List Nat} {i j:Nat} (hi:i < l.length) (hj:j < l.length) (jH:∀ k∈l[i].kids,k.toNat∈out) (DM:∀ k∈l[j].kids,k.toNat∈out) (e:nd l out i=nd l out j):i=j:=by
 unfold nd at e;rw[js hi,js hj] at e
 injection e with e1 e2 e3
 have hk:l[i].kids=l[j].kids:=by
  have hl:l[i].kids.length=l[j].kids.length:=by have:=cV List.length e2;simpa using this
  refine List.ext_getElem hl fun q h1 h2=>?_;have h3:=List.getElem_of_eq e2 (i:=q) (by simpa using h1);rw[rV,rV] at h3;have h4:=qmD (jH _ (bS h1)) (DM _ (bS h2)) (by omega);obtain ⟨a,ea,_⟩:=pJ g hi _ (bS h1);obtain ⟨b,eb,_⟩:=pJ g hj _ (bS h2);omega
 have en:l[i]=l[j]:=by
  generalize l[i]=x at *;generalize l[j]=y at *;obtain ⟨xv,xk,xl⟩:=x;obtain ⟨yv,yk,yl⟩:=y;simp only at e1 e3 hk;rw[e1,e3,hk]
 exact Bu g.nd hi hj en
theorem qnw (g:GoodL ar l) {out:List Nat} (hc:Cl l out) {id:Nat} (hi:id < l.length) (hk:∀ k∈l[id].kids,k.toNat∈out):nd l out id∈dn l out↔id∈out:=by
 unfold dn;rw[jf]
 constructor
 ·rintro ⟨j,hj,e⟩;have:=Ot g (hc.lt j hj) hi (hc.kids hj (hc.lt j hj)) hk e;exact this▸hj
 ·intro h;exact ⟨id,h,rfl⟩
theorem qnv (g:GoodL ar l) {out:List Nat} (hc:Cl l out) {id:Nat} (hi:id < l.length) (hk:∀ k∈l[id].kids,k.toNat∈out):(dn l out).idxOf (nd l out id)=out.idxOf id:=by
 have key:∀ (p:List Nat),(∀ j∈p,j∈out)->(p.map (nd l out)).idxOf (nd l out id)=p.idxOf id:=by
  intro p
  induction p with
  | nil=>intro _;rfl
  | cons j p ih=>
   intro h;have hj:=h j fN;rw[gd,List.idxOf_cons,List.idxOf_cons,ih fun q hq=>h q (fJ _ hq)]
   have:(nd l out j == nd l out id)=(j == id):=by
    by_cases e:j=id
    ·subst e;simp
    ·have:nd l out j≠nd l out id:=fun h=>e (Ot g (hc.lt j hj) hi (hc.kids hj (hc.lt j hj)) hk h);rw[beq_eq_false_iff_ne.2 e,beq_eq_false_iff_ne.2 this]
   rw[this]
 exact key out fun _ h=>h
theorem Yc (g:GoodL ar l) {out:List Nat} (hc:Cl l out) {id:Nat} (hi:id < l.length) (hk:∀ k∈l[id].kids,k.toNat∈out) :
  ji (dn l out) (nd l out id)=dn l (if id∈out then out else out++[id])/\(dn l out).idxOf (nd l out id)=(if id∈out then out else out++[id]).idxOf id:=by
 have hm:=qnw g hc hi hk;rw[qnv g hc hi hk];unfold ji
 by_cases h:id∈out
 ·rw[an (hm.2 h),an h];exact ⟨rfl,rfl⟩
 ·rw[ai (fun hh=>h (hm.1 hh)),ai h,Xc hc hi hk,List.idxOf_append,ai h];refine ⟨rfl,?_⟩;rw[List.idxOf_eq_length h];simp
theorem qpu {id v:Nat} {t:List Int} (hv:v<=ar.length) (h:TabV ar l id v t) {a:Nat->Nat} (ha:ik ar a):S l a id∈t:=by
 rw[h.val a ha];have:=Eb ha (ar.length - v) v (by omega);rw[aS,bD (by rw[h.len];exact this),dh];exact bS _
theorem qkr (g:GoodL ar l) (h1:∀ x∈ar,1<=x) {id v:Nat} {t:List Int} (hv:v<=ar.length) (h:TabV ar l id v t) {c:Int} (hc:∀ y∈t,y=c):l.getD id ⟨0,[],0⟩=iD c:=by
 have hi:=h.lt;rw[js hi];have hS:∀ a,ik ar a->S l a id=c:=fun a ha=>hc _ (qpu hv h ha)
 have hn:l[id].var < 0:=by
  refine Decidable.byContradiction fun hn=>?_;have sN:0<=l[id].var:=by omega
  have sP:((l[id].var.toNat:Nat):Int)=l[id].var:=by omega
  have a0:=wb h1;have hlt:=(g.var id hi sN).1
  obtain ⟨t0,e0,NH,_⟩:=oI g hi sN (k:=0) (by
   have:=h1 (ar[l[id].var.toNat]) (bS (by omega))
   rw[aS,bD (by omega),dh];omega)
  have all:∀ k:Nat,(k:Int) < ar.getD l[id].var.toNat 0->∀ a,ik ar a->S l a (l[id].kids.getD k 0).toNat=c:=fun k hk a ha=>by
   rw[<- CS g ha hi (v:=l[id].var.toNat) (k:=k) sP.symm hk];exact hS _ (ha.upd hk)
  refine Oy g h1 hi (j:=t0) sN fun k hk=>?_;obtain ⟨tk,ek,ka,_⟩:=oI g hi sN hk;rw[ek];congr 1;refine canon g h1 _ tk t0 (by omega) (by omega) (Nat.lt_succ_self _) fun a ha=>?_;have x1:=all k hk a ha
  have x2:=all 0 (by
   have:=h1 (ar[l[id].var.toNat]) (bS (by omega))
   rw[aS,bD (by omega),dh];omega) a ha
  rw[ek,cK] at x1;rw[e0,cK] at x2;rw[x1,x2]
 have hl:l[id].leaf=c:=by rw[<- hS _ (wb h1),xR hi hn]
 rcases g.ok _ (bS hi) with ⟨b1,b2,_⟩ | ⟨b1,_⟩
 ·generalize l[id]=x at *;obtain ⟨xv,xk,xl⟩:=x;simp only at b1 b2 hl;rw[b1,b2,hl];rfl
 ·omega
theorem Jq {id v:Nat} {t:List Int} (hv:v < ar.length) (h:TabV ar l id v t) {a:Nat->Nat} (ha:ik ar a) {k:Nat} (hk:(k:Int) < ar.getD v 0):S l (upd a v k) id=(part t (bj (ar.drop (v+1))) k).getD (jc (ar.drop (v+1)) (v+1) a) 0:=by
 have hn:=Eb ha (ar.length - (v+1)) (v+1) (by omega);rw[h.val _ (ha.upd hk),XQ hn,tU hv,NP (ar.length - (v+1)) (v+1) (by omega) (by omega)];have:upd a v k v=k:=by unfold upd;rw[an rfl]
 rw[this]
theorem IM (h1:∀ x∈ar,1<=x) {v:Nat} {t:List Int} (hv:v < ar.length) (ht:t.length=bj (ar.drop v)) {k:Nat} (hk:(k:Int) < ar.getD v 0):(part t (bj (ar.drop (v+1))) k).length=bj (ar.drop (v+1)):=by
 rw[uc hv] at ht;exact part_len ht (by omega)
theorem Pl (g:GoodL ar l) (h1:∀ x∈ar,1<=x) {id v:Nat} {t:List Int} (hv:v < ar.length) (h:TabV ar l id v t) (hi:id < l.length) (tS:l[id].var=v) {k:Nat} (hk:(k:Int) < ar.getD v 0):TabV ar l (l[id].kids.getD k 0).toNat (v+1) (part t (bj (ar.drop (v+1))) k):=by
 have sP:l[id].var.toNat=v:=by omega
 obtain ⟨q,e,hq,h2⟩:=oI g hi (by omega) (k:=k) (by rw[sP];exact hk)
 refine ⟨IM h1 hv h.len hk,by rw[e];simp;omega,fun hh=>?_,fun a ha=>?_⟩
 ·have:=h2 (by omega);have e2:(l[id].kids.getD k 0).toNat=q:=by rw[e];simp
  have:∀ (y:Nat) (hy:y < l.length),y=q->(((v+1:Nat)):Int)<=fD ar.length l[y]:=fun y hy ey=>by subst ey;omega
  exact this _ hh e2
 ·rw[<- CS g ha hi tS hk];exact Jq hv h ha hk
theorem qkQ (g:GoodL ar l) (h1:∀ x∈ar,1<=x) {id v:Nat} {t:List Int} (hv:v < ar.length) (h:TabV ar l id v t) (hf:∀ k:Nat,(k:Int) < ar.getD v 0->part t (bj (ar.drop (v+1))) k=part t (bj (ar.drop (v+1))) 0):TabV ar l id (v+1) (part t (bj (ar.drop (v+1))) 0):=by
 have hi:=h.lt
 have ou:1<=ar.getD v 0:=by
  rw[aS,bD hv,dh];exact h1 _ (bS hv)
 have hne:l[id].var≠v:=fun tS=>by
  have sP:l[id].var.toNat=v:=by omega
  refine Oy g h1 hi (j:=(l[id].kids.getD 0 0).toNat) (by omega) fun k hk=>?_;rw[sP] at hk;obtain ⟨q,e,hq,_⟩:=oI g hi (by omega) (k:=k) (by rw[sP];exact hk);have t1:=Pl g h1 hv h hi tS hk;have t0:=Pl g h1 hv h hi tS (k:=0) (by omega);rw[hf k hk] at t1;have:=qpx g h1 t1 t0;rw[<- this,e];simp
 have mM:=h.top hi
 have hlt:(v:Int) < fD ar.length l[id]:=by
  unfold fD at mM ⊢
  split
  ·rename_i hh;rw[an hh] at mM;omega
  ·omega
 refine ⟨IM h1 hv h.len (by omega),hi,fun _=>by omega,fun a ha=>?_⟩;have hk:=ha v hv;rw[<- hf (a v) hk,<- Jq hv h ha hk,xQ g ha hk id hi hlt]
theorem qnA (g:GoodL ar l) (h1:∀ x∈ar,1<=x) {id v:Nat} {t:List Int} (hv:v < ar.length) (h:TabV ar l id v t) (hi:id < l.length) (hf:¬ ∀ k:Nat,(k:Int) < ar.getD v 0->part t (bj (ar.drop (v+1))) k=part t (bj (ar.drop (v+1))) 0):l[id].var=v:=by
 refine Decidable.byContradiction fun hne=>hf fun k hk=>?_;have mM:=h.top hi
 have ou:1<=ar.getD v 0:=by
  rw[aS,bD hv,dh];exact h1 _ (bS hv)
 have hlt:(v:Int) < fD ar.length l[id]:=by
  unfold fD at mM ⊢
  split
  ·rename_i hh;rw[an hh] at mM;omega
  ·omega
 have e1:=IM h1 hv h.len hk;have e0:=IM h1 hv h.len (k:=0) (by omega);refine WE (e1.trans e0.symm) fun q hq=>?_;obtain ⟨a,ha,e⟩:=V6 h1 (ar.length - (v+1)) (v+1) q (by omega) (by rw[<- e1];exact hq);rw[<- e,<- Jq hv h ha hk,<- Jq hv h ha (k:=0) (by omega),xQ g ha hk id hi hlt,xQ g ha (by omega) id hi hlt]
end
end Go.Ab
namespace Go.Ab
section
variable {ar:List Int} {l:List ND}
inductive Rc (l:List ND) (id:Nat):Nat->Prop
 | refl:Rc l id id
 | kid (j:Nat) (k:Int) (h:Rc l id j) (hj:j < l.length) (hk:k∈l[j].kids):Rc l id k.toNat
theorem Rc.trans (g:GoodL ar l) {a b c:Nat} (h:Rc l a b) (k:Rc l b c):Rc l a c:=by
 induction k with
 | refl=>exact h
 | kid j q _ hj hk ih=>exact .kid j q ih hj hk
theorem Pt {a:Nat->Nat} {v k w:Nat} (h:w≠v):upd a v k w=a w:=by unfold upd;rw[ai h]
theorem Jw {a:Nat->Nat} {v k:Nat}:upd a v k v=k:=by unfold upd;rw[an rfl]
end
end Go.Ab
namespace Go.Ab
def ij (n:Nat) (F:Nat->Nat):Nat:=((List.range n).map F).sum
theorem Jp (F:Nat->Nat):ij 0 F=0:=rfl
theorem pP (n:Nat) (F:Nat->Nat):ij (n+1) F=ij n F+F n:=by
 unfold ij;rw[List.range_succ,kU,List.sum_append];simp
theorem tb {n:Nat} {F G:Nat->Nat} (h:∀ k,k < n->F k=G k):ij n F=ij n G:=by
 induction n with
 | zero=>rfl
 | succ n ih=>rw[pP,pP,ih fun k hk=>h k (by omega),h n (by omega)]
theorem Jo (c n:Nat) (F:Nat->Nat):ij n (fun k=>c * F k)=c * ij n F:=by
 induction n with
 | zero=>rfl
 | succ n ih=>rw[pP,pP,ih,gB]
theorem Pj (c n:Nat) (F:Nat->Nat):ij n (fun k=>F k * c)=ij n F * c:=by
 rw[cM,<- Jo];exact tb fun k _=>cM _ _
theorem Zb (n m:Nat) (F:Nat->Nat):ij (n+m) F=ij n F+ij m fun k=>F (n+k):=by
 induction m with
 | zero=>rfl
 | succ m ih=>rw[<- mw,pP,pP,ih,mw]
theorem Zd {n:Nat} (F:Nat->Nat) {k:Nat} (hk:k < n):F k<=ij n F:=by
 induction n with
 | zero=>omega
 | succ n ih=>
  rw[pP]
  by_cases h:k=n
  ·subst h;omega
  ·have:=ih (by omega);omega
theorem Zc (P:Nat) (F:Nat->Nat):∀ a,ij (a * P) F=ij a fun k=>ij P fun r=>F (k * P+r)
 | 0=>by simp[ij]
 | a+1=>by rw[gO,px,Zb,Zc P F a,pP]
section
variable {ar:List Int} (s:Nat->Nat->Nat)
abbrev jr (ar:List Int) (v:Nat):Nat:=(ar.getD v 0).toNat
def Ct (ar:List Int) (s:Nat->Nat->Nat):Nat->Nat->((Nat->Nat)->Nat)->(Nat->Nat)->Nat
 | 0,_,φ,a=>φ a
 | d+1,v,φ,a=>ij (jr ar v) fun k=>s v k * Ct ar s d (v+1) φ (upd a v k)
def SS (ar:List Int) (s:Nat->Nat->Nat) (v:Nat):Nat:=ij (jr ar v) (s v)
def PM (ar:List Int) (s:Nat->Nat->Nat):Nat->Nat->Nat
 | 0,_=>1
 | d+1,v=>SS ar s v * PM ar s d (v+1)
variable {s}
theorem qt {v k:Nat} (hk:k < jr ar v):(k:Int) < ar.getD v 0:=by unfold jr at hk;omega
theorem JL {φ ψ:(Nat->Nat)->Nat}:∀ (d v:Nat) (a:Nat->Nat),ik ar a->(∀ b,ik ar b->(∀ w,w < v->b w=a w)->φ b=ψ b)->Ct ar s d v φ a=Ct ar s d v ψ a
 | 0,v,a,ha,h=>h a ha fun _ _=>rfl
 | d+1,v,a,ha,h=>by
  refine tb fun k hk=>?_;rw[JL d (v+1) (upd a v k) (ha.upd (qt hk)) fun b hb hw=>h b hb fun w Bh=>(hw w (by omega)).trans (Pt (by omega))]
theorem Ff (x:Nat):∀ (d v:Nat) (a:Nat->Nat),Ct ar s d v (fun _=>x) a=PM ar s d v * x
 | 0,v,a=>by simp[Ct,PM]
 | d+1,v,a=>by
  rw[Ct,PM,tb (G:=fun k=>s v k * (PM ar s d (v+1) * x)) fun k _=>by rw[Ff x d],Pj,SS,dZ]
theorem qpU {a:Nat->Nat} {v w j k:Nat} (h:v≠w):upd (upd a v j) w k=upd (upd a w k) v j:=by
 funext x;unfold upd
 by_cases h1:x=v<;>by_cases h2:x=w<;>simp[h1,h2]
 ·subst h1;exact absurd h2 h
 ·intro e;exact absurd e h
 ·intro e;exact absurd e.symm h
theorem JN {φ:(Nat->Nat)->Nat} {v j:Nat} (hj:(j:Int) < ar.getD v 0) (h:∀ b,ik ar b->φ (upd b v j)=φ b):∀ (d v':Nat) (a:Nat->Nat),v < v'->ik ar a->Ct ar s d v' φ (upd a v j)=Ct ar s d v' φ a
 | 0,v',a,hv,ha=>h a ha
 | d+1,v',a,hv,ha=>by
  refine tb fun k hk=>?_;rw[qpU (by omega),JN hj h d (v'+1) (upd a v' k) (by omega) (ha.upd (qt hk))]
theorem qab {φ:(Nat->Nat)->Nat} {d v:Nat} {a:Nat->Nat} (ha:ik ar a) (h:∀ (b:Nat->Nat) (k:Nat),ik ar b->(k:Int) < ar.getD v 0->φ (upd b v k)=φ b):Ct ar s (d+1) v φ a=SS ar s v * Ct ar s d (v+1) φ a:=by
 rw[Ct,tb (G:=fun k=>s v k * Ct ar s d (v+1) φ a) fun k hk=>by rw[JN (qt hk) (fun b hb=>h b k hb (qt hk)) d (v+1) a (by omega) ha],Pj];rfl
theorem PT {φ:(Nat->Nat)->Nat} {a:Nat->Nat} (ha:ik ar a):∀ (u d v:Nat),(∀ (b:Nat->Nat) (w k:Nat),v<=w->w < v+u->ik ar b->(k:Int) < ar.getD w 0->φ (upd b w k)=φ b)->Ct ar s (u+d) v φ a=PM ar s u v * Ct ar s d (v+u) φ a
 | 0,d,v,h=>by simp[PM]
 | u+1,d,v,h=>by
  rw[show u+1+d=(u+d)+1 by omega,qab ha fun b k hb hk=>h b v k (by omega) (by omega) hb hk,PT ha u d (v+1) fun b w k h1 h2=>h b w k (by omega) (by omega),PM,dZ,show v+1+u=v+(u+1) by omega]
theorem An:∀ (u d v:Nat),PM ar s (u+d) v=PM ar s u v * PM ar s d (v+u)
 | 0,d,v=>by simp[PM]
 | u+1,d,v=>by
  rw[show u+1+d=(u+d)+1 by omega,PM,PM,An u d (v+1),dZ,show v+1+u=v+(u+1) by omega]
variable {l:List ND}
def Hc (ar:List Int) (s:Nat->Nat->Nat) (l:List ND) (c:Int) (k:Nat):Nat:=Ct ar s ar.length 0 (fun a=>if S l a k=c then 1 else 0) fun _=>0
def zI (ar:List Int) (s:Nat->Nat->Nat) (l:List ND) (h:Nat->Nat):Prop:=∀ (k u:Nat) (hk:k < l.length),l[k].var=u->∃ q:Nat->Nat,(∀ j,j < jr ar u->h (l[k].kids.getD j 0).toNat=SS ar s u * q j)/\h k=ij (jr ar u) fun j=>s u j * q j
theorem ML (g:GoodL ar l) (h1:∀ x∈ar,1<=x) (c:Int):zI ar s l (Hc ar s l c):=by
 intro k u hk hu;have ha:=wb h1;obtain ⟨ke,rC⟩:=g.var k hk (by omega);have kd:u < ar.length:=by omega
 have oF:l[k].var.toNat=u:=by omega
 have lL:fD ar.length l[k]=u:=by unfold fD;rw[an (by omega)];exact hu
 have frm:∀ (i:Nat) (hi:i < l.length) (w:Nat),(w:Int)<=fD ar.length l[i]->w<=ar.length->Hc ar s l c i=PM ar s w 0 * Ct ar s (ar.length - w) w (fun a=>if S l a i=c then 1 else 0) fun _=>0:=fun i hi w hw VW=>by
  have:=PT (s:=s) (φ:=fun a=>if S l a i=c then 1 else 0) ha w (ar.length - w) 0 fun b x j _ hx hb hj=>by
   skip
   rw[xQ g hb hj i hi (by omega)]
  rw[bp,show w+(ar.length - w)=ar.length by omega] at this;exact this
 refine ⟨fun j=>PM ar s u 0 * Ct ar s (ar.length - (u+1)) (u+1) (fun a=>if S l a (l[k].kids.getD j 0).toNat=c then 1 else 0) fun _=>0,fun j hj=>?_,?_⟩
 ·obtain ⟨t,e,ht,h2⟩:=oI g hk (by omega) (k:=j) (by rw[oF];exact qt hj);have h2:=h2 (by omega);rw[e,cK,frm t (by omega) (u+1) (by omega) (by omega),An u 1 0];simp only[PM,kV,bp,e,cK];rw[<- dZ,cM (SS ar s u)]
 ·rw[frm k hk u (by omega) (by omega),show ar.length - u=(ar.length - (u+1))+1 by omega,Ct,<- Jo];refine tb fun j hj=>?_;obtain ⟨t,e,ht,h2⟩:=oI g hk (by omega) (k:=j) (by rw[oF];exact qt hj);have h2:=h2 (by omega)
  have e1:Ct ar s (ar.length - (u+1)) (u+1) (fun a=>if S l a k=c then 1 else 0) (upd (fun _=>0) u j)=Ct ar s (ar.length - (u+1)) (u+1) (fun a=>if S l a t=c then 1 else 0) (upd (fun _=>0) u j):=
   JL _ _ _ (ha.upd (qt hj)) fun b hb hw=>by
    have:b u=j:=(hw u (by omega)).trans Jw;rw[CR g hb hk (by omega),oF,this,e,cK]
  dsimp only
  rw[e1,e,cK,JN (qt hj) (fun b hb=>by
   skip
   rw[xQ g hb (qt hj) t (by omega) (by omega)]) _ _ _ (by omega) ha]
  rw[<- dZ,cM (PM ar s u 0),dZ]
theorem JO (c:Int) {k:Nat} (hk:k < l.length) (hv:l[k].var < 0):Hc ar s l c k=if l[k].leaf=c then PM ar s ar.length 0 else 0:=by
 unfold Hc
 have:(fun a:Nat->Nat=>if S l a k=c then (1:Nat) else 0)=fun _=>if l[k].leaf=c then 1 else 0:=by funext a;rw[xR hk hv]
 rw[this,Ff];split<;>simp
theorem qls (g:GoodL ar l):zI ar s l fun _=>PM ar s ar.length 0:=by
 intro k u hk hu;obtain ⟨ke,_⟩:=g.var k hk (by omega)
 have e:PM ar s ar.length 0=PM ar s u 0 * (SS ar s u * PM ar s (ar.length - (u+1)) (u+1)):=by
  have:=An (ar:=ar) (s:=s) u ((ar.length - (u+1))+1) 0;rw[show u+((ar.length - (u+1))+1)=ar.length by omega,bp] at this;rw[this];rfl
 refine ⟨fun _=>PM ar s u 0 * PM ar s (ar.length - (u+1)) (u+1),fun j _=>?_,?_⟩
 ·dsimp only;rw[e,<- dZ,<- dZ,cM (PM ar s u 0)]
 ·dsimp only;rw[Pj,e,<- dZ,<- dZ,cM (PM ar s u 0)];rfl
def jI (ar:List Int) (s:Nat->Nat->Nat) (n:ND):List (Nat×Nat):=(List.range (jr ar n.var.toNat)).map fun j=>((n.kids.getD j 0).toNat,s n.var.toNat j)
def kF (t:Nat):List (Nat×Nat)->(Nat->Nat)->Nat->Nat
 | [],T=>T
 | p::L,T=>kF t L (upd T p.1 (T p.1+t * p.2))
theorem Jd (t:Nat) (p:Nat×Nat):∀ (L:List (Nat×Nat)) (T:Nat->Nat),kF t (L++[p]) T=upd (kF t L T) p.1 (kF t L T p.1+t * p.2)
 | [],T=>rfl
 | q::L,T=>by rw[cn,kF,Jd t p L];rfl
def jC (h T:Nat->Nat) (R:List Nat):Nat:=(R.map fun j=>T j * h j).sum
theorem IS {h T:Nat->Nat} {j x:Nat}:∀ {R:List Nat},R.Nodup->jC h (upd T j (T j+x)) R=jC h T R+if j∈R then x * h j else 0
 | [],_=>by simp[jC]
 | i::R,hn=>by
  obtain ⟨h1,h2⟩:=uC.1 hn;have ih:=IS (h:=h) (T:=T) (j:=j) (x:=x) h2;unfold jC at ih ⊢;rw[gd,mW,gd,mW,ih]
  by_cases hi:i=j
  ·subst hi;rw[Jw,ai h1,an fN,gO];omega
  ·have hm:(j∈i::R)↔j∈R:=by simp[gE,show ¬ j=i from fun e=>hi e.symm]
   rw[Pt hi,mw];congr 2
   by_cases hj:j∈R
   ·rw[an hj,an (hm.2 hj)]
   ·rw[ai hj,ai (fun h=>hj (hm.1 h))]
theorem IQ {h:Nat->Nat} {t:Nat} {R:List Nat} (hn:R.Nodup):∀ (L:List (Nat×Nat)) (T:Nat->Nat),(∀ p∈L,p.1∈R)->jC h (kF t L T) R=jC h T R+t * (L.map fun p=>p.2 * h p.1).sum
 | [],T,_=>by simp[kF]
 | p::L,T,hL=>by
  rw[kF,IQ hn L _ fun q hq=>hL q (fJ _ hq),IS hn,an (hL p fN),gd,mW,gB,dZ,mw]
theorem X8 {h T:Nat->Nat}:∀ {R:List Nat} {j:Nat},j∈R->T j * h j<=jC h T R
 | i::R,j,hj=>by
  unfold jC;rw[gd,mW]
  rcases gE.1 hj with rfl | hj
  ·omega
  ·have:T j * h j<=(R.map fun j=>T j * h j).sum:=X8 (R:=R) hj;omega
def run (ar:List Int) (s:Nat->Nat->Nat) (l:List ND):List Nat->(Nat->Nat)->List (Int×Nat)
 | [],_=>[]
 | k::R,T=>match l[k]? with
  | none=>[]
  | some n=>if n.var < 0 then (n.leaf,T k)::run ar s l R T else run ar s l R (kF (T k / SS ar s n.var.toNat) (jI ar s n) T)
structure Flow (ar:List Int) (s:Nat->Nat->Nat) (l:List ND) (R:List Nat) (T:Nat->Nat) (done:Nat):Prop where
 nd:R.Nodup
 lt:∀ j∈R,j < l.length
 srt:R.Pairwise fun x y=>fD ar.length (l.getD x ⟨0,[],0⟩)<=fD ar.length (l.getD y ⟨0,[],0⟩)
 kids:∀ (j:Nat) (hj:j < l.length),j∈R->0<=l[j].var->∀ k∈l[j].kids,k.toNat∈R
 dvd:∀ (j:Nat) (hj:j < l.length) (v:Nat),j∈R->fD ar.length l[j]=v->PM ar s (ar.length - v) v∣T j
 tot:jC (fun _=>1) T R+done=PM ar s ar.length 0
theorem Wm (g:GoodL ar l) {k:Nat} (hk:k < l.length) (hv:0<=l[k].var):∀ p∈jI ar s l[k],(p.1:Int)∈l[k].kids/\∃ hp:p.1 < l.length,l[k].var < fD ar.length l[p.1]:=fun p hp=>by
 obtain ⟨j,hj,rfl⟩:=jf.1 hp;have hj:=qt (uz.1 hj);obtain ⟨t,e,ht,h2⟩:=oI g hk hv hj;have hl:=(g.var k hk hv).2;have lP:j < l[k].kids.length:=by omega
 dsimp only;rw[e,cK];refine ⟨?_,by omega,h2 (by omega)⟩;rw[<- e,aS,bD lP];exact bS lP
theorem qmR (k:ND) (h:Nat->Nat):((jI ar s k).map fun p=>p.2 * h p.1).sum=ij (jr ar k.var.toNat) fun j=>s k.var.toNat j * h (k.kids.getD j 0).toNat:=by
 unfold jI ij;rw[rW];rfl
theorem Flow.inner (g:GoodL ar l) (h0:∀ v,v < ar.length->0 < SS ar s v) {k:Nat} {R:List Nat} {T:Nat->Nat} {done:Nat} (F:Flow ar s l (k::R) T done) {u:Nat} (hk:k < l.length) (hu:l[k].var=u) :
  u < ar.length/\T k / SS ar s u * SS ar s u=T k/\(∀ p∈jI ar s l[k],p.1∈R)/\k∉R /\
  (∀ (L:List (Nat×Nat)) (p:Nat×Nat) (L':List (Nat×Nat)),jI ar s l[k]=L++p::L'->kF (T k / SS ar s u) L T p.1+T k / SS ar s u * p.2<=PM ar s ar.length 0) /\
  Flow ar s l R (kF (T k / SS ar s u) (jI ar s l[k]) T) done /\
  ∀ h,zI ar s l h->jC h T (k::R)=jC h (kF (T k / SS ar s u) (jI ar s l[k]) T) R:=by
 obtain ⟨lS,ng⟩:=uC.1 F.nd;obtain ⟨ke,rC⟩:=g.var k hk (by omega);have kd:u < ar.length:=by omega
 have oF:l[k].var.toNat=u:=by omega
 have lL:fD ar.length l[k]=u:=by unfold fD;rw[an (by omega)];exact hu
 have hS:=h0 u kd
 have UL:PM ar s (ar.length - u) u=SS ar s u * PM ar s (ar.length - (u+1)) (u+1):=by
  rw[show ar.length - u=(ar.length - (u+1))+1 by omega];rfl
 obtain ⟨c,hc⟩:=F.dvd k hk u fN lL
 have Bc:T k / SS ar s u=PM ar s (ar.length - (u+1)) (u+1) * c:=by
  rw[hc,UL,dZ,Nat.mul_div_cancel_left _ hS]
 have Ih:T k / SS ar s u * SS ar s u=T k:=by rw[Bc,hc,UL,cM,<- dZ]
 have fW:∀ p∈jI ar s l[k],p.1∈R:=fun p hp=>by
  obtain ⟨a1,hpl,a2⟩:=Wm g hk (by omega) p hp;have:=F.kids k hk fN (by omega) _ a1;rw[cK] at this
  rcases gE.1 this with e | h
  ·exfalso
   have:∀ (x:Nat) (hx:x < l.length),x=k->l[k].var < fD ar.length l[x]->False:=fun x hx e h=>by
    subst e;rw[lL] at h;omega
   exact this _ hpl e a2
  ·exact h
 have hwt:∀ h,zI ar s l h->T k / SS ar s u * ((jI ar s l[k]).map fun p=>p.2 * h p.1).sum=T k * h k:=fun h hh=>by
  obtain ⟨q,q1,q2⟩:=hh k u hk hu;rw[qmR,oF,tb (G:=fun j=>SS ar s u * (s u j * q j)) fun j hj=>by rw[q1 j hj,<- dZ,cM (s u j),dZ],Jo,<- q2,<- dZ,Ih]
 have yK:∀ h,zI ar s l h->jC h T (k::R)=jC h (kF (T k / SS ar s u) (jI ar s l[k]) T) R:=fun h hh=>by
  rw[IQ ng _ _ fW,hwt h hh];unfold jC;rw[gd,mW,rZ]
 have rn:∀ v,v<=ar.length->0 < PM ar s (ar.length - v) v:=by
  have:∀ d v,v+d=ar.length->0 < PM ar s d v:=by
   intro d
   induction d with
   | zero=>intro v _;exact Nat.one_pos
   | succ d ih=>intro v hv;exact Nat.mul_pos (h0 v (by omega)) (ih (v+1) (by omega))
  intro v hv;exact this _ v (by omega)
 have hM:=rn 0 (kW _);rw[Nat.sub_zero] at hM
 have A5:∀ (T':Nat->Nat) (R':List Nat),jC (fun _=>PM ar s ar.length 0) T' R'=jC (fun _=>1) T' R' * PM ar s ar.length 0:=fun T' R'=>by
  unfold jC
  induction R' with
  | nil=>simp
  | cons j R' ih=>rw[gd,mW,ih,gd,mW,gO,kV]
 have Bf:jC (fun _=>1) T (k::R)=jC (fun _=>1) (kF (T k / SS ar s u) (jI ar s l[k]) T) R:=by
  have:=yK _ (qls g);rw[A5,A5] at this;exact Nat.eq_of_mul_eq_mul_right hM this
 refine ⟨kd,Ih,fW,lS,fun L p L' hL=>?_,⟨ng,fun j hj=>F.lt j (fJ _ hj),(CF.1 F.srt).2,fun j hj rz hv q hq=>?_,fun j hj v rz hv=>?_,?_⟩,yK⟩
 ·have hp:p.1∈R:=fW p (by rw[hL];simp)
  have h2:jC (fun _=>1) (kF (T k / SS ar s u) (L++[p]) T) R<=jC (fun _=>1) (kF (T k / SS ar s u) (jI ar s l[k]) T) R:=by
   rw[IQ ng _ _ fun q hq=>fW q (by
     rw[hL];rw[il] at hq ⊢;rcases hq with hq | hq
     ·exact .inl hq
     ·exact .inr (by simp at hq;simp[hq])),IQ ng _ _ fW,hL]
   refine Nat.add_le_add_left (kG _ ?_) _;simp only[kU,gd,List.sum_append,mW,qU,List.sum_nil];omega
  have h3:=X8 (h:=fun _=>1) (T:=kF (T k / SS ar s u) (L++[p]) T) hp;rw[Jd,Jw,kV] at h3;have h4:=F.tot;rw[Jd] at h2;omega
 ·have:=F.kids j hj (fJ _ rz) hv q hq
  rcases gE.1 this with e | h
  ·exfalso;obtain ⟨t,et,ht,h2⟩:=g.kid j hj hv q hq;have hs:=(CF.1 F.srt).1 j rz;rw[js hk,js hj] at hs;have oV:fD ar.length l[j]=l[j].var:=by unfold fD;rw[an (by omega)]
   have:∀ (x:Nat) (hx:x < l.length),x=k->l[j].var < fD ar.length l[x]->False:=fun x hx e h=>by
    subst e;omega
   have ka:t=k:=by rw[et,cK] at e;exact e
   exact this t (by omega) ka (h2 (by omega))
  ·exact h
 ·
  have hold:=F.dvd j hj v (fJ _ rz) hv
  have key:∀ (L:List (Nat×Nat)) (T':Nat->Nat),(∀ p∈L,p.1=j->PM ar s (ar.length - v) v∣T k / SS ar s u)->PM ar s (ar.length - v) v∣T' j->PM ar s (ar.length - v) v∣kF (T k / SS ar s u) L T' j:=by
   intro L
   induction L with
   | nil=>intro T' _ h;exact h
   | cons p L ih=>
    intro T' hL h;rw[kF];refine ih _ (fun q hq=>hL q (fJ _ hq)) ?_;unfold upd
    split
    ·rename_i e;rw[<- e];exact Nat.dvd_add h (Nat.dvd_mul_right_of_dvd (hL p fN e.symm) _)
    ·exact h
  refine key _ T (fun p hp e=>?_) hold;obtain ⟨a1,hpl,a2⟩:=Wm g hk (by omega) p hp
  have hvb:u < v:=by
   have:∀ (x:Nat) (hx:x < l.length),x=j->l[k].var < fD ar.length l[x]->(u:Int) < v:=fun x hx e h=>by
    subst e;omega
   have:=this _ hpl e a2;omega
  have fS:v<=ar.length:=by
   unfold fD at hv
   split at hv
   ·have:=(g.var j hj (by omega)).1;omega
   ·omega
  rw[Bc];refine Nat.dvd_mul_right_of_dvd ?_ _;have:=An (ar:=ar) (s:=s) (v - (u+1)) (ar.length - v) (u+1);rw[show v - (u+1)+(ar.length - v)=ar.length - (u+1) by omega,show u+1+(v - (u+1))=v by omega] at this;rw[this];exact Nat.dvd_mul_left _ _
 ·rw[<- Bf];exact F.tot
theorem Flow.leaf (g:GoodL ar l) {k:Nat} {R:List Nat} {T:Nat->Nat} {done:Nat} (F:Flow ar s l (k::R) T done) (hk:k < l.length) (hv:l[k].var < 0):Flow ar s l R T (done+T k)/\T k<=PM ar s ar.length 0/\k∉R:=by
 obtain ⟨lS,ng⟩:=uC.1 F.nd;have ht:=F.tot;unfold jC at ht;rw[gd,mW,kV] at ht
 refine ⟨⟨ng,fun j hj=>F.lt j (fJ _ hj),(CF.1 F.srt).2,fun j hj rz qB q hq=>?_,fun j hj v rz=>F.dvd j hj v (fJ _ rz),?_⟩,by omega,lS⟩
 ·have:=F.kids j hj (fJ _ rz) qB q hq
  rcases gE.1 this with e | h
  ·exfalso;obtain ⟨t,et,wT,h2⟩:=g.kid j hj qB q hq;have hs:=(CF.1 F.srt).1 j rz;rw[js hk,js hj] at hs;have tL:=(g.var j hj qB).1;have oV:fD ar.length l[j]=l[j].var:=by unfold fD;rw[an (by omega)]
   have kA:fD ar.length l[k]=ar.length:=by unfold fD;rw[ai (by omega)]
   omega
  ·exact h
 ·unfold jC;omega
theorem O3 (g:GoodL ar l) (h0:∀ v,v < ar.length->0 < SS ar s v) {h:Nat->Nat} {q:Int->Nat} (hh:zI ar s l h) (hq:∀ (k:Nat) (hk:k < l.length),l[k].var < 0->h k=q l[k].leaf):∀ (R:List Nat) (T:Nat->Nat) (done:Nat),Flow ar s l R T done ->
  jC h T R=((run ar s l R T).map fun p=>p.2 * q p.1).sum
 | [],T,done,F=>rfl
 | k::R,T,done,F=>by
  have hk:=F.lt k fN;have e:l[k]?=some l[k]:=bD hk;rw[run,e];dsimp only
  by_cases hv:l[k].var < 0
  ·rw[an hv,gd,mW,<- O3 g h0 hh hq R T _ (F.leaf g hk hv).1];unfold jC;rw[gd,mW,hq k hk hv]
  ·rw[ai hv];obtain ⟨_,_,_,_,_,F',hp⟩:=F.inner g h0 (u:=l[k].var.toNat) hk (by omega);rw[hp h hh,O3 g h0 hh hq R _ _ F']
theorem I7 (g:GoodL ar l):∀ (R:List Nat) (T:Nat->Nat),(∀ j∈R,j < l.length)->(run ar s l R T).map Prod.fst=(R.filter fun j=>decide ((l.getD j ⟨0,[],0⟩).var < 0)).map fun j=>(l.getD j ⟨0,[],0⟩).leaf
 | [],T,_=>rfl
 | k::R,T,h=>by
  have hk:=h k fN;have e:l[k]?=some l[k]:=bD hk;have h':∀ j∈R,j < l.length:=fun j hj=>h j (fJ _ hj);rw[run,e];dsimp only;rw[List.filter_cons,js hk]
  by_cases hv:l[k].var < 0
  ·rw[an hv,dD hv,an rfl,gd,gd,I7 g R T h',js hk]
  ·rw[ai hv,dd hv,ai (by simp),I7 g R _ h']
end
end Go.Ab
namespace Go.Ab
def cP (f:Nat->Int) (l:List Nat):Prop:=l.Pairwise fun x y=>f x<=f y
theorem cP.app {f:Nat->Int} {A B:List Nat}:cP f (A++B)↔cP f A/\cP f B/\∀ a∈A,∀ b∈B,f a<=f b:=List.pairwise_append
theorem cP.le_last {f:Nat->Int} {A:List Nat} {y:Nat} (h:cP f (A++[y])):∀ a∈A++[y],f a<=f y:=fun a ha=>by
 rcases il.1 ha with ha | ha
 ·exact (cP.app.1 h).2.2 a ha y (by simp)
 ·simp at ha;subst ha;exact ql _
theorem cP.head_le {f:Nat->Int} {A:List Nat} {y:Nat} (h:cP f (y::A)):∀ a∈y::A,f y<=f a:=fun a ha=>by
 rcases gE.1 ha with rfl | ha
 ·exact ql _
 ·exact (CF.1 h).1 a ha
theorem cP.put {f:Nat->Int} {x:Nat} {S1 S2:List Nat} (h:cP f (S1++S2)) (h1:∀ a∈S1,f a<=f x) (h2:∀ b∈S2,f x<=f b):cP f (S1++x::S2):=by
 obtain ⟨a1,a2,a3⟩:=cP.app.1 h;refine cP.app.2 ⟨a1,CF.2 ⟨h2,a2⟩,fun a ha b hb=>?_⟩
 rcases gE.1 hb with rfl | hb
 ·exact h1 a ha
 ·exact a3 a ha b hb
theorem cP.both {f:Nat->Int} {L1 L2 R1 R2 M1 M2:List Nat} (hA:cP f (L1++L2)) (hB:cP f (R1++R2)) (h1:∀ a∈L1,∀ b∈R2,f a<=f b) (h2:∀ a∈R1,∀ b∈L2,f a<=f b)
  (p1:M1.Perm (L1++R1)) (p2:M2.Perm (L2++R2)) (s1:cP f M1) (s2:cP f M2):cP f (M1++M2)/\(M1++M2).Perm ((L1++L2)++(R1++R2)):=by
 constructor
 ·refine cP.app.2 ⟨s1,s2,fun a ha b hb=>?_⟩;have ha:=p1.mem_iff.1 ha;have hb:=p2.mem_iff.1 hb
  rcases il.1 ha with ha | ha<;>rcases il.1 hb with hb | hb
  ·exact (cP.app.1 hA).2.2 a ha b hb
  ·exact h1 a ha b hb
  ·exact h2 a ha b hb
  ·exact (cP.app.1 hB).2.2 a ha b hb
 ·refine (p1.append p2).trans ?_;rw[gA,gA];refine CA L1 ?_;rw[<- gA,<- gA];exact List.Perm.append_right R2 List.perm_append_comm
def Edge (T:Nat->Prop) (lo hi s:Nat):Prop:=lo<=s/\s<=hi/\(s=lo\/T (s - 1))/\(s=hi\/¬ T s)
inductive Runs (f:Nat->Int) (n:Nat):List Nat->Prop
 | last (l:List Nat) (h:l.length<=n) (s:cP f l):Runs f n l
 | more (x l:List Nat) (h:x.length=n) (s:cP f x) (r:Runs f n l):Runs f n (x++l)
inductive Full (f:Nat->Int) (n:Nat):List Nat->Prop
 | nil:Full f n []
 | more (l x:List Nat) (r:Full f n l) (h:x.length=n) (s:cP f x):Full f n (l++x)
theorem Full.runs {f:Nat->Int} {n:Nat} {l:List Nat} (h:Full f n l):∀ q,Runs f n q->Runs f n (l++q):=by
 induction h with
 | nil=>exact fun q h=>h
 | more l x r hx s ih=>
  intro q hq;rw[gA];exact ih _ (.more x q hx s hq)
theorem Runs.one {f:Nat->Int} {n:Nat} {l:List Nat} (h:Runs f n l) (hn:l.length<=n):cP f l:=by
 cases h with
 | last _ _ s=>exact s
 | more x l hx s r=>
  have:l=[]:=oN (by simp at hn;omega);subst this;simpa using s
theorem Runs.two {f:Nat->Int} {n:Nat} {q:List Nat} (h:Runs f n q) (hn:0 < n) (hl:n < q.length):∃ x r,q=x++r/\x.length=n/\cP f x/\Runs f n r:=by
 cases h with
 | last _ h _=>omega
 | more x l hx s r=>exact ⟨x,l,rfl,hx,s,r⟩
end Go.Ab
namespace Go.Ab
noncomputable section
open Go.Proofs.Tryz
end
end Go.Ab
namespace Go.Ab
noncomputable section
open Go.Proofs.Tryz
def KC (m:af):St:=⟨(bC (aM (aG []))),m⟩
def GY (x2:AV) (m:af):St:=⟨(aK (x2::bC (aK []))),m⟩
def FV (x8 x9 aF:AV) (m:af) (K:KT):OM:=ck 11 (b9 (c2 (c2 (aB f11)))) 4 (aW (x8::x9::aF::aW (aK []))) m K
abbrev qa1 (K:KT):KT:=bE 11 (c2 (c2 (c2 (aB f11)))) K
abbrev qa2 (K:KT):KT:=bz 0 (qa1 K)
abbrev JS (K:KT):KT:=(qa2 K)
theorem T11 (a0:AV) (m:af):AC ae 11 [a0] m=(aO false a0).bind fun v1=>(ag .other .gtr v1 (.int .i64 16)).bind fun v2=>aw v2 (some ((.int .i64 2),m)) ((aO false a0).bind fun v3=>FV a0 v3 (.int .i64 0) m (JS (aE ae.P f11.results.toList))):=
(bm ae 11 [a0] m (fn:=f11) (c:=aB f11) qhY rfl).trans (by kernel_rfl)
theorem Qe (x8 x9 aF:AV) (m:af) (K:KT):FV x8 x9 aF m K=(ag .other .lss aF x9).bind fun v1=>aw v1 ((aH none x8 aF).bind fun v2=>(aj none m v2).bind fun v3=>(ag .other .lss v3 (.int .i64 1)).bind fun v4=>aw v4 (K .ret (GY (.int .i64 1) m)) ((ag .other .gtr v3 (.int .i64 64)).bind fun v5=>aw v5 (K .ret (GY (.int .i64 1) m)) ((ag .other .add aF (.int .i64 1)).bind fun v6=>FV x8 x9 v6 m K))) (K (.exit 0) (KC m)):=
(cg (bW _) _ _ _).trans (by kernel_rfl)
theorem qa4 (m:af):JS (aE ae.P f11.results.toList) (.exit 0) (KC  m)=some ((.int .i64 0),m):=by kernel_rfl
theorem qa3 (x2:AV) (m:af):JS (aE ae.P f11.results.toList) .ret (GY x2 m)=some (x2,m):=by kernel_rfl
def Ro (x5:AV) (m:af):St:=⟨(aM (aG (x5::bC []))),m⟩
def RE (x4:AV) (m:af):St:=⟨(aM (x4::bC (aG []))),m⟩
def FZ (x1 x5 x8 x9 aF:AV) (m:af) (K:KT):OM:=ck 12 (b9 (c2 (c2 (aB f12)))) 3 (aG (x1::aK (aG (x5::aK (x8::x9::aF::aW (aK (aG []))))))) m K
abbrev qbp (K:KT):KT:=bE 12 (c2 (c2 (c2 (aB f12)))) K
abbrev qbq (K:KT):KT:=bz 0 (qbp K)
abbrev Fk (K:KT):KT:=(qbq K)
theorem T12 (a0 a1:AV) (m:af):AC ae 12 [a0,a1] m=(aO false a0).bind fun v1=>FZ a1 (.int .i64 1) a0 v1 (.int .i64 0) m (Fk (aE ae.P f12.results.toList)):=
(bm ae 12 [a0,a1] m (fn:=f12) (c:=aB f12) qh7 rfl).trans (by kernel_rfl)
theorem Ql (x1 x5 x8 x9 aF:AV) (m:af) (K:KT):FZ x1 x5 x8 x9 aF m K=(ag .other .lss aF x9).bind fun v1=>aw v1 ((aH none x8 aF).bind fun v2=>(aj none m v2).bind fun v3=>(ag .other .mul x5 v3).bind fun v4=>(ag .other .gtr v4 x1).bind fun v5=>aw v5 (K .ret (RE (.int .i64 0) m)) ((ag .other .add aF (.int .i64 1)).bind fun v6=>FZ x1 v4 x8 x9 v6 m K)) (K (.exit 0) (Ro x5 m)):=
(cg (bW _) _ _ _).trans (by kernel_rfl)
theorem qbs (x5:AV) (m:af):Fk (aE ae.P f12.results.toList) (.exit 0) (Ro x5 m)=some (x5,m):=by kernel_rfl
theorem qbr (x4:AV) (m:af):Fk (aE ae.P f12.results.toList) .ret (RE x4 m)=some (x4,m):=by kernel_rfl
def Rp (m:af):St:=⟨(bI (aW (aM (aG [])))),m⟩
def RF (x4:AV) (m:af):St:=⟨(aM (x4::bI (aW []))),m⟩
def Gb (x2 x3 tg pk:AV) (m:af) (K:KT):OM:=ck 142 (b9 (c2 (c2 (aB f142)))) 4 (aK (x2::x3::bC (aW (aG (tg::pk::aW (aM (aK []))))))) m K
abbrev qbR (K:KT):KT:=bE 142 (c2 (c2 (c2 (aB f142)))) K
abbrev qbS (K:KT):KT:=bz 0 (qbR K)
abbrev Fm (K:KT):KT:=(qbS K)
theorem qfZ (a0 a1:AV) (m:af):AC ae 142 [a0,a1] m=(dI none (some 3) m a0).bind fun r1=>(dI none (some 3) r1.2 a1).bind fun r2=>(aT 0 r1.1).bind fun v3=>(aj none r2.2 v3).bind fun v4=>(aT 0 r2.1).bind fun v5=>(aj none r2.2 v5).bind fun v6=>(ag .other .neq v4 v6).bind fun v7=>aw v7 (some ((.bool false),r2.2)) ((aT 2 r1.1).bind fun v8=>(aj none r2.2 v8).bind fun v9=>(aT 2 r2.1).bind fun v10=>(aj none r2.2 v10).bind fun v11=>(ag .other .neq v9 v11).bind fun v12=>aw v12 (some ((.bool false),r2.2)) ((aT 1 r1.1).bind fun bu=>(aj none r2.2 bu).bind fun bq=>(aO false bq).bind fun br=>(aT 1 r2.1).bind fun bT=>(aj none r2.2 bT).bind fun bH=>(aO false bH).bind fun fI=>(ag .other .neq br fI).bind fun dG=>aw dG (some ((.bool false),r2.2)) ((aT 1 r1.1).bind fun v20=>(aj none r2.2 v20).bind fun v21=>(aO false v21).bind fun v22=>Gb r1.1 r2.1 v22 (.int .i64 0) r2.2 (Fm (aE ae.P f142.results.toList))))):=
(bm ae 142 [a0,a1] m (fn:=f142) (c:=aB f142) qip rfl).trans (by kernel_rfl)
theorem Qu (x2 x3 tg pk:AV) (m:af) (K:KT):Gb x2 x3 tg pk m K=(ag .other .lss pk tg).bind fun v1=>aw v1 ((aT 1 x2).bind fun v2=>(aj none m v2).bind fun v3=>(aH none v3 pk).bind fun v4=>(aj none m v4).bind fun v5=>(aT 1 x3).bind fun v6=>(aj none m v6).bind fun v7=>(aH none v7 pk).bind fun v8=>(aj none m v8).bind fun v9=>(ag .other .neq v5 v9).bind fun v10=>aw v10 (K .ret (RF (.bool false) m)) ((ag .other .add pk (.int .i64 1)).bind fun v11=>Gb x2 x3 tg v11 m K)) (K (.exit 0) (Rp m)):=
(cg (bW _) _ _ _).trans (by kernel_rfl)
theorem qbU (m:af):Fm (aE ae.P f142.results.toList) (.exit 0) (Rp  m)=some ((.bool true),m):=by kernel_rfl
theorem qbT (x4:AV) (m:af):Fm (aE ae.P f142.results.toList) .ret (RF x4 m)=some (x4,m):=by kernel_rfl
end
end Go.Ab
namespace Go.Ab
open Go.Proofs Go.Proofs.Tryz
def se (n:Int):Bool:=decide (1<=n/\n<=64)
def om (ns:List Int):Int:=if ns.length > 16 then 2 else if ns.all se then 0 else 1
theorem SF (z:Bool) (o:Own) (ns:List Int) (hl:ns.length<=16) (m:af) (K:KT):∀ j i:Nat,i+j=ns.length->FV (IA z o ns) (.int .i64 ns.length) (.int .i64 i) m K=if (ns.drop i).all se then K (.exit 0) (KC m) else K .ret (GY (.int .i64 1) m)
 | 0,i,h=>by
  rw[Qe,cX,aa,aA,ai (by omega),jo (by omega)];rfl
 | j+1,i,h=>by
  have hi:i < ns.length:=by omega
  have ih:=SF z o ns hl m K j (i+1) (by omega);rw[Qe,cX,aa,aA,an hi,jB hi,aa,fV,aa,bh,aa,aA,kT hi,n0]
  by_cases h1:ns[i] < 1
  ·rw[an h1,show se ns[i]=false from dd (by omega)];rfl
  ·rw[ai h1,ir,aa,aA]
   by_cases h2:ns[i] > 64
   ·rw[an h2,show se ns[i]=false from dd (by omega)];rfl
   ·rw[ai h2,cB (by omega),aa,ih,show se ns[i]=true from dD (by omega),iL]
theorem V12 (z:Bool) (o:Own) (ns:List Int):AP ae 11 [IA z o ns]=some (.int .i64 (om ns)):=by
 refine iK (m:=[]) (v:=.int .i64 (om ns)) (l:=[]) ?_ rfl rfl;unfold om;rw[T11,iE,aa,show ((16:Int))=((16:Nat):Int) from rfl,Bq,aa,aA]
 by_cases h:ns.length > 16
 ·rw[an h,an h]
 ·rw[ai h,ai h,aa,show ((0:Int))=((0:Nat):Int) from rfl,SF z o ns (by omega) [] _ ns.length 0 (by omega),iR]
  by_cases h2:ns.all se=true
  ·rw[an h2,an h2,qa4];rfl
  ·rw[ai h2,ai h2,qa3]
theorem XS (z:Bool) (o:Own) (ns:List Int) (d:Option Nat) (m:af):aD (AP ae) d m 11 [IA z o ns]=some (.int .i64 (om ns),m):=by
 rw[cJ (mG z o ns),V12];rfl
theorem xV {ns:List Int} (h:om ns=0):ns.length<=16/\∀ a∈ns,1<=a/\a<=64:=by
 unfold om at h
 split at h
 ·cases h
 ·split at h
  ·rename_i h1 h2;exact ⟨by omega,fun a ha=>by have:=ga.1 h2 a ha;exact sV this⟩
  ·cases h
def ml (most:Int):Int->List Int->Int
 | acc,[]=>acc
 | acc,n::l=>if acc * n > most then 0 else ml most (acc * n) l
theorem SI (z:Bool) (o:Own) (ns:List Int) (hl:ns.length<=16) (hb:∀ a∈ns,1<=a/\a<=64) (most:Int) (hm:0<=most/\most<=1048576) (m:af):∀ (j i:Nat) (acc:Int),i+j=ns.length->1<=acc->acc<=most\/acc=1 ->
  FZ (.int .i64 most) (.int .i64 acc) (IA z o ns) (.int .i64 ns.length) (.int .i64 i) m (Fk (aE ae.P f12.results.toList))=some (.int .i64 (ml most acc (ns.drop i)),m)
 | 0,i,acc,h,h1,h2=>by
  rw[Ql,cX,aa,aA,ai (by omega),jo (by omega),qbs];rfl
 | j+1,i,acc,h,h1,h2=>by
  have hi:i < ns.length:=by omega
  have ha:=hb ns[i] (bS hi);have p1:acc * ns[i]<=1048576 * 64:=Int.mul_le_mul (by omega) ha.2 (by omega) (by omega)
  have p2:1<=acc * ns[i]:=by
   have:=Int.mul_le_mul h1 ha.1 (by omega) (by omega);simpa using this
  rw[Ql,cX,aa,aA,an hi,jB hi,aa,fV,aa,we,aa,iQ (by omega) (by omega),ir,aa,aA,kT hi,ml]
  by_cases h3:acc * ns[i] > most
  ·rw[an h3,an h3,qbr]
  ·rw[ai h3,ai h3,cB (by omega),aa];exact SI z o ns hl hb most hm m j (i+1) _ (by omega) p2 (.inl (by omega))
theorem V27 (z:Bool) (o:Own) (ns:List Int) (hl:ns.length<=16) (hb:∀ a∈ns,1<=a/\a<=64) (most:Int) (hm:0<=most/\most<=1048576):AP ae 12 [IA z o ns,.int .i64 most]=some (.int .i64 (ml most 1 ns)):=by
 refine iK (m:=[]) (v:=.int .i64 (ml most 1 ns)) (l:=[]) ?_ rfl rfl;rw[T12,iE,aa,show ((0:Int))=((0:Nat):Int) from rfl,SI z o ns hl hb most hm [] ns.length 0 1 (by omega) (by omega) (.inr rfl),iR]
theorem Ev (z:Bool) (o:Own) (ns:List Int) (hl:ns.length<=16) (hb:∀ a∈ns,1<=a/\a<=64) (most:Int) (hm:0<=most/\most<=1048576) (d:Option Nat) (m:af):aD (AP ae) d m 12 [IA z o ns,.int .i64 most]=some (.int .i64 (ml most 1 ns),m):=by
 rw[fG (mG z o ns) (gh _ _),V27 z _ ns hl hb most hm];rfl
theorem qhN (m:af) (z:Bool) (o:Own) (ns:List Int) (hl:ns.length<=1000000):∃ o' m',b8 none false 3 none 8 m (.lst none false .full []) (IA z o ns)=some (IA false o' ns,m')/\Fr m m' []/\(o'=.full/\ns=[]\/o'=.tok m.length 3):=by
 cases ns with
 | nil=>exact ⟨.full,m,rfl,Fr.refl _ _,.inl ⟨rfl,rfl⟩⟩
 | cons n ns=>
  have hb:(0+(ns.length+1)) * 8<=gG:=by unfold gG;simp at hl;omega
  refine ⟨.tok m.length 3,m++[some (Ent.tok (0+(ns.length+1)) 1)],?_,Fr.app m _ _,.inr rfl⟩;simp only[b8,gd,aP,aJ,bX,hb,bw,or_true,jX,me,az,bV,Sh.size]
  rfl
theorem Pa (z:Bool) (o:Own) (ns:List Int) (k:IntKind) (i:Nat) (h:i<=ns.length):nS none (IA z o ns) none (some (.int k i)) none=some (IA z .no (ns.take i)):=by
 simp[nS,qK,jy,h,Ah]
def kz (n:ND):Bool:=if n.var < 0 then true else false
def ko (n:ND):Own:=if n.var < 0 then .full else .no
theorem ua {n:ND} (h:n.ok):dP n=IA (kz n) (ko n) n.kids:=by
 unfold dP kz ko
 split
 ·rename_i hv
  rcases h with ⟨_,h2,_⟩ | ⟨h1,_⟩
  ·rw[h2];rfl
  ·omega
 ·rfl
theorem SM {m:af} {b1 b2:Nat} {a1 a2 c1 c2:AV} {z1 z2:Bool} {o1 o2:Own} {k1 k2:List Int} (hb1:m.get b1=some (Ent.obj true [a1,IA z1 o1 k1,c1])) (hb2:m.get b2=some (Ent.obj true [a2,IA z2 o2 k2,c2])) (hl:k1.length=k2.length) (iX:k1.length<=100000):∀ j i:Nat,i+j=k1.length ->
  Gb (.ptr b1 0) (.ptr b2 0) (.int .i64 k1.length) (.int .i64 i) m (Fm (aE ae.P f142.results.toList))=some (.bool (decide (k1.drop i=k2.drop i)),m)
 | 0,i,h=>by
  rw[Qu,bh,aa,aA,ai (by omega),jo (by omega),jo (by omega),qbU];rfl
 | j+1,i,h=>by
  have hi:i < k1.length:=by omega
  have hi2:i < k2.length:=by omega
  have x1:=jB (z:=z1) (o:=o1) (k:=.i64) hi;have x2:=jB (z:=z2) (o:=o2) (k:=.i64) hi2;have ih:=SM hb1 hb2 hl iX j (i+1) (by omega);rw[Qu,bh,aa,aA,an (by omega)]
  repeat ((with_reducible (first | apply bs | apply dJ));(focus (first | (simp (disch:=(first | assumption | omega | (simp only[aI,a8,aJ,aP];first | done | omega))) only[dH,beq_self_eq_true,cS,aa,Sh.size,bw,bP,Nat.reduceAdd,Nat.reduceLeDiff,aQ,hb1,hb2,x1,x2];first | done | rfl) | rfl));try dsimp only)
  rw[aA,kT hi,kT hi2]
  by_cases he:k1[i]=k2[i]
  ·rw[ai (by simpa using he),cB (by omega),aa,ih];congr 3;exact jS.2 (by rw[he];exact ⟨fun e=>by rw[e],fun e=>(List.cons.inj e).2⟩)
  ·rw[an he,qbT];congr 3;exact (dd (fun e=>he (List.cons.inj e).1)).symm
theorem V60 {a b:ND} (ha:a.ok) (hb:b.ok):AP ae 142 [a.av,b.av]=some (.bool (decide (a=b))):=by
 have ou:a.av=.agg [.int .i64 a.var,IA (kz a) (ko a) a.kids,.int .i64 a.leaf]:=by rw[ND.av,ua ha]
 have hbv:b.av=.agg [.int .i64 b.var,IA (kz b) (ko b) b.kids,.int .i64 b.leaf]:=by rw[ND.av,ua hb]
 have hl:∀ {n:ND},n.ok->n.kids.length<=64:=fun h=>by
  rcases h with ⟨_,h2,_⟩ | ⟨_,_,_,_,h5⟩
  ·rw[h2];simp
  ·exact h5
 have l1:=hl ha;have l2:=hl hb;rw[ou,hbv]
 have key:AC ae 142 [.agg [.int .i64 a.var,IA (kz a) (ko a) a.kids,.int .i64 a.leaf],.agg [.int .i64 b.var,IA (kz b) (ko b) b.kids,.int .i64 b.leaf]] []=some (.bool (decide (a=b)),[some (Ent.obj true [.int .i64 a.var,IA (kz a) (ko a) a.kids,.int .i64 a.leaf]),some (Ent.obj true [.int .i64 b.var,IA (kz b) (ko b) b.kids,.int .i64 b.leaf])]):=by
  rw[qfZ]
  repeat ((with_reducible (first | apply bs | apply dJ));(focus (first | (simp (disch:=(first | assumption | omega | (simp only[aI,a8,aJ,aP];first | done | omega))) only[dH,beq_self_eq_true,cS,aa,Sh.size,bw,bP,Nat.reduceAdd,Nat.reduceLeDiff,aQ,Aw,iE];first | done | rfl) | rfl));try dsimp only)
  rw[aA]
  by_cases h1:a.var=b.var
  ·rw[ai (by simpa using h1)]
   repeat ((with_reducible (first | apply bs | apply dJ));(focus (first | (simp (disch:=(first | assumption | omega | (simp only[aI,a8,aJ,aP];first | done | omega))) only[dH,beq_self_eq_true,cS,aa,Sh.size,bw,bP,Nat.reduceAdd,Nat.reduceLeDiff,aQ,Aw,iE];first | done | rfl) | rfl));try dsimp only)
   rw[aA]
   by_cases h2:a.leaf=b.leaf
   ·rw[ai (by simpa using h2)]
    repeat ((with_reducible (first | apply bs | apply dJ));(focus (first | (simp (disch:=(first | assumption | omega | (simp only[aI,a8,aJ,aP];first | done | omega))) only[dH,beq_self_eq_true,cS,aa,Sh.size,bw,bP,Nat.reduceAdd,Nat.reduceLeDiff,aQ,Aw,iE];first | done | rfl) | rfl));try dsimp only)
    rw[aA]
    by_cases h3:a.kids.length=b.kids.length
    ·rw[ai (by omega)]
     repeat ((with_reducible (first | apply bs | apply dJ));(focus (first | (simp (disch:=(first | assumption | omega | (simp only[aI,a8,aJ,aP];first | done | omega))) only[dH,beq_self_eq_true,cS,aa,Sh.size,bw,bP,Nat.reduceAdd,Nat.reduceLeDiff,aQ,Aw,iE];first | done | rfl) | rfl));try dsimp only)
     have w:=SM (m:=[some (Ent.obj true [.int .i64 a.var,IA (kz a) (ko a) a.kids,.int .i64 a.leaf])]++[some (Ent.obj true [.int .i64 b.var,IA (kz b) (ko b) b.kids,.int .i64 b.leaf])]) (b1:=0) (b2:=1) rfl rfl h3 (by omega) a.kids.length 0 (by omega);rw[iR,iR] at w;refine w.trans ?_;congr 3;refine jS.2 ⟨fun e=>?_,fun e=>by rw[e]⟩;obtain ⟨av,ak,al⟩:=a;obtain ⟨bv,bk,bl⟩:=b;simp only at h1 h2 e;rw[h1,h2,e]
    ·rw[an (by omega)];congr 3;exact (dd (fun e=>h3 (by rw[e]))).symm
   ·rw[an h2];congr 3;exact (dd (fun e=>h2 (by rw[e]))).symm
  ·rw[an h1];congr 3;exact (dd (fun e=>h1 (by rw[e]))).symm
 refine iK key rfl rfl
theorem qk3 (n:ND):Fz n.av n.av:=fun m=>by
 unfold ND.av dP;split<;>rfl
abbrev NL (z:Bool) (o:Own) (l:List ND):AV:=.lst (some 3) z o (l.map ND.av)
theorem Wz (z:Bool) (o:Own) (l:List ND):aO false (NL z o l)=some (.int .i64 l.length):=by rw[o0,bX]
theorem NN {z:Bool} {o:Own} {l:List ND} {i:Nat} (hi:i < l.length):aH (some 3) (NL z o l) (.int .i64 i)=some (.vptr [.int .i64 l[i].var,dP l[i],.int .i64 l[i].leaf]):=by
 simp[aH,hi];rfl
theorem Io (m:af) (n:ND):aj (some 3) m (.vptr [.int .i64 n.var,dP n,.int .i64 n.leaf])=some n.av:=rfl
end Go.Ab
namespace Go.Ab
open Go.Proofs Go.Proofs.Tryz
theorem Y0 {m:af} {k:Nat} {a b c a' b' c':AV} (h:m.get k=some (Ent.obj true [a,b,c])) (hs:c9 (some 3) (.agg [a',b',c'])=true):aL (some 3) m (.ptr k 0) (.agg [a',b',c'])=some (m.set k (some (Ent.obj true [a',b',c']))):=by
 rw[qL,h,kD,aa];simp[cS,Sh.size,hs,bP,AV.cells]
section
variable {m:af} {s:Nat} {F:List Nat} {arms:AV} {most:Int} {l:List ND}
def Wl (l:List ND):Prop:=∀ n∈l,¬ n.var < 0->n.kids≠[]
theorem ZV (k:Int) (m:af):AC ae 93 [.int .i64 k] m=some (.bool (!se k),m):=by
 rw[T93,bh,aa,aA]
 by_cases h1:k < 1
 ·rw[an h1,se,dd (by omega)];rfl
 ·rw[ai h1,ir,aa,se,<- decide_not];congr 3;exact jS.2 (by omega)
theorem qkf (z:Bool) (ns:List Int) (h:z=true->ns=[]):∃ z' o',xY z ns=IA z' o' ns/\(o'=.no\/o'=.full)/\(z'=true->ns=[]):=by
 cases z with
 | true=>rw[h rfl];exact ⟨true,.full,rfl,.inr rfl,fun _=>rfl⟩
 | false=>
  cases ns with
  | nil=>exact ⟨false,.full,rfl,.inr rfl,fun h=>by cases h⟩
  | cons n ns=>exact ⟨false,.no,rfl,.inl rfl,fun h=>by cases h⟩
theorem PE (m:af) (z:Bool) (o:Own) (ns:List Int) (hz:z=true->ns=[]) (he:om ns=0) :
  ∃ m' s F z' o',AC ae 32 [IA z o ns] m=some (.tup [.ptr s 0,.int .i64 0],m')/\dC m' s F (IA z' o' ns) 4000 []/\Fr m m' []/\(∀ x∈F,m.length<=x):=by
 obtain ⟨h1,h2⟩:=xV he;obtain ⟨m1,e47,f1⟩:=PH (m:=m) (z:=z) (o:=o) (ks:=ns) (g:=93) (caps:=[]) (p:=fun k=>!se k) (by omega) rfl rfl rfl (fun m1 k _=>⟨m1,ZV k m1,Fr.refl _ _⟩);have ha:ns.all se=true:=ga.2 fun a ha=>dD (h2 a ha);rw[S9,ha,kS] at e47;obtain ⟨z',o',ec,_,_⟩:=qkf z ns hz;have c49:=fun m=>OI z o ns (by omega) m;rw[ec] at c49;have l1:=f1.len
 refine ⟨(m1++[some (Ent.mp .str [])])++[some (Ent.obj true [IA z' o' ns,au,.mref m1.length,.int .i64 4000])],m1.length+1,[m1.length+1,m1.length],z',o',?_,?_,(f1.snoc _).snoc _,?_⟩
 ·have hb:gm (.agg [au,au,.nilm,(.int .i64 0)]) [(0,none,IA z' o' ns),(2,none,(.mref m1.length)),(3,none,(.int .i64 4000))]=some (.agg [IA z' o' ns,au,.mref m1.length,.int .i64 4000]):=rfl;have hx:∀ m,dI none (some 4) m (.agg [IA z' o' ns,au,.mref m1.length,.int .i64 4000])=some (.ptr m.length 0,m++[some (Ent.obj true [IA z' o' ns,au,.mref m1.length,.int .i64 4000])]):=fun m=>rfl;rw[T32,iE,aa,ir,aa,aA,ai (by omega),e47,aa,iC]
  repeat ((with_reducible (first | apply bs | apply dJ));(focus (first | (simp (disch:=(first | assumption | omega | (simp only[aI,a8,aJ,aP];first | done | omega))) only[dH,beq_self_eq_true,cS,aa,Sh.size,bw,bP,Nat.reduceAdd,Nat.reduceLeDiff,aQ,c49,hb,hx];first | done | rfl) | rfl));try dsimp only)
 ·refine ⟨m1.length,au,[],⟨(by simp (disch:=(first | assumption | omega | (simp only[aI,a8,aJ,aP];first | done | omega))) only[gM,bY,bJ,cG,c8];first | done | rfl),(by simp (disch:=(first | assumption | omega | (simp only[aI,a8,aJ,aP];first | done | omega))) only[gM,bY,bJ,cG,c8];first | done | rfl),.none,by simp,by omega,by simp⟩,rfl⟩
 ·intro x hx;simp only[gE,CE,or_false] at hx;omega
end
inductive NR (e:Nat) (m:af):AV->List ND->List Nat->Prop
 | none:NR e m au [] []
 | some (t:Nat) (l:List ND) (ht:m.get t=some (.tok l.length 3)):NR e m (.lst (some 3) false (.tok t e) (l.map ND.av)) l [t]
theorem vB {e:Nat} {m m':af} {x:AV} {l:List ND} {T:List Nat} (h:NR e m x l T) (f:∀ k∈T,m'.get k=m.get k):NR e m' x l T:=by
 cases h with
 | none=>exact .none
 | some t l ht=>exact .some t l ((f t (by simp)).trans ht)
theorem vA {e:Nat} {m:af} {x:AV} {l:List ND} {T:List Nat} (h:NR e m x l T):∀ k∈T,k < m.length:=by
 cases h with
 | none=>simp
 | some t l ht=>
   intro k hk;obtain rfl:k=t:=by simpa using hk
   exact bF ht
theorem Oz {e:Nat} {m:af} {x:AV} {l:List ND} {T:List Nat} (h:NR e m x l T):aO false x=some (.int .i64 l.length):=by
 cases h with
 | none=>rfl
 | some t l ht=>rw[o0,bX]
theorem qnE {e:Nat} {m:af} {x:AV} {l:List ND} {T:List Nat} (h:NR e m x l T) {i:Nat} (hi:i < l.length):aH (some 3) x (.int .i64 i)=some (.vptr [.int .i64 l[i].var,dP l[i],.int .i64 l[i].leaf]):=by
 cases h with
 | none=>simp at hi
 | some t l ht=>exact NN hi
theorem qj0 (n:ND):dO (some 3) [n.av]=some (NL false .full [n]):=by
 show dO (some 3) [.agg [.int .i64 n.var,dP n,.int .i64 n.leaf]]=some (.lst (some 3) false .full [.agg [.int .i64 n.var,dP n,.int .i64 n.leaf]]);unfold dP;split<;>rfl
theorem V0 {n:ND}:∀ {l:List ND} {i:Nat} (hi:i < l.length),l[i]=n->(∀ t (ht:t < l.length),t < i->l[t]≠n)->l.idxOf n=i
 | [],i,hi,_,_=>by simp at hi
 | x::l,0,_,h,_=>by
  have h:x=n:=h;rw[h];simp
 | x::l,i+1,hi,h,hne=>by
  have hx:x≠n:=hne 0 (by simp) (by omega)
  rw[List.idxOf_cons,cond_eq_ite,ai (by simpa using hx),V0 (l:=l) (i:=i) (by simpa using hi) (by simpa using h) (fun t ht hti=>by
   have:=hne (t+1) (by simpa using ht) (by omega)
   simpa using this)]
end Go.Ab
namespace Go.Ab
noncomputable section
open Go.Proofs.Tryz
theorem T15 (a0 a1:AV) (m:af):AC ae 15 [a0,a1] m=(AC ae 32 [a0] m).bind fun r1=>(aY r1.1 0).bind fun v2=>(aY r1.1 1).bind fun v3=>(ag .other .neq v3 (.int .i64 0)).bind fun v4=>aw v4 (some ((.tup [.nilp,(.int .i64 0),(.bool false)]),r1.2)) ((AC ae 62 [v2,a0,a1,(.int .i64 0)] r1.2).bind fun r5=>(aY r5.1 0).bind fun v6=>(aY r5.1 1).bind fun v7=>(ag .other .eql v7 (.int .i64 0)).bind fun v8=>some ((.tup [v2,v6,v8]),r5.2)):=
(bm ae 15 [a0,a1] m (fn:=f15) (c:=aB f15) qiu rfl).trans (by kernel_rfl)
def RB (x0 x3 aF:AV) (m:af):St:=⟨(x0::aK (x3::aM (aK (aF::bI (bC (aW (aM []))))))),m⟩
def qfA (x8 x9:AV) (m:af):St:=⟨(aW (x8::x9::bI (bC (aW (aM (aG [])))))),m⟩
def zY (x0 x1 x2 x3 aF aZ aN:AV) (m:af) (K:KT):OM:=ck 62 (b9 (bo (aB f62))) 6 (x0::x1::x2::x3::aM (aK (aF::aZ::aN::bI (bC (aW (aK [])))))) m K
abbrev qek (K:KT):KT:=bE 62 (bo (c2 (aB f62))) K
abbrev qel (K:KT):KT:=bz 0 (qek K)
abbrev Cb (K:KT):KT:=(qel K)
theorem R0 (a0 a1 a2 a3:AV) (m:af):AC ae 62 [a0,a1,a2,a3] m=(aO false a1).bind fun v1=>(ag .other .eql a3 v1).bind fun v2=>aw v2 ((aH none a2 (.int .i64 0)).bind fun v3=>(aj none m v3).bind fun v4=>(AC ae 33 [a0,v4] m).bind fun r5=>(aY r5.1 0).bind fun v6=>(aY r5.1 1).bind fun v7=>some ((.tup [v6,v7]),r5.2)) ((aO false a2).bind fun v8=>(aH none a1 a3).bind fun v9=>(aj none m v9).bind fun v10=>(ag .other .quo v8 v10).bind fun v11=>zY a0 a1 a2 a3 au v11 (.int .i64 0) m (Cb (aE ae.P f62.results.toList))):=
(bm ae 62 [a0,a1,a2,a3] m (fn:=f62) (c:=aB f62) qjl rfl).trans (by kernel_rfl)
theorem Q5 (x0 x1 x2 x3 aF aZ aN:AV) (m:af) (K:KT):zY x0 x1 x2 x3 aF aZ aN m K=(aH none x1 x3).bind fun v1=>(aj none m v1).bind fun v2=>(ag .other .lss aN v2).bind fun v3=>aw v3 ((ag .other .mul aN aZ).bind fun v4=>(ag .other .add aN (.int .i64 1)).bind fun v5=>(ag .other .mul v5 aZ).bind fun v6=>(nS none x2 (some v4) (some v6) none).bind fun v7=>(ag .other .add x3 (.int .i64 1)).bind fun v8=>(AC ae 62 [x0,x1,v7,v8] m).bind fun r9=>(aY r9.1 0).bind fun v10=>(aY r9.1 1).bind fun v11=>(ag .other .neq v11 (.int .i64 0)).bind fun v12=>aw v12 (K .ret (qfA (.int .i64 0) v11 r9.2)) ((dO none [v10]).bind fun bu=>(b8 none false 3 none 8 r9.2 aF bu).bind fun jK=>(ag .other .add aN (.int .i64 1)).bind fun br=>zY x0 x1 x2 x3 jK.1 aZ br jK.2 K)) (K (.exit 0) (RB x0 x3 aF m)):=
(cg (bW _) _ _ _).trans (by kernel_rfl)
theorem qem (x0 x3 aF:AV) (m:af):Cb (aE ae.P f62.results.toList) (.exit 0) (RB x0 x3 aF m)=(AC ae 34 [x0,x3,aF] m).bind fun r1=>(aY r1.1 0).bind fun v2=>(aY r1.1 1).bind fun v3=>some ((.tup [v2,v3]),r1.2):=by kernel_rfl
def qfo (aN aV bL x79 x80:AV) (m:af) (K:KT):OM:=ck 3 (b9 (bo (bo (bo (aB f3))))) 17 (aW (aM (aN::aG (aV::bL::bI (bC (aW (aM (aK (aG (x79::x80::bI (aW (aG [])))))))))))) m K
abbrev qdC (K:KT):KT:=bE 3 (bo (bo (bo (c2 (aB f3))))) K
abbrev qdD (K:KT):KT:=bz 0 (qdC K)
abbrev qdB (K:KT):KT:=(qdD K)
theorem T3 (a0 a1 a2:AV) (m:af):AC ae 3 [a0,a1,a2] m=(aD (AP ae) none m 10 [a0]).bind fun r1=>(aD (AP ae) none r1.2 11 [r1.1]).bind fun r2=>(ag .other .neq r2.1 (.int .i64 0)).bind fun v3=>aw v3 ((aD (AP ae) none r2.2 13 []).bind fun r4=>some (r4.1,r4.2)) ((aD (AP ae) none r2.2 12 [r1.1,(.int .i64 100)]).bind fun r5=>(ag .other .eql r5.1 (.int .i64 0)).bind fun v6=>aw v6 ((aD (AP ae) none r5.2 13 []).bind fun r7=>some (r7.1,r7.2)) ((aD (AP ae) none r5.2 14 [r1.1,a1]).bind fun r8=>(AC ae 15 [r1.1,r8.1] r8.2).bind fun r9=>(aY r9.1 0).bind fun v10=>(aY r9.1 1).bind fun v11=>(aY r9.1 2).bind fun v12=>(jN .not v12).bind fun bu=>aw bu (some ((.bool false),r9.2)) ((aD (AP ae) none r9.2 16 [r1.1,a2]).bind fun jK=>(AC ae 17 [v10,v11,jK.1] jK.2).bind fun nP=>(aY nP.1 0).bind fun bT=>(aY nP.1 1).bind fun bH=>(aD (AP ae) none nP.2 18 [r1.1,jK.1]).bind fun gD=>(jN .not gD.1).bind fun dG=>aw dG ((ag .other .eql bH (.int .i64 1)).bind fun v20=>aw v20 ((aO false bT).bind fun v21=>(ag .other .eql v21 (.int .i64 0)).bind fun v22=>aw v22 ((aD (AP ae) none gD.2 13 []).bind fun kP=>some (kP.1,kP.2)) (some ((.bool false),gD.2))) (some ((.bool false),gD.2))) ((aD (AP ae) none gD.2 19 [r1.1,r8.1,jK.1]).bind fun mo=>(aD (AP ae) none mo.2 20 []).bind fun mO=>(aL (some 3) (az none mO.2 (.obj true [(.bool false),au,au])).2 (.ptr (az none mO.2 .resv).1 0) mO.1).bind fun m26=>(ag .other .neq bH (.int .i64 0)).bind fun kh=>aw kh (some ((.bool false),m26)) ((aO false bT).bind fun v28=>(aO false mo.1).bind fun kR=>(ag .other .neq v28 kR).bind fun v30=>aw v30 (some ((.bool false),m26)) ((aO false bT).bind fun v31=>qfo bT mo.1 (.ptr (az none mO.2 .resv).1 0) v31 (.int .i64 0) m26 (qdB (aE ae.P f3.results.toList)))))))):=
(bm ae 3 [a0,a1,a2] m (fn:=f3) (c:=aB f3) at3 rfl).trans (by kernel_rfl)
end
end Go.Ab
namespace Go.Ab
open Go.Proofs Go.Proofs.Tryz
theorem Om {tk:TK} {a b:Nat} (h:b≠0):ag tk .rem (.int .i64 a) (.int .i64 b)=some (.int .i64 (a % b:Nat)):=by
 have e:ag tk .rem (.int .i64 a) (.int .i64 b)=if (b:Int)=0 then none else some (.int .i64 ((a:Int).tmod b)):=by cases tk<;>rfl
 rw[e,ai (by omega)]
 rfl
theorem Ol {tk:TK} {a b:Nat} (h:b≠0) (h':a < 9223372036854775808):ag tk .quo (.int .i64 a) (.int .i64 b)=some (.int .i64 (a / b:Nat)):=by
 have e:ag tk .quo (.int .i64 a) (.int .i64 b)=if (b:Int)=0 then none else some (.int .i64 (IntKind.wrap .i64 ((a:Int).tdiv b))):=by cases tk<;>rfl
 rw[e,ai (by omega)];have e2:(a:Int).tdiv b=((a / b:Nat):Int):=rfl;have:=xM a b;rw[e2];generalize a / b=q at *;rw[iQ (by omega) (by omega)]
theorem Br {tk:TK} {a b:Nat} (h:a * b < 9223372036854775808):ag tk .mul (.int .i64 a) (.int .i64 b)=some (.int .i64 (a * b:Nat)):=by
 rw[we,<- qR];generalize a * b=q at *;rw[iQ (by omega) (by omega)]
inductive GR (e:Nat) (m:af):AV->List AV->List Nat->Prop
 | none:GR e m au [] []
 | some (t:Nat) (es:List AV) (ht:m.get t=some (.tok es.length 1)) (hne:es≠[]):GR e m (.lst none false (.tok t e) es) es [t]
theorem Dv {e:Nat} {m m':af} {x:AV} {l:List AV} {T:List Nat} (h:GR e m x l T) (f:∀ k∈T,m'.get k=m.get k):GR e m' x l T:=by
 cases h with
 | none=>exact .none
 | some t l ht hne=>exact .some t l ((f t (by simp)).trans ht) hne
theorem AK {e:Nat} {m:af} {x:AV} {l:List AV} {T:List Nat} (h:GR e m x l T):∀ k∈T,k < m.length:=by
 cases h with
 | none=>simp
 | some t l ht _=>
  intro k hk;obtain rfl:k=t:=by simpa using hk
  exact bF ht
theorem Dw {e:Nat} {m:af} {x:AV} {l:List AV} {T:List Nat} (h:GR e m x l T):∃ z o,x=.lst none z o l/\(z=true->l=[]):=by
 cases h with
 | none=>exact ⟨true,.full,rfl,fun _=>rfl⟩
 | some t l ht _=>exact ⟨false,.tok t e,rfl,fun h=>by cases h⟩
theorem AJ {e b:Nat} {m:af} {x:AV} {l:List AV} {T:List Nat} (h:GR e m x l T) (hl:l.length < 1000000) (hb:b<=64) (y:AV):∃ x' m' T',b8 none false e none b m x (.lst none false .full [y])=some (x',m')/\GR e m' x' (l++[y]) T'/\Fr m m' T/\Gr m T T':=by
 have h2:(l.length+1) * b<=gG:=by
  have:=qX (show l.length+1<=1000000 by omega) hb;unfold gG;omega
 cases h with
 | none=>
  refine ⟨.lst none false (.tok m.length e) [y],m++[some (Ent.tok 1 1)],[m.length],?_,.some _ [y] (by simp (disch:=(first | assumption | omega | (simp only[aI,a8,aJ,aP];first | done | omega))) only[gM,bY,bJ,cG,c8];first | done | rfl) (by simp),Fr.app m _ _,fun k hk=>?_⟩
  ·have h2:b<=gG:=by simpa using h2
   simp[b8,h2,az,Sh.size]
  ·obtain rfl:k=m.length:=by simpa using hk
   exact .inr (aQ _)
 | some t es ht _=>
  have gy:=bF ht
  refine ⟨.lst none false (.tok t e) (l++[y]),m.set t (some (Ent.tok (l.length+1) 1)),[t],?_,?_,(Fr.refl m [t]).set _ (.inl (by simp)),Gr.refl _ _⟩
  ·simp[b8,ht,Sh.size,h2]
  ·refine .some t (l++[y]) ?_ (by simp);rw[c8 rfl gy,aI];rfl
theorem X5 {most:Int}:∀ (l:List Int) (acc:Int),(∀ a∈l,1<=a)->1<=acc->acc<=most->ml most acc l≠0->ml most acc l=acc * bj l/\acc * bj l<=most
 | [],acc,_,h1,h2,_=>by simp only[ml,bj];omega
 | n::l,acc,hl,h1,h2,h=>by
  rw[ml] at h ⊢;have hn:=hl n fN
  by_cases hg:acc * n > most
  ·rw[an hg] at h;exact absurd rfl h
  ·rw[ai hg] at h ⊢;have hp:1<=acc * n:=by have:=Int.mul_le_mul h1 hn (by omega) (by omega);simpa using this
   have e:=X5 l (acc * n) (fun a ha=>hl a (fJ _ ha)) hp (by omega) h
   have e2:acc * ((bj (n::l):Nat):Int)=acc * n * bj l:=by
    rw[bj,qR,Int.toNat_of_nonneg (by omega),Int.mul_assoc]
   rw[e2];exact e
theorem Ew {l:List Int} (h:∀ a∈l,1<=a):1<=bj l:=by
 induction l with
 | nil=>exact aQ _
 | cons n l ih=>
  rw[bj];have h1:=h n fN;exact Nat.mul_pos (by omega) (ih fun a ha=>h a (fJ _ ha))
theorem X4 {most:Int}:∀ (l:List Int) (acc:Int),(∀ a∈l,1<=a)->1<=acc->acc * bj l<=most->ml most acc l=acc * bj l
 | [],acc,_,h1,_=>by simp[ml,bj]
 | n::l,acc,hl,h1,h=>by
  have hn:=hl n fN
  have e2:acc * ((bj (n::l):Nat):Int)=acc * n * bj l:=by
   rw[bj,qR,Int.toNat_of_nonneg (by omega),Int.mul_assoc]
  rw[e2] at h ⊢;have hp:1<=acc * n:=by have:=Int.mul_le_mul h1 hn (by omega) (by omega);simpa using this
  have wG:=Ew fun a ha=>hl a (fJ n ha);have h3:acc * n * 1<=acc * n * (bj l:Nat):=Int.mul_le_mul_of_nonneg_left (by omega) (by omega);rw[ml,ai (by omega)];exact X4 l (acc * n) (fun a ha=>hl a (fJ _ ha)) hp h
theorem L5 (z:Bool) (o:Own) (t:List Int) (k:IntKind) {n i:Nat} (h:(i+1) * n<=t.length):nS none (IA z o t) (some (.int k (i * n:Nat))) (some (.int k ((i+1) * n:Nat))) none=some (IA z .no (part t n i)):=by
 have h2:i * n<=(i+1) * n:=iM _ (by omega);have e:(i+1) * n - i * n=n:=by rw[gO,px];omega
 have e2:part t n i=(t.take ((i+1) * n)).drop (i * n):=by rw[List.drop_take,e];rfl
 rw[e2]
 have e3:nS none (IA z o t) (some (.int k (i * n:Nat))) (some (.int k ((i+1) * n:Nat))) none=(jy (List.map (AV.int .i64) t).length (some (.int k ((i+1) * n:Nat))) (List.map (AV.int .i64) t).length).bind fun h=>(jy h (some (.int k (i * n:Nat))) 0).bind fun l=>some (.lst none z .no (((List.map (AV.int .i64) t).take h).drop l)):=by
  have e4:∀ (es:List AV) (x y:Option AV),nS none (.lst none z o es) x y none=if (none:Sh)=none\/es=[] then (jy es.length y es.length).bind fun h=>(jy h x 0).bind fun l=>some (.lst none z .no ((es.take h).drop l)) else none:=fun _ _ _=>rfl
  rw[e4,an (.inl rfl)]
 rw[e3]
 have b1:jy (List.map (AV.int .i64) t).length (some (.int k ((i+1) * n:Nat))) (List.map (AV.int .i64) t).length=some ((i+1) * n):=by
  simp only[jy,bX];rw[an ⟨by omega,by omega⟩,cK]
 have b2:jy ((i+1) * n) (some (.int k (i * n:Nat))) 0=some (i * n):=by
  simp only[jy];rw[an ⟨by omega,by omega⟩,cK]
 rw[b1,aa,b2,aa,<- Ah,<- List.map_drop]
def PS (s:Nat) (zs za:Bool) (os oa:Own) (ar:List Int) (v n:Nat):Prop:=
 ∀ (m:af) (F:List Nat) (l:List ND) (t:List Int) (z:Bool) (o:Own),dC m s F (IA zs os ar) 4000 l->GoodL ar l->t.length=n->(∀ x∈t,0<=x/\x<=4)->l.length+2 * n<=4000->∃ (m':af) (F':List Nat) (r:List ND) (id:Nat),AC ae 62 [.ptr s 0,IA za oa ar,IA z o t,.int .i64 v] m=some (.tup [.int .i64 (id:Nat),.int .i64 0],m') /\
  dC m' s F' (IA zs os ar) 4000 (l++r)/\GoodL ar (l++r)/\TabV ar (l++r) id v t/\r.length+1<=2 * t.length/\Fr m m' F/\Gr m F F'
theorem qhj {s:Nat} {zs za z:Bool} {os oa o:Own} {ar t:List Int} {v n a:Nat} (hv:v < ar.length) (ha:ar[v]=(a:Int)) (h1:∀ x∈ar,1<=x/\x<=64) (cH:ar.length<=16) (ht:t.length=a * n) (hn:n=bj (ar.drop (v+1))) (lR:1<=n) (gy:t.length<=300) (hx:∀ x∈t,0<=x/\x<=4)
  {l0:List ND} (vd:l0.length+2 * t.length<=4000) {m0:af} {F0:List Nat} (ih:PS s zs za os oa ar (v+1) n) :
  ∀ (j k:Nat) (m:af) (F:List Nat) (R:List ND) (ids:List Nat) (x:AV) (T:List Nat),k+j=a->dC m s F (IA zs os ar) 4000 (l0++R)->GoodL ar (l0++R)->ids.length=k->(∀ i (h:i < ids.length),TabV ar (l0++R) ids[i] (v+1) (part t n i))->R.length+k<=2 * n * k ->
   GR 3 m x ((ids.map Int.ofNat).map (AV.int .i64)) T->(∀ y∈T,y∉F/\m0.length<=y)->Fr m0 m F0->Gr m0 F0 F ->
   ∃ (m':af) (F':List Nat) (r:List ND) (id:Nat),zY (.ptr s 0) (IA za oa ar) (IA z o t) (.int .i64 v) x (.int .i64 n) (.int .i64 k) m (Cb (aE ae.P f62.results.toList))=some (.tup [.int .i64 (id:Nat),.int .i64 0],m') /\
    dC m' s F' (IA zs os ar) 4000 (l0++r)/\GoodL ar (l0++r)/\TabV ar (l0++r) id v t/\r.length+1<=2 * t.length/\Fr m0 m' F0/\Gr m0 F0 F':=by
 have lL:=h1 _ (bS hv);have aU:ar.getD v 0=(a:Int):=by rw[aS,bD hv,dh,ha]
 have gW:aH none (IA za oa ar) (.int .i64 v)=some (.vptr [.int .i64 a]):=by rw[jB hv,ha]
 intro j
 induction j with
 | zero=>
  intro k m F R ids x T hk h g uY htab hR iu hT f gr;obtain rfl:k=a:=by omega
  obtain ⟨xz,xo,rfl,hxz⟩:=Dw iu;have hb:R.length+k<=2 * t.length:=by rw[ht,cM k n,<- dZ];exact hR
  have bO:∀ i∈ids,∃ h:i < (l0++R).length,(v:Int) < fD ar.length (l0++R)[i]:=fun i hi=>by
   obtain ⟨q,hq,e⟩:=pv hi;have:=htab q hq;rw[e] at this;exact ⟨this.lt,by have:=this.top this.lt;omega⟩
  have eE:(l0++R).length < 4000:=by rw[aI];omega
  obtain ⟨r1,id,er,Nu,wO,g2,tv⟩:=qpv g h1 cH hv (ks:=ids) (t:=t) (by rw[uY,aU]) (by rw[ht,uc hv,aU,hn];rfl) (fun q hq=>by rw[<- hn];exact htab q hq) (by omega)
  have mk:vt ar (l0++R) v (ids.map Int.ofNat)=(((id:Int),0),(l0++R)++r1):=by
   unfold vt;rw[an,er];refine ⟨by omega,by omega,by rw[cK,aU,bX,uY],ga.2 fun q hq=>?_⟩;obtain ⟨i,hi,rfl⟩:=jf.1 hq;obtain ⟨hi1,hi2⟩:=bO i hi;unfold tZ;simp only[b7,oq];refine ⟨⟨rQ i,show (i:Int) < ((l0++R).length:Nat) by omega⟩,?_⟩;have:(Int.ofNat i).toNat=i:=rfl;rw[this,aS,bD hi1,dh];exact hi2
  obtain ⟨m2,F2,e17,k1,k2,k3⟩:=ZP (kz:=xz) (ko:=xo) (ks:=ids.map Int.ofNat) h v (fun hh=>Ag.1 (hxz hh)) h1 cH (by rw[bX];omega) (by omega) (by omega);rw[mk] at e17 k1;have e17:AC ae 34 [.ptr s 0,.int .i64 v,.lst none xz xo ((ids.map Int.ofNat).map (AV.int .i64))] m=_:=e17
  refine ⟨m2,F2,R++r1,id,?_,by rw[<- gA];exact k1,by rw[<- gA];exact g2,by rw[<- gA];exact tv,?_,Fr.trans f k2 gr,Gr.trans f.len gr k3⟩
  ·rw[Q5,gW,aa,fV,aa,cX,aa,aA,ai (by omega),qem,e17,aa]
   rfl
  ·rw[aI]
   by_cases hk1:ids.length=1
   ·rw[wO hk1];simp;omega
   ·omega
 | succ j ihj=>
  intro k m F R ids x T hk h g uY htab hR iu hT f gr;have u7:k < a:=by omega
  have sG:(k+1) * n<=t.length:=by rw[ht];exact iM _ (by omega)
  have Vs:k * n<=(k+1) * n:=iM _ (by omega);have hpl:(part t n k).length=n:=part_len ht u7
  have UM:R.length+k+2 * n<=2 * t.length:=by
   have:2 * n * k+2 * n<=2 * t.length:=by
    have e:2 * n * k+2 * n=2 * ((k+1) * n):=by rw[gO,px,gB,dZ,cM n k]
    omega
   omega
  obtain ⟨m1,F1,r1,id,e30,k1,k2,k3,k4,k5,k6⟩:=ih m F (l0++R) (part t n k) z .no h g hpl (fun y hy=>hx y (qn0 y hy)) (by rw[aI];omega);rw[hpl] at k4;have g1:GR 3 m1 x ((ids.map Int.ofNat).map (AV.int .i64)) T:=Dv iu fun y hy=>k5.get y (AK iu y hy) (hT y hy).1;obtain ⟨x2,m2,T2,ea,g2,f2,gg2⟩:=AJ (b:=8) g1 (by simp;omega) (by omega) (.int .i64 (id:Nat))
  have UN:∀ y∈T,y∉F1:=fun y hy hF=>by
   rcases k6 y hF with hh | hh
   ·exact (hT y hy).1 hh
   ·have:=AK iu y hy;omega
  have st2:dC m2 s F1 (IA zs os ar) 4000 (l0++(R++r1)):=by
   rw[<- gA];exact k1.fr f2 fun y hy hT'=>UN y hT' hy
  have e0:zY (.ptr s 0) (IA za oa ar) (IA z o t) (.int .i64 v) x (.int .i64 n) (.int .i64 k) m (Cb (aE ae.P f62.results.toList))=zY (.ptr s 0) (IA za oa ar) (IA z o t) (.int .i64 v) x2 (.int .i64 n) (.int .i64 (k+1:Nat)) m2 (Cb (aE ae.P f62.results.toList)):=by
   rw[Q5,gW,aa,fV,aa,cX,aa,aA,an u7,Br (by omega),aa,cB (by omega),aa,Br (by omega),aa,L5 z o t .i64 sG,aa,cB (by omega),aa,e30,aa,rj,aa,rl,aa,jg,aa,aA,ai (by simp),rh,aa,ea,aa,aa]
  rw[e0]
  refine ihj (k+1) m2 F1 (R++r1) (ids++[id]) x2 T2 (by omega) st2 (by rw[<- gA];exact k2) (by simp[uY]) (fun i hi=>?_) ?_ (by rw[kU,kU];exact g2) (fun y hy=>?_) (Fr.trans (Fr.trans f k5 gr) f2 fun y hy=>.inr (hT y hy).2) (Gr.trans f.len gr k6)
  ·rw[<- gA]
   by_cases hi2:i < ids.length
   ·rw[List.getElem_append_left hi2];exact (htab i hi2).app g r1
   ·have:i=ids.length:=by simp at hi;omega
    subst this;have e:(ids++[id])[ids.length]'(by simp)=id:=by simp
    rw[e,uY];exact k3
  ·rw[aI,gB,kV];omega
  ·rcases gg2 y hy with hh | hh
   ·exact ⟨UN y hh,(hT y hh).2⟩
   ·have l1:=f.len;have l2:=k5.len;exact ⟨fun hF=>by have:=k1.lt y hF;omega,by omega⟩
theorem ZT {s:Nat} {zs za:Bool} {os oa:Own} {ar:List Int} (h1:∀ x∈ar,1<=x/\x<=64) (cH:ar.length<=16) (hp:bj ar<=300):∀ (d v:Nat),v+d=ar.length->bj (ar.drop v)<=300->PS s zs za os oa ar v (bj (ar.drop v)):=by
 intro d
 induction d with
 | zero=>
  intro v hv wN m F l t z o h g ht hx hl;obtain rfl:v=ar.length:=by omega
  rw[List.drop_length] at ht hl;have ht:t.length=1:=ht;obtain ⟨y,rfl⟩:∃ y,t=[y]:=List.length_eq_one_iff.1 ht;have hy:=hx y (by simp);have hl:l.length+2<=4000:=hl;obtain ⟨r,er,hr,g2,tv⟩:=Ww g (x:=y) ⟨hy.1,by omega⟩;obtain ⟨m2,F2,e15,k1,k2,k3⟩:=ZO h y (by omega) (by omega);rw[wW,an ⟨hy.1,by omega⟩] at e15 k1;dsimp only at e15 k1;rw[er] at k1;refine ⟨m2,F2,r,_,?_,k1,g2,tv,by simp;omega,k2,k3⟩;rw[R0,iE,aa,El,aa,aA,an rfl,Ea (by simp),aa,fV,aa];have e15:AC ae 33 [.ptr s 0,.int .i64 [y][0]] m=_:=e15;rw[e15,aa]
  rfl
 | succ d ih=>
  intro v hv wN m F l t z o h g ht hx hl;have fS:v < ar.length:=by omega
  have lL:=h1 _ (bS fS);obtain ⟨a,ha⟩:=nA (by omega:0<=ar[v]);have aU:ar.getD v 0=(a:Int):=by rw[aS,bD fS,dh,ha]
  have sK:bj (ar.drop v)=a * bj (ar.drop (v+1)):=by rw[uc fS,aU];rfl
  have lR:1<=bj (ar.drop (v+1)):=Ew fun x hx=>(h1 x (List.drop_subset _ _ hx)).1
  have hle:bj (ar.drop (v+1))<=bj (ar.drop v):=by
   rw[sK];exact Nat.le_mul_of_pos_left _ (by omega)
  have ihv:=ih (v+1) (by omega) (by omega);have yN:t.length=a * bj (ar.drop (v+1)):=by rw[ht,sK]
  obtain ⟨m',F',r,id,e,k⟩:=qhj (z:=z) (o:=o) (m0:=m) (F0:=F) fS ha h1 cH yN rfl lR (by omega) hx (l0:=l) (by omega) ihv a 0 m F [] [] au [] (by omega) (by rw[cm];exact h) (by rw[cm];exact g) rfl (fun i hi=>by simp at hi) (by simp) .none (by simp) (Fr.refl _ _) (Gr.refl _ _);refine ⟨m',F',r,id,?_,k⟩;have gW:aH none (IA za oa ar) (.int .i64 v)=some (.vptr [.int .i64 a]):=by rw[jB fS,ha]
  have hdiv:t.length / a=bj (ar.drop (v+1)):=by rw[yN,Nat.mul_div_cancel_left _ (by omega)]
  rw[R0,iE,aa,El,aa,aA,ai (by omega),iE,aa,gW,aa,fV,aa,Ol (by omega) (by omega),aa,hdiv];exact e
theorem ZS {za z:Bool} {oa o:Own} {ar t:List Int} (m:af) (hz:za=true->ar=[]) (he:om ar=0) (hp:bj ar<=300) (ht:t.length=bj ar) (hx:∀ x∈t,0<=x/\x<=4) :
  ∃ m' s F zs os l id,AC ae 15 [IA za oa ar,IA z o t] m=some (.tup [.ptr s 0,.int .i64 (id:Nat),.bool true],m')/\dC m' s F (IA zs os ar) 4000 l/\GoodL ar l/\TabV ar l id 0 t/\l.length<=600/\Fr m m' []/\∀ x∈F,m.length<=x:=by
 obtain ⟨h1,h2⟩:=xV he;obtain ⟨m1,s,F,zs,os,e14,st,f1,hF⟩:=PE m za oa ar hz he;obtain ⟨m2,F2,r,id,e30,k1,k2,k3,k4,k5,k6⟩:=ZT (s:=s) (zs:=zs) (za:=za) (os:=os) (oa:=oa) h2 h1 hp ar.length 0 (by omega) hp m1 F [] t z o st MA ht hx (by simp;have:bj (ar.drop 0)=bj ar:=rfl;omega);rw[bV] at k1 k2 k3;have e30:AC ae 62 [.ptr s 0,IA za oa ar,IA z o t,.int .i64 0] m1=_:=e30
 refine ⟨m2,s,F2,zs,os,r,id,?_,k1,k2,k3,by omega,(Fr.trans f1 k5 fun x hx=>.inr (hF x hx)),fun x hx=>?_⟩
 ·rw[T15,e14,aa,rj,aa,rl,aa,jg,aa,aA,ai (by simp),e30,aa]
  rfl
 ·rcases k6 x hx with hh | hh
  ·exact hF x hh
  ·have:=f1.len;omega
end Go.Ab
