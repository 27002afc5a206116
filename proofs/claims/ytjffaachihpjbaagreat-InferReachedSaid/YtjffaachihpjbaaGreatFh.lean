import Derived.Test.YtjffaachihpjbaaGreatFf
import Derived.Test.YtjffaachihpjbaaGreatFg
import Derived.Test.YtjffaachihpjbaaGreatFe
set_option linter.defProp false
set_option linter.unusedSimpArgs false
set_option linter.unusedVariables false
set_option maxRecDepth 100000
set_option maxHeartbeats 400000
namespace Go.AL
open Go.Proofs
def c116:CT (Tryz.f116.body.getD .skip):=⟨_,by conv=>lhs; cbv⟩
theorem F116:Fun1 Tryz.prog 116 74 c116.1 [.tmp 2]:=mkT Tryz.func116 rfl (by decide +kernel) Tryz.ntmps116 rfl c116.2 rfl
def c147:CT (Tryz.f147.body.getD .skip):=⟨_,by conv=>lhs; cbv⟩
theorem F147:Fun1 Tryz.prog 147 16 c147.1 [.tmp 3]:=mkT Tryz.func147 rfl (by decide +kernel) Tryz.ntmps147 rfl c147.2 rfl
def c118:AC:=
.seq (rg [oO 2 (.box 25 (tT 0)),oO 3 (.box 67 (tT 1)),oO 4 (.alloc 167),oO 5 (.assign (kI 0))])
 (.seq (.seq (rg [oO 6 (.fieldAddr 67 (tT 3) 1),oO 7 (.load 5 (tT 6)),oO 8 (cF (.func 46) #[tT 7] #[5]),oO 9 (.binOp .eql 3 (tT 8) (kI 0) 3)])
 (.cond (tT 9) (.seq (rg [oO 10 (.build 167 #[]),oN (.store 167 (tT 4) (tT 10)),oO 5 (.assign (kI 40))])
 (.ret))
 (.skip)))
 (.seq (.seq (.reg true [3,2] [⟨⟨some 11,cF (.func 150) #[] #[],none⟩,false,true⟩,⟨⟨some 12,.fieldAddr 67 (tT 3) 1,none⟩,true,true⟩,⟨⟨some 13,.load 5 (tT 12),none⟩,true,true⟩,⟨⟨some 14,.index 197 (tT 11) (tT 13),none⟩,false,true⟩,⟨⟨some 15,.load 25 (tT 2),none⟩,true,true⟩,⟨⟨some 16,.load 67 (tT 3),none⟩,true,false⟩])
 (rg [oO 17 (cF (tT 14) #[tT 15,tT 16] #[25,67]),⟨⟨some 18,.extract (tT 17) 0,none⟩,false,true⟩,oO 19 (.extract (tT 17) 1),oN (.store 167 (tT 4) (tT 18)),oO 5 (.assign (tT 19))]))
 .ret))
theorem F118:Fun1 Tryz.prog 118 20 c118 [.cell 4 167,.tmp 5]:=mkT Tryz.func118 rfl (by decide +kernel) Tryz.ntmps118 rfl (by kernel_rfl) rfl
def c46:CT (Tryz.f46.body.getD .skip):=⟨_,by conv=>lhs; cbv⟩
theorem F46:Fun1 Tryz.prog 46 16 c46.1 [.tmp 2]:=mkT Tryz.func46 rfl (by decide +kernel) Tryz.ntmps46 rfl c46.2 rfl
def c71:CT (Tryz.f71.body.getD .skip):=⟨_,by conv=>lhs; cbv⟩
theorem F71:Fun1 Tryz.prog 71 23 c71.1 [.tmp 2,.tmp 3]:=mkT Tryz.func71 rfl (by decide +kernel) Tryz.ntmps71 rfl c71.2 rfl
def c150:AC:=
.seq (rg [oO 0 (.alloc 197)])
 (.seq (rg [oO 11 (cF (.func 166) #[kB 1] #[35]),oO 12 (cF (.func 166) #[kB 2] #[35]),oO 13 (cF (.func 166) #[kB 4] #[35]),oO 1 (.alloc 201),oO 2 (.alloc 201),oO 3 (.alloc 201),oN (.store 201 (tT 1) (tT 11)),oN (.store 201 (tT 2) (tT 12)),oN (.store 201 (tT 3) (tT 13))])
 (.seq (rg [oO 14 (.load 201 (tT 1)),oO 15 (.load 201 (tT 1)),oO 16 (.buildSlice 165 2 #[(0,.tmp 14),(1,.tmp 15)]),oO 4 (.assign (tT 16))])
 (.seq (rg [oO 17 (cF (.func 167) #[.const (.slice none 0 0)] #[44]),oO 5 (.alloc 50),oN (.store 50 (tT 5) (tT 17))])
 (.seq (rg [oO 6 (.alloc 197)])
 (.seq (.seq (rg [oO 18 (.buildSlice 26 3 #[(0,kB 0),(1,kB 19),(2,kB 32)]),oO 19 (cB .len #[tT 18] #[26]),oO 20 (.move (kI 0))])
 (.block 0 (.loop (.seq (rg [oO 21 (.binOp .lss 3 (tT 20) (tT 19) 3)])
 (.seq (.cond (tT 21) (.skip)
 (.exit 0))
 (.seq (.block 1 (.seq (rg [oO 22 (.indexAddr 26 (tT 18) (tT 20)),oO 23 (.load 5 (tT 22)),oO 8 (.assign (tT 23))])
 (rg [oO 24 (.move (tT 8)),oO 25 (.load 50 (tT 5)),oO 26 (cF (.func 168) #[.const (.slice none 0 0),tT 25] #[165,50]),oO 27 (.indexAddr 197 (tT 6) (tT 24)),oN (.store 196 (tT 27) (tT 26))])))
 (rg [oO 28 (.binOp .add 3 (tT 20) (kI 1) 3),oO 20 (.move (tT 28))])))))))
 (.seq (rg [oO 29 (.buildSlice 44 1 #[(0,kB 1)]),oO 30 (cF (.func 167) #[tT 29] #[44]),oO 31 (cF (.func 168) #[.const (.slice none 0 0),tT 30] #[165,50]),oO 32 (.indexAddr 197 (tT 6) (kB 1)),oN (.store 196 (tT 32) (tT 31))])
 (.seq (rg [oO 33 (.buildSlice 44 1 #[(0,kB 2)]),oO 34 (cF (.func 167) #[tT 33] #[44]),oO 35 (cF (.func 168) #[.const (.slice none 0 0),tT 34] #[165,50]),oO 36 (.indexAddr 197 (tT 6) (kB 2)),oN (.store 196 (tT 36) (tT 35))])
 (.seq (rg [oO 37 (.buildSlice 44 1 #[(0,kB 3)]),oO 38 (cF (.func 167) #[tT 37] #[44]),oO 39 (cF (.func 168) #[.const (.slice none 0 0),tT 38] #[165,50]),oO 40 (.indexAddr 197 (tT 6) (kB 3)),oN (.store 196 (tT 40) (tT 39))])
 (.seq (rg [oO 41 (.buildSlice 44 1 #[(0,kB 0)]),oO 42 (cF (.func 167) #[tT 41] #[44]),oO 43 (cF (.func 168) #[.const (.slice none 0 0),tT 42] #[165,50]),oO 44 (.indexAddr 197 (tT 6) (kB 4)),oN (.store 196 (tT 44) (tT 43))])
 (.seq (rg [oO 45 (.build 201 #[(0,kI 1)]),oO 46 (.buildSlice 165 1 #[(0,.tmp 45)]),oO 47 (.load 50 (tT 5)),oO 48 (cF (.func 168) #[tT 46,tT 47] #[165,50]),oO 49 (.indexAddr 197 (tT 6) (kB 5)),oN (.store 196 (tT 49) (tT 48))])
 (.seq (rg [oO 50 (.build 201 #[(0,kI 0)]),oO 51 (.buildSlice 165 1 #[(0,.tmp 50)]),oO 52 (.load 50 (tT 5)),oO 53 (cF (.func 168) #[tT 51,tT 52] #[165,50]),oO 54 (.indexAddr 197 (tT 6) (kB 6)),oN (.store 196 (tT 54) (tT 53))])
 (.seq (rg [oO 55 (.build 201 #[(0,kI 0)]),oO 56 (.buildSlice 165 1 #[(0,.tmp 55)]),oO 57 (cF (.func 168) #[tT 56,.func 169] #[165,50]),oO 58 (.indexAddr 197 (tT 6) (kB 7)),oN (.store 196 (tT 58) (tT 57))])
 (.seq (rg [oO 59 (.build 201 #[(0,kI 0)]),oO 60 (.build 201 #[(0,kI 0)]),oO 61 (.buildSlice 165 2 #[(0,.tmp 59),(1,.tmp 60)]),oO 62 (cF (.func 168) #[tT 61,.func 170] #[165,50]),oO 63 (.indexAddr 197 (tT 6) (kB 8)),oN (.store 196 (tT 63) (tT 62))])
 (.seq (.seq (rg [oO 64 (.buildSlice 26 5 #[(0,kB 9),(1,kB 10),(2,kB 11),(3,kB 12),(4,kB 13)]),oO 65 (cB .len #[tT 64] #[26]),oO 66 (.move (kI 0))])
 (.block 2 (.loop (.seq (rg [oO 67 (.binOp .lss 3 (tT 66) (tT 65) 3)])
 (.seq (.cond (tT 67) (.skip)
 (.exit 2))
 (.seq (.block 3 (.seq (rg [oO 68 (.indexAddr 26 (tT 64) (tT 66)),oO 69 (.load 5 (tT 68)),oO 10 (.assign (tT 69))])
 (rg [oO 70 (.move (tT 10)),oO 71 (.move (tT 4)),oO 72 (.buildSlice 44 1 #[(0,kB 1)]),oO 73 (cF (.func 167) #[tT 72] #[44]),oO 74 (cF (.func 168) #[tT 71,tT 73] #[165,50]),oO 75 (.indexAddr 197 (tT 6) (tT 70)),oN (.store 196 (tT 75) (tT 74))])))
 (rg [oO 76 (.binOp .add 3 (tT 66) (kI 1) 3),oO 66 (.move (tT 76))])))))))
 (.seq (.seq (.reg true [1] [⟨⟨some 77,.load 201 (tT 1),none⟩,true,true⟩,⟨⟨some 78,.buildSlice 165 1 #[(0,.tmp 77)],none⟩,true,true⟩,oO 79 (.buildSlice 44 1 #[(0,kB 1)]),oO 80 (cF (.func 167) #[tT 79] #[44])])
 (rg [oO 81 (cF (.func 168) #[tT 78,tT 80] #[165,50]),oO 82 (.indexAddr 197 (tT 6) (kB 14)),oN (.store 196 (tT 82) (tT 81))]))
 (.seq (rg [oO 83 (.move (tT 4)),oO 84 (.buildSlice 44 1 #[(0,kB 2)]),oO 85 (cF (.func 167) #[tT 84] #[44]),oO 86 (cF (.func 168) #[tT 83,tT 85] #[165,50]),oO 87 (.indexAddr 197 (tT 6) (kB 15)),oN (.store 196 (tT 87) (tT 86))])
 (.seq (rg [oO 88 (.build 201 #[(0,kI 3)]),oO 89 (.build 201 #[(0,kI 3)]),oO 90 (.buildSlice 165 2 #[(0,.tmp 88),(1,.tmp 89)]),oO 91 (.buildSlice 44 1 #[(0,kB 2)]),oO 92 (cF (.func 167) #[tT 91] #[44]),oO 93 (cF (.func 168) #[tT 90,tT 92] #[165,50]),oO 94 (.indexAddr 197 (tT 6) (kB 16)),oN (.store 196 (tT 94) (tT 93))])
 (.seq (.seq (.reg true [2] [⟨⟨some 95,.load 201 (tT 2),none⟩,true,true⟩,⟨⟨some 96,.buildSlice 165 1 #[(0,.tmp 95)],none⟩,true,true⟩,oO 97 (.buildSlice 44 1 #[(0,kB 2)]),oO 98 (cF (.func 167) #[tT 97] #[44])])
 (rg [oO 99 (cF (.func 168) #[tT 96,tT 98] #[165,50]),oO 100 (.indexAddr 197 (tT 6) (kB 17)),oN (.store 196 (tT 100) (tT 99))]))
 (.seq (rg [oO 101 (.build 201 #[(0,kI 2)]),oO 102 (.build 201 #[(0,kI 2)]),oO 103 (.buildSlice 165 2 #[(0,.tmp 101),(1,.tmp 102)]),oO 104 (.buildSlice 44 1 #[(0,kB 2)]),oO 105 (cF (.func 167) #[tT 104] #[44]),oO 106 (cF (.func 168) #[tT 103,tT 105] #[165,50]),oO 107 (.indexAddr 197 (tT 6) (kB 18)),oN (.store 196 (tT 107) (tT 106))])
 (.seq (rg [oO 108 (.load 201 (tT 2)),oO 109 (.buildSlice 165 1 #[(0,.tmp 108)]),oO 110 (.load 50 (tT 5)),oO 111 (cF (.func 168) #[tT 109,tT 110] #[165,50]),oO 112 (.indexAddr 197 (tT 6) (kB 20)),oN (.store 196 (tT 112) (tT 111))])
 (.seq (rg [oO 113 (.indexAddr 197 (tT 6) (kB 21)),oN (.store 196 (tT 113) (.func 171))])
 (.seq (rg [oO 114 (.makeFunc (.func 172) #[] #[tT 5]),oO 115 (.indexAddr 197 (tT 6) (kB 22)),oN (.store 196 (tT 115) (tT 114))])
 (.seq (rg [oO 116 (cF (.func 174) #[.const (.slice none 0 0),.const (.bool true)] #[165,4]),oO 117 (.indexAddr 197 (tT 6) (kB 23)),oN (.store 196 (tT 117) (tT 116))])
 (.seq (rg [oO 118 (cF (.func 175) #[.const (.bool false)] #[4]),oO 119 (.indexAddr 197 (tT 6) (kB 24)),oN (.store 196 (tT 119) (tT 118))])
 (.seq (rg [oO 120 (cF (.func 175) #[.const (.bool true)] #[4]),oO 121 (.indexAddr 197 (tT 6) (kB 25)),oN (.store 196 (tT 121) (tT 120))])
 (.seq (.seq (.reg true [1] [⟨⟨some 122,.load 201 (tT 1),none⟩,true,true⟩,⟨⟨some 123,.buildSlice 165 1 #[(0,.tmp 122)],none⟩,true,true⟩,oO 124 (.buildSlice 44 1 #[(0,kB 4)]),oO 125 (cF (.func 167) #[tT 124] #[44])])
 (rg [oO 126 (cF (.func 168) #[tT 123,tT 125] #[165,50]),oO 127 (.indexAddr 197 (tT 6) (kB 26)),oN (.store 196 (tT 127) (tT 126))]))
 (.seq (.seq (.reg true [3] [⟨⟨some 128,.load 201 (tT 3),none⟩,true,true⟩,⟨⟨some 129,.buildSlice 165 1 #[(0,.tmp 128)],none⟩,true,true⟩,oO 130 (.buildSlice 44 1 #[(0,kB 1)]),oO 131 (cF (.func 167) #[tT 130] #[44])])
 (rg [oO 132 (cF (.func 168) #[tT 129,tT 131] #[165,50]),oO 133 (.indexAddr 197 (tT 6) (kB 27)),oN (.store 196 (tT 133) (tT 132))]))
 (.seq (.seq (.reg true [3,1] [⟨⟨some 134,.load 201 (tT 3),none⟩,true,true⟩,⟨⟨some 135,.load 201 (tT 1),none⟩,true,true⟩,⟨⟨some 136,.buildSlice 165 2 #[(0,.tmp 134),(1,.tmp 135)],none⟩,true,true⟩,oO 137 (.buildSlice 44 1 #[(0,kB 1)]),oO 138 (cF (.func 167) #[tT 137] #[44])])
 (rg [oO 139 (cF (.func 168) #[tT 136,tT 138] #[165,50]),oO 140 (.indexAddr 197 (tT 6) (kB 28)),oN (.store 196 (tT 140) (tT 139))]))
 (.seq (rg [oO 141 (.load 201 (tT 3)),oO 142 (.load 201 (tT 1)),oO 143 (.load 201 (tT 1)),oO 144 (.buildSlice 165 3 #[(0,.tmp 141),(1,.tmp 142),(2,.tmp 143)]),oO 145 (.load 50 (tT 5)),oO 146 (cF (.func 168) #[tT 144,tT 145] #[165,50]),oO 147 (.indexAddr 197 (tT 6) (kB 29)),oN (.store 196 (tT 147) (tT 146))])
 (.seq (rg [oO 148 (.build 201 #[(0,kI 2)]),oO 149 (.buildSlice 165 1 #[(0,.tmp 148)]),oO 150 (cF (.func 174) #[tT 149,.const (.bool true)] #[165,4]),oO 151 (.indexAddr 197 (tT 6) (kB 30)),oN (.store 196 (tT 151) (tT 150))])
 (.seq (rg [oO 152 (.build 201 #[(0,kI 2)]),oO 153 (.buildSlice 165 1 #[(0,.tmp 152)]),oO 154 (cF (.func 174) #[tT 153,.const (.bool false)] #[165,4]),oO 155 (.indexAddr 197 (tT 6) (kB 31)),oN (.store 196 (tT 155) (tT 154))])
 (.seq (rg [oO 156 (.load 201 (tT 1)),oO 157 (.buildSlice 165 1 #[(0,.tmp 156)]),oO 158 (.load 50 (tT 5)),oO 159 (cF (.func 168) #[tT 157,tT 158] #[165,50]),oO 160 (.indexAddr 197 (tT 6) (kB 33)),oN (.store 196 (tT 160) (tT 159))])
 (.seq (rg [oO 161 (.load 197 (tT 6)),oN (.store 197 (tT 0) (tT 161))])
 .ret)))))))))))))))))))))))))))))))))
theorem F150:Fun1 Tryz.prog 150 162 c150 [.cell 0 197]:=mkT Tryz.func150 rfl (by decide +kernel) Tryz.ntmps150 rfl (by kernel_rfl) rfl
def c166:CT (Tryz.f166.body.getD .skip):=⟨_,by conv=>lhs; cbv⟩
theorem F166:Fun1 Tryz.prog 166 5 c166.1 [.cell 2 201]:=mkT Tryz.func166 rfl (by decide +kernel) Tryz.ntmps166 rfl c166.2 rfl
def c167:CT (Tryz.f167.body.getD .skip):=⟨_,by conv=>lhs; cbv⟩
theorem F167:Fun1 Tryz.prog 167 4 c167.1 [.tmp 2]:=mkT Tryz.func167 rfl (by decide +kernel) Tryz.ntmps167 rfl c167.2 rfl
def c168:CT (Tryz.f168.body.getD .skip):=⟨_,by conv=>lhs; cbv⟩
theorem F168:Fun1 Tryz.prog 168 6 c168.1 [.tmp 4]:=mkT Tryz.func168 rfl (by decide +kernel) Tryz.ntmps168 rfl c168.2 rfl
def c169:CT (Tryz.f169.body.getD .skip):=⟨_,by conv=>lhs; cbv⟩
theorem F169:Fun1 Tryz.prog 169 10 c169.1 [.tmp 2]:=mkT Tryz.func169 rfl (by decide +kernel) Tryz.ntmps169 rfl c169.2 rfl
def c170:CT (Tryz.f170.body.getD .skip):=⟨_,by conv=>lhs; cbv⟩
theorem F170:Fun1 Tryz.prog 170 10 c170.1 [.tmp 2]:=mkT Tryz.func170 rfl (by decide +kernel) Tryz.ntmps170 rfl c170.2 rfl
def c171:CT (Tryz.f171.body.getD .skip):=⟨_,by conv=>lhs; cbv⟩
theorem F171:Fun1 Tryz.prog 171 53 c171.1 [.cell 4 167,.tmp 5]:=mkT Tryz.func171 rfl (by decide +kernel) Tryz.ntmps171 rfl c171.2 rfl
def c172:AC:=
.seq (rg [oO 3 (.box 25 (tT 0)),oO 4 (.box 67 (tT 1)),oO 5 (.alloc 167),oO 6 (.assign (kI 0))])
 (.seq (.seq (.reg true [2] [⟨⟨some 7,.fieldAddr 25 (tT 3) 1,none⟩,false,true⟩,⟨⟨some 8,.load 23 (tT 7),none⟩,false,true⟩,⟨⟨some 9,.fieldAddr 25 (tT 3) 2,none⟩,false,true⟩,⟨⟨some 10,.load 3 (tT 9),none⟩,false,true⟩,⟨⟨some 11,.indexAddr 23 (tT 8) (tT 10),none⟩,false,true⟩,⟨⟨some 12,.fieldAddr 47 (tT 11) 1,none⟩,false,true⟩,⟨⟨some 13,.load 35 (tT 12),none⟩,false,true⟩,⟨⟨some 14,cF (.func 173) #[tT 13] #[35],none⟩,false,true⟩,⟨⟨some 15,.load 50 (tT 2),none⟩,true,false⟩])
 (rg [oO 16 (.build 167 #[(0,.tmp 14),(1,.tmp 15)]),oN (.store 167 (tT 5) (tT 16)),oO 6 (.assign (kI 0))]))
 .ret)
theorem F172:Fun1 Tryz.prog 172 17 c172 [.cell 5 167,.tmp 6]:=mkT Tryz.func172 rfl (by decide +kernel) Tryz.ntmps172 rfl (by kernel_rfl) rfl
def c173:CT (Tryz.f173.body.getD .skip):=⟨_,by conv=>lhs; cbv⟩
theorem F173:Fun1 Tryz.prog 173 8 c173.1 [.tmp 2]:=mkT Tryz.func173 rfl (by decide +kernel) Tryz.ntmps173 rfl c173.2 rfl
def c174:CT (Tryz.f174.body.getD .skip):=⟨_,by conv=>lhs; cbv⟩
theorem F174:Fun1 Tryz.prog 174 6 c174.1 [.tmp 4]:=mkT Tryz.func174 rfl (by decide +kernel) Tryz.ntmps174 rfl c174.2 rfl
def c175:CT (Tryz.f175.body.getD .skip):=⟨_,by conv=>lhs; cbv⟩
theorem F175:Fun1 Tryz.prog 175 4 c175.1 [.tmp 2]:=mkT Tryz.func175 rfl (by decide +kernel) Tryz.ntmps175 rfl c175.2 rfl
def c181:CT (Tryz.f181.body.getD .skip):=⟨_,by conv=>lhs; cbv⟩
theorem F181:Fun1 Tryz.prog 181 5 c181.1 [.tmp 3]:=mkT Tryz.func181 rfl (by decide +kernel) Tryz.ntmps181 rfl c181.2 rfl
def c182:CT (Tryz.f182.body.getD .skip):=⟨_,by conv=>lhs; cbv⟩
theorem F182:Fun1 Tryz.prog 182 11 c182.1 [.cell 6 167,.tmp 7]:=mkT Tryz.func182 rfl (by decide +kernel) Tryz.ntmps182 rfl c182.2 rfl
def c183:AC:=
.seq (rg [oO 4 (.box 25 (tT 0)),oO 5 (.box 67 (tT 1)),oO 6 (.alloc 167),oO 7 (.assign (kI 0))])
 (.seq (.seq (rg [oO 8 (.fieldAddr 67 (tT 5) 2),oO 9 (.load 3 (tT 8)),oO 10 (.binOp .lss 3 (tT 9) (kI 0) 3),oO 11 (.move (tT 10)),oG 12 (.fieldAddr 67 (tT 5) 2) 11 false,oG 13 (.load 3 (tT 12)) 11 false,oG 14 (.fieldAddr 25 (tT 4) 0) 11 false,oG 15 (.load 22 (tT 14)) 11 false,oG 16 (cB .len #[tT 15] #[22]) 11 false,oG 17 (.binOp .geq 3 (tT 13) (tT 16) 3) 11 false,oO 18 (.pick (tT 11) (.const (.bool true)) (tT 17))])
 (.cond (tT 18) (.seq (rg [oO 19 (.build 167 #[]),oN (.store 167 (tT 6) (tT 19)),oO 7 (.assign (kI 72))])
 (.ret))
 (.skip)))
 (.seq (.seq (rg [oO 20 (.load 4 (tT 2)),oO 21 (.unOp .not 4 (tT 20))])
 (.cond (tT 21) (.seq (.seq (.reg true [3] [⟨⟨some 22,.load 165 (tT 3),none⟩,true,true⟩,oO 23 (.buildSlice 44 1 #[(0,kB 2)]),oO 24 (cF (.func 167) #[tT 23] #[44])])
 (rg [oO 25 (.build 167 #[(0,.tmp 22),(1,.tmp 24)]),oN (.store 167 (tT 6) (tT 25)),oO 7 (.assign (kI 0))]))
 (.ret))
 (.skip)))
 (.seq (.seq (.reg true [3] [⟨⟨some 26,.load 165 (tT 3),none⟩,true,true⟩,oO 27 (.fieldAddr 67 (tT 5) 2),oO 28 (.load 3 (tT 27)),oO 29 (cF (.func 184) #[tT 28] #[3]),oO 30 (.buildSlice 44 1 #[(0,.tmp 29)]),oO 31 (cF (.func 167) #[tT 30] #[44])])
 (rg [oO 32 (.build 167 #[(0,.tmp 26),(1,.tmp 31)]),oN (.store 167 (tT 6) (tT 32)),oO 7 (.assign (kI 0))]))
 .ret)))
theorem F183:Fun1 Tryz.prog 183 33 c183 [.cell 6 167,.tmp 7]:=mkT Tryz.func183 rfl (by decide +kernel) Tryz.ntmps183 rfl (by kernel_rfl) rfl
def c184:CT (Tryz.f184.body.getD .skip):=⟨_,by conv=>lhs; cbv⟩
theorem F184:Fun1 Tryz.prog 184 6 c184.1 [.tmp 2]:=mkT Tryz.func184 rfl (by decide +kernel) Tryz.ntmps184 rfl c184.2 rfl
def c185:CT (Tryz.f185.body.getD .skip):=⟨_,by conv=>lhs; cbv⟩
theorem F185:Fun1 Tryz.prog 185 63 c185.1 [.cell 5 167,.tmp 6]:=mkT Tryz.func185 rfl (by decide +kernel) Tryz.ntmps185 rfl c185.2 rfl
def c186:CT (Tryz.f186.body.getD .skip):=⟨_,by conv=>lhs; cbv⟩
theorem F186:Fun1 Tryz.prog 186 30 c186.1 [.tmp 4]:=mkT Tryz.func186 rfl (by decide +kernel) Tryz.ntmps186 rfl c186.2 rfl
def c188:CT (Tryz.f188.body.getD .skip):=⟨_,by conv=>lhs; cbv⟩
theorem F188:Fun1 Tryz.prog 188 8 c188.1 [.tmp 3]:=mkT Tryz.func188 rfl (by decide +kernel) Tryz.ntmps188 rfl c188.2 rfl
def c65:CT (Tryz.f65.body.getD .skip):=⟨_,by conv=>lhs; cbv⟩
theorem F65:Fun1 Tryz.prog 65 72 c65.1 [.tmp 2]:=mkT Tryz.func65 rfl (by decide +kernel) Tryz.ntmps65 rfl c65.2 rfl
def c25:CT (Tryz.f25.body.getD .skip):=⟨_,by conv=>lhs; cbv⟩
theorem F25:Fun1 Tryz.prog 25 16 c25.1 [.tmp 2]:=mkT Tryz.func25 rfl (by decide +kernel) Tryz.ntmps25 rfl c25.2 rfl
def c54:CT (Tryz.f54.body.getD .skip):=⟨_,by conv=>lhs; cbv⟩
theorem F54:Fun1 Tryz.prog 54 22 c54.1 [.tmp 2,.tmp 3]:=mkT Tryz.func54 rfl (by decide +kernel) Tryz.ntmps54 rfl c54.2 rfl
def c66:CT (Tryz.f66.body.getD .skip):=⟨_,by conv=>lhs; cbv⟩
theorem F66:Fun1 Tryz.prog 66 59 c66.1 [.tmp 4]:=mkT Tryz.func66 rfl (by decide +kernel) Tryz.ntmps66 rfl c66.2 rfl
def c96:CT (Tryz.f96.body.getD .skip):=⟨_,by conv=>lhs; cbv⟩
theorem F96:Fun1 Tryz.prog 96 94 c96.1 [.tmp 4]:=mkT Tryz.func96 rfl (by decide +kernel) Tryz.ntmps96 rfl c96.2 rfl
def c98:CT (Tryz.f98.body.getD .skip):=⟨_,by conv=>lhs; cbv⟩
theorem F98:Fun1 Tryz.prog 98 69 c98.1 [.tmp 4]:=mkT Tryz.func98 rfl (by decide +kernel) Tryz.ntmps98 rfl c98.2 rfl
def c134:CT (Tryz.f134.body.getD .skip):=⟨_,by conv=>lhs; cbv⟩
theorem F134:Fun1 Tryz.prog 134 7 c134.1 [.tmp 2]:=mkT Tryz.func134 rfl (by decide +kernel) Tryz.ntmps134 rfl c134.2 rfl
def c135:CT (Tryz.f135.body.getD .skip):=⟨_,by conv=>lhs; cbv⟩
theorem F135:Fun1 Tryz.prog 135 6 c135.1 [.tmp 2]:=mkT Tryz.func135 rfl (by decide +kernel) Tryz.ntmps135 rfl c135.2 rfl
def c94:CT (Tryz.f94.body.getD .skip):=⟨_,by conv=>lhs; cbv⟩
theorem F94:Fun1 Tryz.prog 94 16 c94.1 [.tmp 4]:=mkT Tryz.func94 rfl (by decide +kernel) Tryz.ntmps94 rfl c94.2 rfl
open Go.Proofs
def c36:CT (Tryz.f36.body.getD .skip):=⟨_,by conv=>lhs; cbv⟩
theorem F36:Fun1 Tryz.prog 36 65 c36.1 [.cell 6 38,.tmp 7]:=mkT Tryz.func36 rfl (by decide +kernel) Tryz.ntmps36 rfl c36.2 rfl
def c88:CT (Tryz.f88.body.getD .skip):=⟨_,by conv=>lhs; cbv⟩
theorem F88:Fun1 Tryz.prog 88 101 c88.1 [.cell 6 38,.tmp 7]:=mkT Tryz.func88 rfl (by decide +kernel) Tryz.ntmps88 rfl c88.2 rfl
def c38:CT (Tryz.f38.body.getD .skip):=⟨_,by conv=>lhs; cbv⟩
theorem F38:Fun1 Tryz.prog 38 40 c38.1 [.tmp 4]:=mkT Tryz.func38 rfl (by decide +kernel) Tryz.ntmps38 rfl c38.2 rfl
def c67_10:AC:=
.seq (.seq (rg [oO 126 (.move (tT 9)),oO 127 (cB .len #[tT 126] #[44]),oO 128 (.move (kI 0))])
 (.block 3 (.loop (.seq (rg [oO 129 (.binOp .lss 3 (tT 128) (tT 127) 3)])
 (.seq (.cond (tT 129) (.skip)
 (.exit 3))
 (.seq (.block 4 (rg [oO 131 (.load 38 (tT 4)),oO 132 (cF (.func 99) #[tT 131] #[38]),oO 130 (.move (tT 132)),oO 133 (.extract (tT 130) 0),oO 134 (.extract (tT 130) 1),oO 135 (.extract (tT 130) 2),oN (.store 38 (tT 4) (tT 133))]))
 (rg [oO 136 (.binOp .add 3 (tT 128) (kI 1) 3),oO 128 (.move (tT 136))])))))))
 (.seq (.seq (rg [oO 137 (.fieldAddr 67 (tT 5) 1),oO 138 (.load 5 (tT 137)),oO 139 (.binOp .eql 5 (tT 138) (kB 22) 5),oO 140 (.move (tT 139)),oG 141 (.fieldAddr 38 (tT 4) 1) 140 true,oG 142 (.load 3 (tT 141)) 140 true,oG 143 (.binOp .gtr 3 (tT 142) (kI 0) 3) 140 true,oO 144 (.pick (tT 140) (tT 143) (.const (.bool false)))])
 (.cond (tT 144) (.seq (rg [oO 145 (.load 38 (tT 8)),oN (.store 38 (tT 6) (tT 145)),oO 7 (.assign (kI 73))])
 (.ret))
 (.skip)))
 (.seq (.seq (rg [oO 146 (.fieldAddr 67 (tT 5) 1),oO 147 (.load 5 (tT 146)),oO 148 (.binOp .eql 5 (tT 147) (kB 5) 5)])
 (.cond (tT 148) (.reg true [] [⟨⟨some 149,.fieldAddr 67 (tT 5) 2,none⟩,false,true⟩,⟨⟨some 150,.load 3 (tT 149),none⟩,false,true⟩,⟨⟨some 151,.move (tT 11),none⟩,false,true⟩,⟨⟨some 152,.indexAddr 44 (tT 151) (kI 0),none⟩,false,true⟩,⟨⟨some 153,.load 35 (tT 152),none⟩,false,true⟩,oO 154 (.fieldAddr 38 (tT 4) 2),oO 155 (.indexAddr 36 (tT 154) (tT 150)),oN (.store 35 (tT 155) (tT 153))])
 (.skip)))
 (.seq (.seq (rg [oO 156 (.move (tT 15)),oO 157 (cB .len #[tT 156] #[44]),oO 158 (.move (kI 0))])
 (.block 5 (.loop (.seq (rg [oO 159 (.binOp .lss 3 (tT 158) (tT 157) 3)])
 (.seq (.cond (tT 159) (.skip)
 (.exit 5))
 (.seq (.block 6 (.seq (rg [oO 160 (.indexAddr 44 (tT 156) (tT 158)),oO 161 (.load 35 (tT 160)),oO 17 (.assign (tT 161))])
 (.seq (rg [oO 163 (.load 38 (tT 4)),oO 164 (.move (tT 17)),oO 165 (cF (.func 100) #[tT 163,tT 164] #[38,35]),oO 162 (.move (tT 165)),oO 166 (.extract (tT 162) 0),oO 167 (.extract (tT 162) 1),oO 18 (.alloc 38),oN (.store 38 (tT 18) (tT 166)),oO 19 (.assign (tT 167))])
 (.seq (.seq (rg [oO 168 (.move (tT 19)),oO 169 (.binOp .neq 31 (tT 168) (kI 0) 31)])
 (.cond (tT 169) (.seq (rg [oO 170 (.load 38 (tT 8)),oO 171 (.move (tT 19)),oN (.store 38 (tT 6) (tT 170)),oO 7 (.assign (tT 171))])
 (.ret))
 (.skip)))
 (rg [oO 172 (.load 38 (tT 18)),oN (.store 38 (tT 4) (tT 172))])))))
 (rg [oO 173 (.binOp .add 3 (tT 158) (kI 1) 3),oO 158 (.move (tT 173))])))))))
 (.seq (rg [oO 174 (.load 38 (tT 4)),oN (.store 38 (tT 6) (tT 174)),oO 7 (.assign (kI 0))])
 .ret))))
def c67:AC:=
.seq (rg [oO 3 (.box 25 (tT 0)),oO 4 (.box 38 (tT 1)),oO 5 (.box 67 (tT 2)),oO 6 (.alloc 38),oO 7 (.assign (kI 0))])
 (.seq (rg [oO 20 (.build 38 #[]),oO 8 (.alloc 38),oN (.store 38 (tT 8) (tT 20))])
 (.seq (rg [oO 21 (.load 25 (tT 3)),oO 22 (.load 67 (tT 5)),oO 23 (cF (.func 96) #[tT 21,tT 22] #[25,67]),oO 9 (.assign (tT 23))])
 (.seq (.seq (rg [oO 24 (.fieldAddr 38 (tT 4) 1),oO 25 (.load 3 (tT 24)),oO 26 (.move (tT 9)),oO 27 (cB .len #[tT 26] #[44]),oO 28 (.binOp .lss 3 (tT 25) (tT 27) 3)])
 (.cond (tT 28) (.seq (rg [oO 29 (.load 38 (tT 8)),oN (.store 38 (tT 6) (tT 29)),oO 7 (.assign (kI 30))])
 (.ret))
 (.skip)))
 (.seq (rg [oO 30 (.fieldAddr 38 (tT 4) 0),oO 31 (.load 3 (tT 30)),oO 32 (.fieldAddr 38 (tT 4) 1),oO 33 (.load 3 (tT 32)),oO 34 (.binOp .add 3 (tT 31) (tT 33) 3),oO 35 (.move (tT 9)),oO 36 (cB .len #[tT 35] #[44]),oO 37 (.binOp .sub 3 (tT 34) (tT 36) 3),oO 10 (.assign (tT 37))])
 (.seq (rg [oO 11 (.assign (.const (.slice none 0 0)))])
 (.seq (.seq (rg [oO 38 (.move (tT 9)),oO 39 (cB .len #[tT 38] #[44]),oO 40 (.move (kI 0))])
 (.block 0 (.loop (.seq (rg [oO 41 (.binOp .lss 3 (tT 40) (tT 39) 3)])
 (.seq (.cond (tT 41) (.skip)
 (.exit 0))
 (.seq (.block 1 (.seq (rg [oO 42 (.move (tT 40)),oO 43 (.indexAddr 44 (tT 38) (tT 40)),oO 44 (.load 35 (tT 43)),oO 12 (.assign (tT 42)),oO 13 (.assign (tT 44))])
 (.seq (rg [oO 45 (.move (tT 10)),oO 46 (.move (tT 12)),oO 47 (.binOp .add 3 (tT 45) (tT 46) 3),oO 48 (.fieldAddr 38 (tT 4) 2),oO 49 (.indexAddr 36 (tT 48) (tT 47)),oO 50 (.load 35 (tT 49)),oO 14 (.assign (tT 50))])
 (.seq (.seq (rg [oO 51 (.fieldAddr 25 (tT 3) 0),oO 52 (.load 22 (tT 51)),oO 53 (.move (tT 14)),oO 54 (.move (tT 13)),oO 55 (cF (.func 97) #[tT 52,tT 53,tT 54] #[22,35,35]),oO 56 (.unOp .not 4 (tT 55))])
 (.cond (tT 56) (.seq (rg [oO 57 (.load 38 (tT 8)),oN (.store 38 (tT 6) (tT 57)),oO 7 (.assign (kI 70))])
 (.ret))
 (.skip)))
 (rg [oO 58 (.move (tT 11)),oO 59 (.move (tT 14)),oO 60 (.buildSlice 44 1 #[(0,.tmp 59)]),oO 61 (cB .append #[tT 58,tT 60] #[44,44]),oO 11 (.assign (tT 61))])))))
 (rg [oO 62 (.binOp .add 3 (tT 40) (kI 1) 3),oO 40 (.move (tT 62))])))))))
 (.seq (.seq (.reg true [] [oO 63 (.fieldAddr 67 (tT 5) 1),oO 64 (.load 5 (tT 63)),oO 65 (.binOp .eql 5 (tT 64) (kB 16) 5),oO 66 (.move (tT 65)),⟨⟨some 67,.move (tT 11),some (66,true)⟩,false,true⟩,⟨⟨some 68,.indexAddr 44 (tT 67) (kI 0),some (66,true)⟩,false,true⟩,⟨⟨some 69,.load 35 (tT 68),some (66,true)⟩,false,true⟩,oG 70 (.move (tT 11)) 66 true,oG 71 (.indexAddr 44 (tT 70) (kI 1)) 66 true,oG 72 (.load 35 (tT 71)) 66 true,oG 73 (.binOp .neq 35 (tT 69) (tT 72) 35) 66 true,oG 74 (.move (tT 73)) 66 true,oG 75 (.move (tT 11)) 74 false,oG 76 (.indexAddr 44 (tT 75) (kI 0)) 74 false,oG 77 (.load 35 (tT 76)) 74 false,oG 78 (.binOp .neq 35 (tT 77) (kB 1) 35) 74 false,oG 79 (.move (tT 78)) 74 false,oG 80 (.move (tT 11)) 79 true,oG 81 (.indexAddr 44 (tT 80) (kI 0)) 79 true,oG 82 (.load 35 (tT 81)) 79 true,oG 83 (.binOp .neq 35 (tT 82) (kB 2) 35) 79 true,oG 84 (.pick (tT 79) (tT 83) (.const (.bool false))) 74 false,oG 85 (.pick (tT 74) (.const (.bool true)) (tT 84)) 66 true,oO 86 (.pick (tT 66) (tT 85) (.const (.bool false)))])
 (.cond (tT 86) (.seq (rg [oO 87 (.load 38 (tT 8)),oN (.store 38 (tT 6) (tT 87)),oO 7 (.assign (kI 70))])
 (.ret))
 (.skip)))
 (.seq (rg [oO 88 (.load 25 (tT 3)),oO 89 (.load 67 (tT 5)),oO 90 (cF (.func 98) #[tT 88,tT 89] #[25,67]),oO 15 (.assign (tT 90))])
 (.seq (.seq (rg [oO 91 (.fieldAddr 67 (tT 5) 1),oO 92 (.load 5 (tT 91))])
 (.block 2 (.seq (rg [oO 94 (.binOp .eql 5 (tT 92) (kB 4) 5),oO 93 (.assign (tT 94))])
 (.cond (tT 93) (.seq (.seq (rg [oO 95 (.fieldAddr 67 (tT 5) 2),oO 96 (.load 3 (tT 95)),oO 97 (.fieldAddr 38 (tT 4) 2),oO 98 (.indexAddr 36 (tT 97) (tT 96)),oO 99 (.load 35 (tT 98)),oO 100 (.binOp .eql 35 (tT 99) (kB 0) 35)])
 (.cond (tT 100) (.seq (rg [oO 101 (.load 38 (tT 8)),oN (.store 38 (tT 6) (tT 101)),oO 7 (.assign (kI 70))])
 (.ret))
 (.skip)))
 (rg [oO 102 (.fieldAddr 67 (tT 5) 2),oO 103 (.load 3 (tT 102)),oO 104 (.fieldAddr 38 (tT 4) 2),oO 105 (.indexAddr 36 (tT 104) (tT 103)),oO 106 (.load 35 (tT 105)),oO 107 (.buildSlice 44 1 #[(0,.tmp 106)]),oO 15 (.assign (tT 107))]))
 (.seq (rg [oO 109 (.binOp .eql 5 (tT 92) (kB 7) 5),oO 108 (.assign (tT 109))])
 (.cond (tT 108) (.reg true [] [⟨⟨some 110,.move (tT 11),none⟩,false,true⟩,⟨⟨some 111,.indexAddr 44 (tT 110) (kI 0),none⟩,false,true⟩,⟨⟨some 112,.load 35 (tT 111),none⟩,false,true⟩,oO 113 (.move (tT 11)),oO 114 (.indexAddr 44 (tT 113) (kI 0)),oO 115 (.load 35 (tT 114)),oO 116 (.buildSlice 44 2 #[(0,.tmp 112),(1,.tmp 115)]),oO 15 (.assign (tT 116))])
 (.seq (rg [oO 118 (.binOp .eql 5 (tT 92) (kB 8) 5),oO 117 (.assign (tT 118))])
 (.cond (tT 117) (.reg true [] [⟨⟨some 119,.move (tT 11),none⟩,false,true⟩,⟨⟨some 120,.indexAddr 44 (tT 119) (kI 1),none⟩,false,true⟩,⟨⟨some 121,.load 35 (tT 120),none⟩,false,true⟩,oO 122 (.move (tT 11)),oO 123 (.indexAddr 44 (tT 122) (kI 0)),oO 124 (.load 35 (tT 123)),oO 125 (.buildSlice 44 2 #[(0,.tmp 121),(1,.tmp 124)]),oO 15 (.assign (tT 125))])
 (.skip)))))))))
 c67_10)))))))))
theorem F67:Fun1 Tryz.prog 67 175 c67 [.cell 6 38,.tmp 7]:=mkT Tryz.func67 rfl (by decide +kernel) Tryz.ntmps67 rfl (by kernel_rfl) rfl
def c15:CT (Tryz.f15.body.getD .skip):=⟨_,by conv=>lhs; cbv⟩
theorem F15:Fun1 Tryz.prog 15 67 c15.1 [.tmp 6]:=mkT Tryz.func15 rfl (by decide +kernel) Tryz.ntmps15 rfl c15.2 rfl
def c117:CT (Tryz.f117.body.getD .skip):=⟨_,by conv=>lhs; cbv⟩
theorem F117:Fun1 Tryz.prog 117 26 c117.1 [.tmp 4]:=mkT Tryz.func117 rfl (by decide +kernel) Tryz.ntmps117 rfl c117.2 rfl
def c119:CT (Tryz.f119.body.getD .skip):=⟨_,by conv=>lhs; cbv⟩
theorem F119:Fun1 Tryz.prog 119 59 c119.1 [.tmp 6,.tmp 7]:=mkT Tryz.func119 rfl (by decide +kernel) Tryz.ntmps119 rfl c119.2 rfl
def c120:CT (Tryz.f120.body.getD .skip):=⟨_,by conv=>lhs; cbv⟩
theorem F120:Fun1 Tryz.prog 120 23 c120.1 [.tmp 4,.tmp 5]:=mkT Tryz.func120 rfl (by decide +kernel) Tryz.ntmps120 rfl c120.2 rfl
def c121:CT (Tryz.f121.body.getD .skip):=⟨_,by conv=>lhs; cbv⟩
theorem F121:Fun1 Tryz.prog 121 66 c121.1 [.cell 8 38,.tmp 9]:=mkT Tryz.func121 rfl (by decide +kernel) Tryz.ntmps121 rfl c121.2 rfl
def c69:CT (Tryz.f69.body.getD .skip):=⟨_,by conv=>lhs; cbv⟩
theorem F69:Fun1 Tryz.prog 69 29 c69.1 [.tmp 2]:=mkT Tryz.func69 rfl (by decide +kernel) Tryz.ntmps69 rfl c69.2 rfl
def c97:CT (Tryz.f97.body.getD .skip):=⟨_,by conv=>lhs; cbv⟩
theorem F97:Fun1 Tryz.prog 97 22 c97.1 [.tmp 6]:=mkT Tryz.func97 rfl (by decide +kernel) Tryz.ntmps97 rfl c97.2 rfl
def c99:CT (Tryz.f99.body.getD .skip):=⟨_,by conv=>lhs; cbv⟩
theorem F99:Fun1 Tryz.prog 99 30 c99.1 [.cell 2 38,.tmp 3,.tmp 4]:=mkT Tryz.func99 rfl (by decide +kernel) Tryz.ntmps99 rfl c99.2 rfl
def c100:CT (Tryz.f100.body.getD .skip):=⟨_,by conv=>lhs; cbv⟩
theorem F100:Fun1 Tryz.prog 100 30 c100.1 [.cell 4 38,.tmp 5]:=mkT Tryz.func100 rfl (by decide +kernel) Tryz.ntmps100 rfl c100.2 rfl
def c40:CT (Tryz.f40.body.getD .skip):=⟨_,by conv=>lhs; cbv⟩
theorem F40:Fun1 Tryz.prog 40 17 c40.1 [.tmp 2]:=mkT Tryz.func40 rfl (by decide +kernel) Tryz.ntmps40 rfl c40.2 rfl
def c148:CT (Tryz.f148.body.getD .skip):=⟨_,by conv=>lhs; cbv⟩
theorem F148:Fun1 Tryz.prog 148 24 c148.1 [.tmp 2]:=mkT Tryz.func148 rfl (by decide +kernel) Tryz.ntmps148 rfl c148.2 rfl
def c149:CT (Tryz.f149.body.getD .skip):=⟨_,by conv=>lhs; cbv⟩
theorem F149:Fun1 Tryz.prog 149 20 c149.1 [.cell 2 38]:=mkT Tryz.func149 rfl (by decide +kernel) Tryz.ntmps149 rfl c149.2 rfl
def c151:CT (Tryz.f151.body.getD .skip):=⟨_,by conv=>lhs; cbv⟩
theorem F151:Fun1 Tryz.prog 151 29 c151.1 [.tmp 4,.tmp 5]:=mkT Tryz.func151 rfl (by decide +kernel) Tryz.ntmps151 rfl c151.2 rfl
def c152:CT (Tryz.f152.body.getD .skip):=⟨_,by conv=>lhs; cbv⟩
theorem F152:Fun1 Tryz.prog 152 39 c152.1 [.tmp 8]:=mkT Tryz.func152 rfl (by decide +kernel) Tryz.ntmps152 rfl c152.2 rfl
def c153:CT (Tryz.f153.body.getD .skip):=⟨_,by conv=>lhs; cbv⟩
theorem F153:Fun1 Tryz.prog 153 23 c153.1 [.cell 2 38,.tmp 3,.tmp 4]:=mkT Tryz.func153 rfl (by decide +kernel) Tryz.ntmps153 rfl c153.2 rfl
def c154:CT (Tryz.f154.body.getD .skip):=⟨_,by conv=>lhs; cbv⟩
theorem F154:Fun1 Tryz.prog 154 27 c154.1 [.cell 6 38,.tmp 7]:=mkT Tryz.func154 rfl (by decide +kernel) Tryz.ntmps154 rfl c154.2 rfl
def c155:CT (Tryz.f155.body.getD .skip):=⟨_,by conv=>lhs; cbv⟩
theorem F155:Fun1 Tryz.prog 155 34 c155.1 [.cell 4 38,.tmp 5]:=mkT Tryz.func155 rfl (by decide +kernel) Tryz.ntmps155 rfl c155.2 rfl
def c136:CT (Tryz.f136.body.getD .skip):=⟨_,by conv=>lhs; cbv⟩
theorem F136:Fun1 Tryz.prog 136 17 c136.1 [.cell 2 38]:=mkT Tryz.func136 rfl (by decide +kernel) Tryz.ntmps136 rfl c136.2 rfl
def c176:CT (Tryz.f176.body.getD .skip):=⟨_,by conv=>lhs; cbv⟩
theorem F176:Fun1 Tryz.prog 176 17 c176.1 [.tmp 2]:=mkT Tryz.func176 rfl (by decide +kernel) Tryz.ntmps176 rfl c176.2 rfl
def c177:CT (Tryz.f177.body.getD .skip):=⟨_,by conv=>lhs; cbv⟩
theorem F177:Fun1 Tryz.prog 177 58 c177.1 [.tmp 6]:=mkT Tryz.func177 rfl (by decide +kernel) Tryz.ntmps177 rfl c177.2 rfl
def c179:CT (Tryz.f179.body.getD .skip):=⟨_,by conv=>lhs; cbv⟩
theorem F179:Fun1 Tryz.prog 179 13 c179.1 [.tmp 6]:=mkT Tryz.func179 rfl (by decide +kernel) Tryz.ntmps179 rfl c179.2 rfl
def c187:CT (Tryz.f187.body.getD .skip):=⟨_,by conv=>lhs; cbv⟩
theorem F187:Fun1 Tryz.prog 187 10 c187.1 [.tmp 4]:=mkT Tryz.func187 rfl (by decide +kernel) Tryz.ntmps187 rfl c187.2 rfl
open Go.Proofs
def eU (t:Ty):D:= .int .u8 (t.val:Int)
theorem fr_0 (f:Fr):(eFr f)[0]? =some (.int .i64 f.loc):=rfl
theorem fr_1 (f:Fr):(eFr f)[1]? =some (.int .i64 f.h):=rfl
theorem fr_at (f:Fr) (i:Nat) (h:i<24):(eFr f)[2+i]? =some (.int .u8 (f.sl[i].val:Int)):=by
 rw[show 2+i=i+1+1 by omega]
 simp only[eFr,List.getElem?_cons_succ,List.getElem?_map]
 rw[List.getElem?_eq_getElem (by simpa using h)]
 simp
theorem eqAll_from {m n:Nat} (xs ys:List Ty) (hx:xs.length=n) (hy:ys.length=n):∀(k s:Nat),s+k=n→
  eqAll Tryz.prog (eqV Tryz.prog (m+1)) (xs.map eU) (ys.map eU) ((List.range' s k).map fun i=>(35,i*1))=some (decide (xs.drop s=ys.drop s))
 |0,s,h=>by
  rw[List.drop_eq_nil_of_le (by omega),List.drop_eq_nil_of_le (by omega)]
  rfl
 |k+1,s,h=>by
  have h1:s<xs.length:=by omega
  have h2:s<ys.length:=by omega
  rw[List.range'_succ,List.map_cons,eqAll,Nat.mul_one]
  have p1:partD Tryz.prog 35 (xs.map eU) s=some (eU xs[s]):=by simp[partD,Tryz.agg35,Tryz.sz35,h1]
  have p2:partD Tryz.prog 35 (ys.map eU) s=some (eU ys[s]):=by simp[partD,Tryz.agg35,Tryz.sz35,h2]
  rw[p1,p2,eqAll_from xs ys hx hy k (s+1) (by omega),List.drop_eq_getElem_cons h1,List.drop_eq_getElem_cons h2]
  simp only[eU,eqV_int Tryz.underlying35]
  congr 1
  rw[Bool.eq_iff_iff]
  simp only[Bool.and_eq_true,decide_eq_true_eq,List.cons.injEq,eT_eq]
theorem eq_fr (f g:Fr):eqV Tryz.prog 10 38 (.agg (eFr f)) (.agg (eFr g))=some (decide (f=g)):=by
 have h1:Tryz.prog.stoodInHeld 38=false:=by kernel_rfl
 have h2:(Tryz.prog.info? 35).isSome=true:=by kernel_rfl
 have h3:Tryz.prog.cellsOf 35=1:=by kernel_rfl
 have t:∀f:Fr,((eFr f).drop 2).take 24=f.sl.toList.map eU:=fun f=>by
  rw[List.take_of_length_le (by simp[eFr])]
  rfl
 rw[show(10:Nat)=8+1+1 from rfl,eqV_struct Tryz.underlying38 h1 rfl]
 simp only[fsParts,List.map_cons,List.map_nil,eqAll]
 simp -implicitDefEqProofs only[go_sem,fr_0,fr_1,t,za6,eqV_int Tryz.underlying3]
 rw[eqV_array Tryz.underlying36 h2,h3,List.range_eq_range',eqAll_from f.sl.toList g.sl.toList (by simp) (by simp) 24 0 rfl]
 obtain⟨a,b,c⟩:=f
 obtain⟨a',b',c'⟩:=g
 simp only[List.drop_zero,Bool.and_true]
 congr 1
 rw[Bool.eq_iff_iff]
 simp[Fr.mk.injEq,Vector.toList_inj]
def shapedB (f:Fr):Bool:=decide (0≤f.loc∧f.loc≤16∧0≤f.h∧f.h≤24-f.loc)
theorem shaped123 (f:Fr):PCall Tryz.prog 148 [.agg (eFr f)] (.bool (shapedB f)):=by
 refine F148.pcall' rfl fun T hT=> ?_
 simp -implicitDefEqProofs only[go_sem,c148,hT,za6]
 refine fun b=> ?_
 simp -implicitDefEqProofs only[go_sem,mmB,hT,za6,fr_0,fr_1,gdD]
 refine zf3 ?_
 rw[Bool.eq_iff_iff]
 simp only[shapedB,Bool.and_eq_true,decide_eq_true_eq,and_assoc]
 constructor
 ·rintro⟨h1,h2,h3,h4⟩
  rw[zb7 (by omega) (by omega)] at h4
  exact⟨h1,h2,h3,h4⟩
 ·rintro⟨h1,h2,h3,h4⟩
  rw[zb7 (by omega) (by omega)]
  exact⟨h1,h2,h3,h4⟩
theorem refShape86 (f:Fr):PCall Tryz.prog 69 [.agg (eFr f)] (.bool (shapedB f)):=by
 refine F69.pcall' rfl fun T hT=> ?_
 simp -implicitDefEqProofs only[go_sem,c69,hT,za6]
 refine fun b=> ?_
 simp -implicitDefEqProofs only[go_sem,mmB,hT,za6,fr_0,fr_1,gdD]
 refine zf3 ?_
 rw[Bool.eq_iff_iff]
 simp only[shapedB,Bool.and_eq_true,decide_eq_true_eq,and_assoc]
 constructor
 ·rintro⟨h1,h2,h3,h4,h5⟩
  rw[zb7 (by omega) (by omega)] at h5
  exact⟨h1,h2,h3,by omega⟩
 ·rintro⟨h1,h2,h3,h4⟩
  rw[zb7 (by omega) (by omega)]
  exact⟨h1,h2,h3,by omega,by omega⟩
def bareF (f:Fr):Fr:=⟨f.loc,f.h,Vector.ofFn fun i=>if(i.val:Int)<f.loc+f.h then f.sl[i.val] else 0⟩
theorem fr_tail (f:Fr):(eFr f).drop 2=f.sl.toList.map eU:=rfl
theorem map24 (f:Fr):List.take 24 (List.map eU f.sl.toList)=List.map eU f.sl.toList:=List.take_of_length_le (by simp)
theorem len24 (f:Fr):(List.map eU f.sl.toList).length=24:=by simp
theorem bare_list (f:Fr) {k:Nat} (hk:f.loc+f.h=k) (h24:k≤24):
  List.take (min 24 (k-0)) (List.map eU f.sl.toList)++List.drop (2+(List.take (min 24 (k-0)) (List.map eU f.sl.toList)).length) (D.int .i64 f.loc::D.int .i64 f.h::List.replicate 24 (D.int .u8 0))=List.map eU (bareF f).sl.toList:=by
 have h1:min 24 (k-0)=k:=by omega
 have h2:(List.take k (List.map eU f.sl.toList)).length=k:=by simp; omega
 rw[h1,h2,show 2+k=k+1+1 by omega,List.drop_succ_cons,List.drop_succ_cons,List.drop_replicate]
 apply List.ext_getElem
 ·simp; omega
 ·intro i hi hi'
  have hi24:i<24:=by simpa using hi'
  by_cases hik:i<k
  ·rw[List.getElem_append_left (by rw[h2]; exact hik)]
   simp[bareF,eU,show(i:Int)<f.loc+f.h by omega]
  ·rw[List.getElem_append_right (by rw[h2]; omega)]
   simp[bareF,eU,show ¬(i:Int)<f.loc+f.h by omega]
theorem fr_eq (g:Fr):eFr g=D.int .i64 g.loc::D.int .i64 g.h::List.map eU g.sl.toList:=rfl
theorem bare_loc (f:Fr):(bareF f).loc=f.loc:=by unfold bareF; rfl
theorem bare_h (f:Fr):(bareF f).h=f.h:=by unfold bareF; rfl
theorem fr_bare (f:Fr):(D.int .i64 f.loc::D.int .i64 f.h::List.map eU (bareF f).sl.toList)=eFr (bareF f):=by
 rw[fr_eq (bareF f),bare_loc,bare_h]
theorem bare124 (f:Fr) (hs:shapedB f=true):PCall Tryz.prog 149 [.agg (eFr f)] (.agg (eFr (bareF f))):=by
 simp only[shapedB,decide_eq_true_eq] at hs
 obtain⟨k,hk⟩:∃k:Nat,f.loc+f.h=k:=⟨(f.loc+f.h).toNat,by omega⟩
 have hw:IntKind.wrap .i64 (f.loc+f.h)=(k:Int):=by rw[zb7 (by omega) (by omega),hk]
 refine F149.pcall' rfl fun T hT=> ?_
 simp -implicitDefEqProofs only[go_sem,c149,hT,za6]
 intro b1 b2 n1 n2
 simp -implicitDefEqProofs only[go_sem,hT,za6,fr_0,fr_1,gdD,n1,n2]
 intro b3 m1 m2 m3 m4
 have key:=bare_list f hk (by omega)
 simp only[List.replicate_succ,List.replicate_zero] at key
 simp -implicitDefEqProofs only[go_sem,hT,za6,fr_0,fr_1,gdD,n1,n2,m1,m2,m3,m4,za4,hw,fr_tail,key,map24,len24]
 refine⟨by omega,by omega,by omega,by omega, ?_⟩
 rw[fr_bare]
 exact DLe.refl _
theorem fr_idx (f:Fr) {i:Nat} (h:i<24):(List.map eU f.sl.toList)[i]? =some (.int .u8 (f.sl[i].val:Int)):=by
 rw[List.getElem?_map,List.getElem?_eq_getElem (by simpa using h)]
 simp[eU]
theorem refBare151 (f:Fr) (hs:shapedB f=true):PCall Tryz.prog 136 [.agg (eFr f)] (.agg (eFr (bareF f))):=by
 simp only[shapedB,decide_eq_true_eq] at hs
 obtain⟨k,hk⟩:∃k:Nat,f.loc+f.h=k:=⟨(f.loc+f.h).toNat,by omega⟩
 have hw:IntKind.wrap .i64 (f.loc+f.h)=(k:Int):=by rw[zb7 (by omega) (by omega),hk]
 refine F136.pcall' rfl fun T hT=> ?_
 simp -implicitDefEqProofs only[go_sem,c136,hT,za6]
 intro b1 b2 n1 n2
 simp -implicitDefEqProofs only[go_sem,hT,za6,fr_0,fr_1,gdD,n1,n2,hw]
 generalize hz:(D.int .i64 0::D.int .i64 0::_:List D)=z0
 have hzd:z0.drop 26=[]:=by rw[←hz]; rfl
 have hz26:z0.length=26:=by rw[←hz]; rfl
 let g:Nat→Fr:=fun i=>⟨f.loc,f.h,Vector.ofFn fun j=>if j.val<k∨i≤j.val then f.sl[j.val] else 0⟩
 have g0:g k=f:=by
  obtain⟨a,b,c⟩:=f
  simp only[g,Fr.mk.injEq,true_and]
  apply Vector.ext
  intro j hj
  simp only[Vector.getElem_ofFn]
  rw[if_pos (by omega)]
 have gl:g 24=bareF f:=by
  simp only[g,bareF,Fr.mk.injEq,true_and]
  apply Vector.ext
  intro j hj
  simp only[Vector.getElem_ofFn]
  by_cases hjk:j<k
  ·rw[if_pos (.inl hjk),if_pos (by omega)]
  ·rw[if_neg (by omega),if_neg (by omega)]
 have gs:∀i (h24:i<24),k≤i→(⟨(g i).loc,(g i).h,(g i).sl.set i 0 h24⟩:Fr)=g (i+1):=by
  intro i h24 hi
  simp only[g,Fr.mk.injEq,true_and]
  apply Vector.ext
  intro j hj
  simp only[Vector.getElem_set,Vector.getElem_ofFn]
  split
  ·rename_i he; subst he; rw[if_neg (by omega)]
  ·rename_i he
   by_cases h1:j<k∨i≤j
   ·rw[if_pos h1,if_pos (by omega)]
   ·rw[if_neg h1,if_neg (by omega)]
 clear_value g
 refine loopL F136 (fun i:Nat=>[(1,.ptr b1 0),(2,.ptr b2 0),(3,.int .i64 i)]) (fun i=>(({}:St).set b1 (eFr (g i))).set b2 z0) (fun i=>k≤i∧i≤24) (fun i=>24-i) k ⟨Nat.le_refl _,by omega⟩ ?_ (by rw[g0]; exact St.le.refl _) ?_
 ·simp -implicitDefEqProofs only[go_sem,hT]
 clear hT T
 rintro i ⟨hi,h24⟩ T hT
 by_cases h:i<24
 ·have h1:((i:Int)<24)=True:=by simp; omega
  have hset:=fr_set (f:=g i) (i:=i) h (t:=0)
  have h00:(((0:Ty).val:Nat):Int)=0:=rfl
  rw[gs i h hi,h00] at hset
  simp -implicitDefEqProofs only[go_sem,hT,h1,za6,n1,n2,Nat.mul_one,hset]
  refine⟨by omega,by omega,i+1,⟨by omega,by omega⟩,by omega, ?_, ?_⟩
  ·rw[zb7 (by omega) (by omega)]; simp
  ·rw[Go.AL.set_comm (σ:=({}:St).set b1 (eFr (g i))) (show b2≠b1 from fun e=>by simp_all),za4]
   exact St.le.refl _
 ·have h1:((i:Int)<24)=False:=by simp; omega
  obtain rfl:i=24:=by omega
  simp -implicitDefEqProofs only[go_sem,hT,h1,za6,n1,n2,za5,ze7,hz26,hzd]
  rw[gl]
  exact DLe.refl _
def checkF (c:Nat) (f:Fr):Nat:=if shapedB f=false∨bareF f≠f then 32 else if(f.sl.toList.any fun t=> !validN c t)=true then 22 else 0
theorem check81 (l:List Cl) (o:Own) (f:Fr):PCall Tryz.prog 117 [.slice o (rws eC l),.agg (eFr f)] (.int .i64 (checkF l.length f)):=by
 refine F117.pcall' rfl fun T hT=> ?_
 simp -implicitDefEqProofs only[go_sem,c117,hT,za6]
 intro b3
 simp -implicitDefEqProofs only[go_sem,hT,za6,za5]
 refine⟨by rintro b rfl; simp,za3 (shaped123 f) ?_⟩
 cases hs:shapedB f
 ·simp -implicitDefEqProofs only[go_sem,hT]
  exact DLe.of_eq (by rw[checkF,if_pos (.inl hs)]; rfl)
 simp -implicitDefEqProofs only[go_sem,hT,za6,za5]
 refine za3 (bare124 f hs) ?_
 by_cases hb:bareF f=f
 case neg=>
  simp -implicitDefEqProofs only[go_sem,hT,za6,za5,eq_fr,hb]
  exact DLe.of_eq (by rw[checkF,if_pos (.inr hb)]; rfl)
 have hc:checkF l.length f=if(f.sl.toList.any fun t=> !validN l.length t)=true then 22 else 0:=by
  rw[checkF,if_neg (by simp[hs,hb])]
 rw[hc,hb]
 have hl24:f.sl.toList.length=24:=by simp
 have hl24':f.sl.size=24:=by simp
 simp -implicitDefEqProofs only[go_sem,hT,za6,za5,eq_fr,decide_true,fr_tail,map24,hl24,len24,Nat.le_refl,List.length_map,Vector.length_toList]
 refine loopL F117 (fun i:Nat=>[(0,.slice o (rws eC l)),(17,.agg (List.map eU f.sl.toList)),(18,.int .i64 i)]) (fun _=>{}) (fun i=>i≤24∧((f.sl.toList.take i).any fun t=> !validN l.length t)=false) (fun i=>24-i) 0 ⟨by omega,rfl⟩ ?_ (St.le.nil _) ?_
 ·simp -implicitDefEqProofs only[go_sem,hT,Int.ofNat_zero]
 clear hT T
 rintro i ⟨hi,hok⟩ T hT
 by_cases h:i<24
 ·have h1:((i:Int)<24)=True:=by simp; omega
  have hx:=fr_idx f h
  have hl:i<f.sl.toList.length:=by simpa using h
  have htake:f.sl.toList.take (i+1)=f.sl.toList.take i++[f.sl[i]]:=by rw[List.take_succ_eq_append_getElem hl]; simp
  have hin:f.sl[i]∈f.sl.toList:=by simp
  generalize f.sl[i]=t at *
  simp -implicitDefEqProofs only[go_sem,hT,h1,hx,Nat.mul_one]
  refine⟨by omega,za3 (valid105 l o t) ?_⟩
  cases hv:validN l.length t
  ·simp -implicitDefEqProofs only[go_sem,hT]
   rw[if_pos (List.any_eq_true.2 ⟨t,hin,by simp[hv]⟩)]
   exact DLe.of_eq rfl
  ·simp -implicitDefEqProofs only[go_sem,hT]
   refine⟨i+1,⟨by omega,by rw[htake,List.any_append,hok]; simp[hv]⟩,by omega, ?_,St.le.refl _⟩
   rw[zb7 (by omega) (by omega)]; simp
 ·have h1:((i:Int)<24)=False:=by simp; omega
  rw[List.take_of_length_le (by simp; omega)] at hok
  simp -implicitDefEqProofs only[go_sem,hT,h1]
  rw[if_neg (by simp[hok])]
  exact DLe.of_eq rfl
open Go.Proofs
@[irreducible] def zFr:List D:=[D.int .i64 0,D.int .i64 0,D.int .u8 0,D.int .u8 0,D.int .u8 0,D.int .u8 0,D.int .u8 0,D.int .u8 0,D.int .u8 0,D.int .u8 0,D.int .u8 0,D.int .u8 0,D.int .u8 0,D.int .u8 0,D.int .u8 0,D.int .u8 0,D.int .u8 0,D.int .u8 0,D.int .u8 0,D.int .u8 0,D.int .u8 0,D.int .u8 0,D.int .u8 0,D.int .u8 0,D.int .u8 0,D.int .u8 0]
theorem zb4:[D.int .i64 0,D.int .i64 0,D.int .u8 0,D.int .u8 0,D.int .u8 0,D.int .u8 0,D.int .u8 0,D.int .u8 0,D.int .u8 0,D.int .u8 0,D.int .u8 0,D.int .u8 0,D.int .u8 0,D.int .u8 0,D.int .u8 0,D.int .u8 0,D.int .u8 0,D.int .u8 0,D.int .u8 0,D.int .u8 0,D.int .u8 0,D.int .u8 0,D.int .u8 0,D.int .u8 0,D.int .u8 0,D.int .u8 0]=zFr:=by rw[zFr]
theorem fr_fr0:eFr (fr0 0)=zFr:=by rw[zFr]; rfl
theorem zb5:zFr.length=26:=by rw[zFr]; rfl
theorem za9:zFr.take 26=zFr:=by rw[zFr]; rfl
theorem za8:zFr.drop 26=[]:=by rw[zFr]; rfl
def slAt (f:Fr) (i:Nat):Ty:=(f.sl.toList[i]?).getD 0
theorem slAt_lt (f:Fr) {i:Nat} (h:i<24):slAt f i=f.sl[i]:=by
 rw[slAt,List.getElem?_eq_getElem (by simpa using h)]
 simp
theorem fr_slAt (f:Fr) {i:Nat} (h:i<24):(eFr f)[2+i]? =some (.int .u8 ((slAt f i).val:Int)):=by rw[fr_at f i h,slAt_lt f h]
theorem shaped_of {f:Fr} (h:shapedB f=true):0≤f.loc∧f.loc≤16∧0≤f.h∧f.loc+f.h≤24:=by
 simp only[shapedB,decide_eq_true_eq] at h
 omega
def bXdaV0:=aI @zb4 (aI @zb5 (aI @za9 (aI @za8 @za6)))
def bXdaV1:=aI @zb4 (aI @zb5 (aI @za9 (aI @za8 (aI @za6 @za5))))
theorem top127 (f:Fr) (hs:shapedB f=true) (n:Nat) (hn:(n:Int)<f.h):PCall Tryz.prog 151 [.agg (eFr f),.int .i64 n] (.tup [.int .u8 (slAt f (f.loc+f.h-1-n).toNat).val,.int .i64 0]):=by
 obtain⟨s1,s2,s3,s4⟩:=shaped_of hs
 have w1:IntKind.wrap .i64 (f.loc+f.h)=f.loc+f.h:=zb7 (by omega) (by omega)
 have w2:IntKind.wrap .i64 (f.loc+f.h-1)=f.loc+f.h-1:=zb7 (by omega) (by omega)
 have w3:IntKind.wrap .i64 (f.loc+f.h-1-n)=f.loc+f.h-1-n:=zb7 (by omega) (by omega)
 have g1:((n:Int)<0)=False:=by simp
 have g2:(f.h≤(n:Int))=False:=by simp; omega
 have hx:=fr_slAt f (show(f.loc+f.h-1-n).toNat<24 by omega)
 refine F151.pcall' rfl fun T hT=> ?_
 simp -implicitDefEqProofs only[go_sem,c151,hT,bXdaV0]
 intro b1
 simp -implicitDefEqProofs only[go_sem,hT,bXdaV1]
 refine za3 (shaped123 f) ?_
 simp -implicitDefEqProofs only[go_sem,zb4,zb5,za9,za8,hT,hs,za6,fr_0,fr_1,gdD,g1,g2,w1,w2,w3,hx,Nat.mul_one]
 omega
theorem load84 (f:Fr) (hs:shapedB f=true) (a:Int) (h0:0≤a) (h1:a<f.loc):PCall Tryz.prog 120 [.agg (eFr f),.int .i64 a] (.tup [.int .u8 (slAt f a.toNat).val,.int .i64 0]):=by
 obtain⟨s1,s2,s3,s4⟩:=shaped_of hs
 have g1:(decide (a<0)||decide (f.loc≤a))=false:=by simp; omega
 have hx:=fr_slAt f (show a.toNat<24 by omega)
 refine F120.pcall' rfl fun T hT=> ?_
 simp -implicitDefEqProofs only[go_sem,c120,hT,bXdaV0]
 intro b1
 simp -implicitDefEqProofs only[go_sem,hT,bXdaV1]
 refine za3 (shaped123 f) ?_
 simp -implicitDefEqProofs only[go_sem,mmB,zb4,zb5,za9,za8,hT,hs,za6,fr_0,fr_1,gdD,g1,hx,Nat.mul_one]
 omega
def popF (f:Fr):Fr:=bareF ⟨f.loc,f.h-1,f.sl⟩
def topF (f:Fr):Ty:=slAt f (f.loc+f.h-1).toNat
theorem fr_h (f:Fr) (n:Int):List.take 1 (eFr f)++[D.int .i64 n]++List.drop 2 (eFr f)=eFr ⟨f.loc,n,f.sl⟩:=rfl
theorem pop_shape {f:Fr} (hs:shapedB f=true) (h0:0<f.h):shapedB ⟨f.loc,f.h-1,f.sl⟩=true:=by
 have:=shaped_of hs
 simp only[shapedB,decide_eq_true_eq]; omega
theorem pop129 (f:Fr) (hs:shapedB f=true) (h0:0<f.h):PCall Tryz.prog 153 [.agg (eFr f)] (.tup [.agg (eFr (popF f)),.int .u8 (topF f).val,.int .i64 0]):=by
 obtain⟨s1,s2,s3,s4⟩:=shaped_of hs
 have w1:IntKind.wrap .i64 (f.h-1)=f.h-1:=zb7 (by omega) (by omega)
 have ht:=top127 f hs 0 (by simpa using h0)
 rw[show f.loc+f.h-1-((0:Nat):Int)=f.loc+f.h-1 by omega] at ht
 refine F153.pcall' rfl fun T hT=> ?_
 simp -implicitDefEqProofs only[go_sem,c153,hT,bXdaV0]
 intro b1 b2 n1 n2
 simp -implicitDefEqProofs only[go_sem,hT,n1,n2,bXdaV1]
 refine za3 ht ?_
 simp -implicitDefEqProofs only[go_sem,zb4,zb5,za9,za8,hT,za6,za5,n1,n2,fr_1,w1,fr_h,za4,gdD,ze7,anD]
 refine za3 (bare124 _ (pop_shape hs h0)) ?_
 simp -implicitDefEqProofs only[go_sem,zb4,zb5,za9,za8,hT,za6,za5,n1,n2,zb0,za4]
 exact DLe.refl _
theorem refPop118 (f:Fr) (hs:shapedB f=true) (h0:0<f.h):PCall Tryz.prog 99 [.agg (eFr f)] (.tup [.agg (eFr (popF f)),.int .u8 (topF f).val,.int .i64 0]):=by
 obtain⟨s1,s2,s3,s4⟩:=shaped_of hs
 have w1:IntKind.wrap .i64 (f.h-1)=f.h-1:=zb7 (by omega) (by omega)
 have w2:IntKind.wrap .i64 (f.loc+f.h)=f.loc+f.h:=zb7 (by omega) (by omega)
 have w3:IntKind.wrap .i64 (f.loc+f.h-1)=f.loc+f.h-1:=zb7 (by omega) (by omega)
 have hx:=fr_slAt f (show(f.loc+f.h-1).toNat<24 by omega)
 have g1:(f.h=0)=False:=by simp; omega
 refine F99.pcall' rfl fun T hT=> ?_
 simp -implicitDefEqProofs only[go_sem,c99,hT,bXdaV0]
 intro b1 b2 n1 n2
 simp -implicitDefEqProofs only[go_sem,hT,n1,n2,bXdaV1]
 refine za3 (refShape86 f) ?_
 simp -implicitDefEqProofs only[go_sem,zb4,zb5,za9,za8,hT,hs,za6,za5,n1,n2,fr_0,fr_1,g1,w1,w2,w3,fr_h,za4,gdD,hx,Nat.mul_one,ze7,anD]
 refine⟨by omega, ?_⟩
 refine za3 (refBare151 _ (pop_shape hs h0)) ?_
 simp -implicitDefEqProofs only[go_sem,zb4,zb5,za9,za8,hT,za6,za5,n1,n2,zb0,za4]
 exact DLe.refl _
theorem bare_shape {f:Fr}:shapedB (bareF f)=shapedB f:=by simp only[shapedB,bare_loc,bare_h]
theorem bare_bare {f:Fr}:bareF (bareF f)=bareF f:=by
 simp only[bareF,Fr.mk.injEq,true_and]
 apply Vector.ext
 intro j hj
 simp only[Vector.getElem_ofFn]
 split <;> rfl
def setF (f:Fr) (a:Int) (t:Ty):Fr:=⟨f.loc,f.h,if h:a.toNat<24 then f.sl.set a.toNat t h else f.sl⟩
theorem setF_loc {f:Fr} {a:Int} {t:Ty}:(setF f a t).loc=f.loc:=by unfold setF; rfl
theorem setF_h {f:Fr} {a:Int} {t:Ty}:(setF f a t).h=f.h:=by unfold setF; rfl
theorem fr_setF {f:Fr} {a:Int} (h0:0≤a) (h:a<24) {t:Ty}:(eFr f).take (2+a.toNat)++[D.int .u8 (t.val:Int)]++(eFr f).drop (2+a.toNat+1)=eFr (setF f a t):=by
 rw[setF,dif_pos (show a.toNat<24 by omega)]
 exact fr_set (by omega)
theorem store130 (f:Fr) (hs:shapedB f=true) (a:Int) (t:Ty) (h0:0≤a) (h1:a<f.loc):PCall Tryz.prog 154 [.agg (eFr f),.int .i64 a,.int .u8 t.val] (.tup [.agg (eFr (setF (bareF f) a t)),.int .i64 0]):=by
 obtain⟨s1,s2,s3,s4⟩:=shaped_of hs
 have hst:=fr_setF (f:=bareF f) (t:=t) h0 (by omega)
 refine F154.pcall' rfl fun T hT=> ?_
 simp -implicitDefEqProofs only[go_sem,c154,hT,bXdaV0]
 intro b1 b2 n1 n2
 simp -implicitDefEqProofs only[go_sem,hT,n1,n2,bXdaV1]
 refine za3 (load84 f hs a h0 h1) ?_
 simp -implicitDefEqProofs only[go_sem,hT,n1,n2,bXdaV1]
 refine za3 (bare124 f hs) ?_
 simp -implicitDefEqProofs only[go_sem,zb4,zb5,za9,za8,hT,za6,za5,n1,n2,za4,ze7,anD,hst,Nat.mul_one,zb0,gdD]
 omega
def pushF (f:Fr) (t:Ty):Fr×Nat:=if f.loc+f.h=24 then(fr0 0,31) else(⟨f.loc,f.h+1,(setF (bareF f) (f.loc+f.h) t).sl⟩,0)
def bXdaV2:=aI @zb4 (aI @zb5 (aI @za9 (aI @za8 (aI @za6 (aI @za5 (aI @fr_0 (aI @fr_1 (aI @zb0 (aI @za4 @gdD)))))))))
theorem push131 (f:Fr) (hs:shapedB f=true) (t:Ty):PCall Tryz.prog 155 [.agg (eFr f),.int .u8 t.val] (.tup [.agg (eFr (pushF f t).1),.int .i64 (pushF f t).2]):=by
 obtain⟨s1,s2,s3,s4⟩:=shaped_of hs
 have w1:IntKind.wrap .i64 (f.loc+f.h)=f.loc+f.h:=zb7 (by omega) (by omega)
 have w2:IntKind.wrap .i64 (f.h+1)=f.h+1:=zb7 (by omega) (by omega)
 refine F155.pcall' rfl fun T hT=> ?_
 simp -implicitDefEqProofs only[go_sem,c155,hT,bXdaV0]
 intro b1 b2 n1 n2
 simp -implicitDefEqProofs only[go_sem,hT,n1,n2,bXdaV1]
 refine za3 (shaped123 f) ?_
 by_cases h24:f.loc+f.h=24
 ·have h24':(f.loc+f.h=24)=True:=by simp[h24]
  simp -implicitDefEqProofs only[go_sem,hT,hs,n1,n2,w1,h24',bXdaV2]
  rw[pushF,if_pos h24,fr_fr0]
  exact DLe.refl _
 simp -implicitDefEqProofs only[go_sem,hT,hs,n1,n2,w1,h24,bXdaV2]
 refine za3 (bare124 f hs) ?_
 have hst:=fr_setF (f:=bareF f) (a:=f.loc+f.h) (t:=t) (by omega) (by omega)
 simp -implicitDefEqProofs only[go_sem,zb4,zb5,za9,za8,hT,za6,za5,n1,n2,za4,ze7,anD,fr_0,fr_1,bare_loc,bare_h,w1,hst,setF_loc,setF_h,w2,fr_h,Nat.mul_one,zb0,gdD]
 refine⟨by omega,by omega, ?_⟩
 rw[pushF,if_neg h24]
 exact DLe.refl _
theorem refPush119 (f:Fr) (hs:shapedB f=true) (t:Ty):PCall Tryz.prog 100 [.agg (eFr f),.int .u8 t.val] (.tup [.agg (eFr (pushF f t).1),.int .i64 (pushF f t).2]):=by
 obtain⟨s1,s2,s3,s4⟩:=shaped_of hs
 have w1:IntKind.wrap .i64 (f.loc+f.h)=f.loc+f.h:=zb7 (by omega) (by omega)
 have w2:IntKind.wrap .i64 (f.h+1)=f.h+1:=zb7 (by omega) (by omega)
 refine F100.pcall' rfl fun T hT=> ?_
 simp -implicitDefEqProofs only[go_sem,c100,hT,bXdaV0]
 intro b1 b2 n1 n2
 simp -implicitDefEqProofs only[go_sem,hT,n1,n2,bXdaV1]
 refine za3 (refShape86 f) ?_
 by_cases h24:f.loc+f.h=24
 ·have h24':(f.loc+f.h=24)=True:=by simp[h24]
  simp -implicitDefEqProofs only[go_sem,hT,hs,n1,n2,w1,h24',bXdaV2]
  rw[pushF,if_pos h24,fr_fr0]
  exact DLe.refl _
 simp -implicitDefEqProofs only[go_sem,hT,hs,n1,n2,w1,h24,bXdaV2]
 refine za3 (refBare151 f hs) ?_
 have hst:=fr_setF (f:=bareF f) (a:=f.loc+f.h) (t:=t) (by omega) (by omega)
 simp -implicitDefEqProofs only[go_sem,zb4,zb5,za9,za8,hT,za6,za5,n1,n2,za4,ze7,anD,fr_0,fr_1,bare_loc,bare_h,w1,hst,setF_loc,setF_h,w2,fr_h,Nat.mul_one,zb0,gdD]
 refine⟨by omega,by omega, ?_⟩
 rw[pushF,if_neg h24]
 exact DLe.refl _
end Go.AL
