/- Texts of a proof: no condition. -/
import Derived.Test.YtmhdgdehbkjhhaaGreatSeatPg
set_option autoImplicit true
set_option relaxedAutoImplicit true
set_option linter.all false
set_option linter.unusedVariables false
set_option linter.unusedSimpArgs false
set_option linter.unusedVariables false
namespace Go.L1
open Go Go.Proofs
abbrev R3 := Value × H × List Nat
noncomputable abbrev bI (op : BinOp) (x y : Value) : Option Value := binV pgB.ty (tyD (.int .i64)) op x y
abbrev jn3 {ρ : Type} (K : List Value → H → List Nat → Option ρ) (F : (List Value → H → List Nat → Option ρ) → Option ρ) : Option ρ := jn K F
--
noncomputable def F_k7_L2042 (call:CallF) (lp:LoopF) : List Value → H → Option LOut := fun s73 h74 =>
 ob (bI .lss (nt s73 5) (nt s73 0)) fun v75 =>
 jn3 (fun s77 h78 l79 =>
 jn3 (fun s81 h82 l83 =>
 ob (bI .add (nt s81 5) (.int .i64 1)) fun v84 =>
 some ⟨.normal,[nt s81 0,nt s81 1,nt s81 2,nt s81 3,nt s81 4,v84,nt s81 6,nt s81 7,nt s81 8,nt s81 9,nt s81 10,nt s81 11,nt s81 12,nt s81 13,nt s81 14,nt s81 15,nt s81 16,nt s81 17,nt s81 18,nt s81 19,nt s81 20,nt s81 21],h82,l83⟩) fun j80 =>
 hv (call (.fn N_k30) [nt s77 5] h78) fun v85 h86 l87 =>
 hv (call (.fn N_k31) [(.string ⟨#[120]⟩)] h86) fun v88 h89 l90 =>
 al (aBuildS pgB h89.n T_Lapi_Value 2 [(0,v85),(1,v88)]) h89 fun v91 h92 =>
 ob (oBuild pgB T_api_Op [(0,(.int .i64 1)),(1,(.string ⟨#[108,97,110,100]⟩)),(4,v91)]) fun v93 =>
 al (aBuildS pgB h92.n T_Lapi_Op 1 [(0,v93)]) h92 fun v94 h95 =>
 hv (rApp h95 T_api_Op 5 72 [(.int .i64 0),(.string ⟨#[]⟩),(.int .i64 0),(.string ⟨#[]⟩),(.slice none 0 0)] (nt s77 4) v94) fun v96 h97 l98 =>
 j80 [nt s77 0,nt s77 1,nt s77 2,nt s77 3,v96,nt s77 5,nt s77 6,nt s77 7,nt s77 8,nt s77 9,nt s77 10,nt s77 11,nt s77 12,nt s77 13,nt s77 14,nt s77 15,nt s77 16,nt s77 17,nt s77 18,nt s77 19,nt s77 20,nt s77 21] h97 (l98 ++ (l90 ++ (l87 ++ l79)))) fun j76 => fork v75
 (j76 [nt s73 0,nt s73 1,nt s73 2,nt s73 3,nt s73 4,nt s73 5,nt s73 6,nt s73 7,nt s73 8,nt s73 9,nt s73 10,nt s73 11,nt s73 12,nt s73 13,nt s73 14,nt s73 15,nt s73 16,nt s73 17,nt s73 18,nt s73 19,nt s73 20,nt s73 21] h74 [])
 (some ⟨(.exit 0),[nt s73 0,nt s73 1,nt s73 2,nt s73 3,nt s73 4,nt s73 5,nt s73 6,nt s73 7,nt s73 8,nt s73 9,nt s73 10,nt s73 11,nt s73 12,nt s73 13,nt s73 14,nt s73 15,nt s73 16,nt s73 17,nt s73 18,nt s73 19,nt s73 20,nt s73 21],h74,[]⟩)
noncomputable def F_k7 (call:CallF) (lp:LoopF) (x0:Value) (h:H) : Option R3 :=
 hv (call (.fn N_k24) [] h) fun v0 h1 l2 =>
 ob (unV .not v0) fun v3 =>
 jn3 (fun s5 h6 l7 =>
 ob (bI .lss (nt s5 0) (.int .i64 0)) fun v8 =>
 gP (gd v8 false) (some (nt s5 0)) fun v9 =>
 gP (gd v8 false) (bI .gtr v9 (.int .i64 60)) fun v10 =>
 ob (rPick v8 (.bool true) v10) fun v11 =>
 jn3 (fun s13 h14 l15 =>
 hv (call (.fn N_k12) [] h14) fun v16 h17 l18 =>
 ob (rExtract 0 v16) fun v19 =>
 ob (rExtract 1 v16) fun v20 =>
 jn3 (fun s22 h23 l24 =>
 hv (call (.fn N_k25) [nt s22 1,nt s22 3] h23) fun v25 h26 l27 =>
 ob (rExtract 0 v25) fun v28 =>
 ob (rExtract 1 v25) fun v29 =>
 al (aNew h26.n T_api_Fault [(.int .i64 0),(.int .i64 0),(.string ⟨#[]⟩),(.int .i64 0),(.string ⟨#[]⟩)]) h26 fun v30 h31 =>
 hv (rStore h31 5 v30 v29) fun v32 h33 l34 =>
 hv (call (.fn N_k26) [nt s22 2,nt s22 3] h33) fun v35 h36 l37 =>
 ob (rExtract 0 v35) fun v38 =>
 ob (rExtract 1 v35) fun v39 =>
 al (aNew h36.n T_api_Fault [(.int .i64 0),(.int .i64 0),(.string ⟨#[]⟩),(.int .i64 0),(.string ⟨#[]⟩)]) h36 fun v40 h41 =>
 hv (rStore h41 5 v40 v39) fun v42 h43 l44 =>
 ob (rLdA h43.get 5 v30) fun v45 =>
 ob (rLdA h43.get 5 v40) fun v46 =>
 hv (call (.fn N_k27) [v45,v46] h43) fun v47 h48 l49 =>
 gP (gd v47 true) (some v28) fun v50 =>
 gP (gd v47 true) (some v38) fun v51 =>
 hv (gV (gd v47 true) (call (.fn N_k28) [v50,v51] h48) h48) fun v52 h53 l54 =>
 ob (rPick v47 v52 (.bool false)) fun v55 =>
 gP (gd v55 true) (rFld 0 v30) fun v56 =>
 gP (gd v55 true) (rLd1 h53.get v56) fun v57 =>
 gP (gd v55 true) (bI .eql v57 (.int .i64 0)) fun v58 =>
 gP (gd v55 true) (some (nt s22 0)) fun v59 =>
 gP (gd v55 true) (bI .geq v59 (.int .i64 1)) fun v60 =>
 gP (gd v55 true) (some v60) fun v61 =>
 gP (gd v61 true) (some (nt s22 0)) fun v62 =>
 gP (gd v61 true) (bI .leq v62 (.int .i64 40)) fun v63 =>
 gP (gd v55 true) (rPick v61 v63 (.bool false)) fun v64 =>
 gP (gd v55 true) (binV pgB.ty (tyD .bool) .eql v58 v64) fun v65 =>
 ob (rPick v55 v65 (.bool false)) fun v66 =>
 gP (gd v66 true) (some (nt s22 1)) fun v67 =>
 gP (gd v66 true) (some (nt s22 2)) fun v68 =>
 hv (gV (gd v66 true) (call (.fn N_k29) [v67,v68] h53) h53) fun v69 h70 l71 =>
 ob (rPick v66 v69 (.bool false)) fun v72 =>
 fin h (rsT v72 (some [])) h70 (l71 ++ (l54 ++ (l49 ++ (l44 ++ (l37 ++ (l34 ++ (l27 ++ l24)))))))) fun j21 =>
 ob (lp (F_k7_L2042 call lp) [nt s13 0,nt s13 1,v19,v20,(.slice none 0 0),(.int .i64 0),nt s13 2,nt s13 3,nt s13 4,nt s13 5,nt s13 6,nt s13 7,nt s13 8,nt s13 9,nt s13 10,nt s13 11,nt s13 12,nt s13 13,nt s13 14,nt s13 15,nt s13 16,nt s13 17] h17) fun o99 =>
 onEx o99.ex (j21 [(nt o99.vs 0),(nt o99.vs 2),(nt o99.vs 3),(nt o99.vs 4),(nt o99.vs 6),(nt o99.vs 7),(nt o99.vs 8),(nt o99.vs 9),(nt o99.vs 10),(nt o99.vs 11),(nt o99.vs 12),(nt o99.vs 13),(nt o99.vs 14),(nt o99.vs 15),(nt o99.vs 16),(nt o99.vs 17),(nt o99.vs 18),(nt o99.vs 19),(nt o99.vs 20),(nt o99.vs 21)] o99.h (o99.lg ++ (l18 ++ l15))) (fun i100 => bif Nat.beq i100 0 then j21 [(nt o99.vs 0),(nt o99.vs 2),(nt o99.vs 3),(nt o99.vs 4),(nt o99.vs 6),(nt o99.vs 7),(nt o99.vs 8),(nt o99.vs 9),(nt o99.vs 10),(nt o99.vs 11),(nt o99.vs 12),(nt o99.vs 13),(nt o99.vs 14),(nt o99.vs 15),(nt o99.vs 16),(nt o99.vs 17),(nt o99.vs 18),(nt o99.vs 19),(nt o99.vs 20),(nt o99.vs 21)] o99.h (o99.lg ++ (l18 ++ l15)) else none) (fin h (rsT (nt o99.vs 1) (some [])) o99.h (o99.lg ++ (l18 ++ l15)))) fun j12 => fork v11
 (fin h (rsT (.bool true) (some [])) h6 l7)
 (j12 [nt s5 0,nt s5 1,nt s5 4,nt s5 5,nt s5 6,nt s5 7,nt s5 8,nt s5 9,nt s5 10,nt s5 11,nt s5 12,nt s5 13,nt s5 14,nt s5 15,nt s5 16,nt s5 17,nt s5 18,nt s5 19] h6 l7)) fun j4 => fork v3
 (fin h (rsT (.bool false) (some [])) h1 (l2 ++ []))
 (j4 [x0,(.bool false),poison,poison,poison,poison,poison,poison,poison,poison,poison,poison,poison,poison,poison,poison,poison,poison,poison,poison] h1 (l2 ++ []))

--
noncomputable def F_k9 (call:CallF) (lp:LoopF) (h:H) : Option R3 :=
 hv (call (.fn N_k12) [] h) fun v0 h1 l2 =>
 ob (rExtract 0 v0) fun v3 =>
 ob (rExtract 1 v0) fun v4 =>
 ob (binV pgB.ty (tyD (.pointer 0)) .eql v3 (.pointer none)) fun v5 =>
 gP (gd v5 false) (some v3) fun v6 =>
 hv (gV (gd v5 false) (call (.fn N_k33) [v6,(.string ⟨#[108,97,110,100]⟩)] h1) h1) fun v7 h8 l9 =>
 gP (gd v5 false) (binV pgB.ty (tyD (.pointer 0)) .eql v7 (.pointer none)) fun v10 =>
 ob (rPick v5 (.bool true) v10) fun v11 =>
 gP (gd v11 false) (some v3) fun v12 =>
 hv (gV (gd v11 false) (call (.fn N_k33) [v12,(.string ⟨#[115,104,111,112]⟩)] h8) h8) fun v13 h14 l15 =>
 gP (gd v11 false) (binV pgB.ty (tyD (.pointer 0)) .eql v13 (.pointer none)) fun v16 =>
 ob (rPick v11 (.bool true) v16) fun v17 =>
 gP (gd v17 false) (some v3) fun v18 =>
 hv (gV (gd v17 false) (call (.fn N_k33) [v18,(.string ⟨#[120]⟩)] h14) h14) fun v19 h20 l21 =>
 gP (gd v17 false) (binV pgB.ty (tyD (.pointer 0)) .neq v19 (.pointer none)) fun v22 =>
 ob (rPick v17 (.bool true) v22) fun v23 =>
 gP (gd v23 false) (some v3) fun v24 =>
 hv (gV (gd v23 false) (call (.fn N_k34) [v24] h20) h20) fun v25 h26 l27 =>
 gP (gd v23 false) (binV pgB.ty (tyD (.pointer 0)) .eql v25 (.pointer none)) fun v28 =>
 ob (rPick v23 (.bool true) v28) fun v29 =>
 jn3 (fun s31 h32 l33 =>
 ob (oBuild pgB T_api_Value [(0,(.int .i64 1)),(1,(.int .i64 1))]) fun v34 =>
 al (aNew h32.n T_api_Value [(.int .i64 0),(.int .i64 0),(.string ⟨#[]⟩)]) h32 fun v35 h36 =>
 hv (rStore h36 3 v35 v34) fun v37 h38 l39 =>
 hv (call (.fn N_k33) [nt s31 0,(.string ⟨#[108,97,110,100]⟩)] h38) fun v40 h41 l42 =>
 ob (rLdA h41.get 3 v35) fun v43 =>
 ob (oBuild pgB T_api_Value [(0,(.int .i64 2)),(2,(.string ⟨#[104,101,114,101]⟩))]) fun v44 =>
 al (aBuildS pgB h41.n T_Lapi_Value 2 [(0,v43),(1,v44)]) h41 fun v45 h46 =>
 hv (call (.fn N_k35) [v40,v45] h46) fun v47 h48 l49 =>
 dr [0,1,0,0,12,31] [mP h38,mH h38 (rdL [nt s31 0,(.string ⟨#[108,97,110,100]⟩)]) l42 h41,mR h41 (rdP v35),mP h41,mA h41 [],mH h46 (rdL [v40,v45]) l49 h48] fun l50 =>
 hv (call (.fn N_k33) [nt s31 0,(.string ⟨#[115,104,111,112]⟩)] h48) fun v51 h52 l53 =>
 ob (rLdA h52.get 3 v35) fun v54 =>
 ob (oBuild pgB T_api_Value [(0,(.int .i64 2)),(2,(.string ⟨#[120]⟩))]) fun v55 =>
 ob (oBuild pgB T_api_Value []) fun v56 =>
 ob (rLdA h52.get 3 v35) fun v57 =>
 al (aBuildS pgB h52.n T_Lapi_Value 4 [(0,v54),(1,v55),(2,v56),(3,v57)]) h52 fun v58 h59 =>
 hv (call (.fn N_k35) [v51,v58] h59) fun v60 h61 l62 =>
 ob (rExtract 0 v60) fun v63 =>
 ob (rExtract 1 v60) fun v64 =>
 dr [0,1,0,0,0,0,60,127,255,511,511,1023,4095] [mP h48,mH h48 (rdL [nt s31 0,(.string ⟨#[115,104,111,112]⟩)]) l53 h52,mR h52 (rdP v35),mP h52,mP h52,mR h52 (rdP v35),mA h52 [],mH h59 (rdL [v51,v58]) l62 h61,mP h61,mP h61,mP h61,mP h61,mP h61] fun l65 =>
 al (aBuildS pgB h61.n T_api_Path 2 [(0,(.string ⟨#[108,97,110,100]⟩)),(1,(.string ⟨#[110,97,109,101]⟩))]) h61 fun v66 h67 =>
 hv (call (.fn N_k18) [nt s31 0,(.string ⟨#[115,104,111,112]⟩),v63,v66] h67) fun v68 h69 l70 =>
 ob (rExtract 0 v68) fun v71 =>
 ob (rExtract 1 v68) fun v72 =>
 al (aNew h69.n T_api_Value [(.int .i64 0),(.int .i64 0),(.string ⟨#[]⟩)]) h69 fun v73 h74 =>
 hv (rStore h74 3 v73 v71) fun v75 h76 l77 =>
 al (aBuildS pgB h76.n T_api_Path 1 [(0,(.string ⟨#[122,111,110,101]⟩))]) h76 fun v78 h79 =>
 hv (call (.fn N_k18) [nt s31 0,(.string ⟨#[115,104,111,112]⟩),v63,v78] h79) fun v80 h81 l82 =>
 ob (rExtract 0 v80) fun v83 =>
 ob (rExtract 1 v80) fun v84 =>
 al (aNew h81.n T_api_Value [(.int .i64 0),(.int .i64 0),(.string ⟨#[]⟩)]) h81 fun v85 h86 =>
 hv (rStore h86 3 v85 v83) fun v87 h88 l89 =>
 al (aBuildS pgB h88.n T_api_Path 1 [(0,(.string ⟨#[122,111,110,101]⟩))]) h88 fun v90 h91 =>
 hv (call (.fn N_k18) [nt s31 0,(.string ⟨#[115,104,111,112]⟩),(.int .i64 9),v90] h91) fun v92 h93 l94 =>
 ob (rExtract 0 v92) fun v95 =>
 ob (rExtract 1 v92) fun v96 =>
 al (aNew h93.n T_api_Value [(.int .i64 0),(.int .i64 0),(.string ⟨#[]⟩)]) h93 fun v97 h98 =>
 hv (rStore h98 3 v97 v95) fun v99 h100 l101 =>
 ob (rLdA h100.get 3 v35) fun v102 =>
 hv (call (.fn N_k16) [nt s31 0,(.string ⟨#[108,97,110,100]⟩),v102] h100) fun v103 h104 l105 =>
 ob (rExtract 0 v103) fun v106 =>
 ob (rExtract 1 v103) fun v107 =>
 hv (call (.fn N_k36) [] h104) fun v108 h109 l110 =>
 gP (gd v108 true) (some v64) fun v111 =>
 gP (gd v108 true) (bI .eql v111 (.int .i64 0)) fun v112 =>
 ob (rPick v108 v112 (.bool false)) fun v113 =>
 gP (gd v113 true) (some v72) fun v114 =>
 ob (rPick v113 v114 (.bool false)) fun v115 =>
 gP (gd v115 true) (rFld 2 v73) fun v116 =>
 gP (gd v115 true) (rLd1 h109.get v116) fun v117 =>
 gP (gd v115 true) (binV pgB.ty (tyD .string) .eql v117 (.string ⟨#[104,101,114,101]⟩)) fun v118 =>
 ob (rPick v115 v118 (.bool false)) fun v119 =>
 gP (gd v119 true) (some v84) fun v120 =>
 ob (rPick v119 v120 (.bool false)) fun v121 =>
 gP (gd v121 true) (rFld 0 v85) fun v122 =>
 gP (gd v121 true) (rLd1 h109.get v122) fun v123 =>
 gP (gd v121 true) (bI .eql v123 (.int .i64 0)) fun v124 =>
 ob (rPick v121 v124 (.bool false)) fun v125 =>
 gP (gd v125 true) (some v96) fun v126 =>
 gP (gd v125 true) (unV .not v126) fun v127 =>
 ob (rPick v125 v127 (.bool false)) fun v128 =>
 gP (gd v128 true) (some v106) fun v129 =>
 gP (gd v128 true) (bI .eql v129 (.int .i64 0)) fun v130 =>
 ob (rPick v128 v130 (.bool false)) fun v131 =>
 gP (gd v131 true) (some v107) fun v132 =>
 ob (rPick v131 v132 (.bool false)) fun v133 =>
 gP (gd v133 true) (some (nt s31 0)) fun v134 =>
 hv (gV (gd v133 true) (call (.fn N_k15) [v134] h109) h109) fun v135 h136 l137 =>
 gP (gd v133 true) (binV pgB.ty (tyD (.pointer 0)) .neq v135 (.pointer none)) fun v138 =>
 ob (rPick v133 v138 (.bool false)) fun v139 =>
 fin h (rsT v139 (some [])) h136 (l137 ++ (l110 ++ (l105 ++ (l101 ++ (l94 ++ (l89 ++ (l82 ++ (l77 ++ (l70 ++ (l65 ++ (l50 ++ (l39 ++ l33))))))))))))) fun j30 => fork v29
 (fin h (rsT (.bool false) (some [])) h26 (l27 ++ (l21 ++ (l15 ++ (l9 ++ (l2 ++ []))))))
 (j30 [v3,poison,poison,poison,poison,poison,poison,poison,poison,poison,poison,poison,poison,poison,poison,poison,poison,poison,poison] h26 (l27 ++ (l21 ++ (l15 ++ (l9 ++ (l2 ++ []))))))

--
noncomputable def F_k12_L250 (call:CallF) (lp:LoopF) : List Value → H → Option LOut := fun s13 h14 =>
 ob (rLenL (nt s13 4)) fun v15 =>
 ob (bI .lss (nt s13 5) v15) fun v16 =>
 jn3 (fun s18 h19 l20 =>
 jn3 (fun s22 h23 l24 =>
 ob (bI .add (nt s22 5) (.int .i64 1)) fun v25 =>
 some ⟨.normal,[nt s22 0,nt s22 1,nt s22 2,nt s22 3,nt s22 4,v25],h23,l24⟩) fun j21 =>
 ob (rIdxS 4 (nt s18 4) (nt s18 5)) fun v26 =>
 ob (rLdA h19.get 4 v26) fun v27 =>
 hv (call (.fn N_k39) [nt s18 2,v27] h19) fun v28 h29 l30 =>
 ob (rIdxS 4 (nt s18 4) (nt s18 5)) fun v31 =>
 ob (rLdA h29.get 4 v31) fun v32 =>
 hv (call (.fn N_k40) [nt s18 3,v32] h29) fun v33 h34 l35 =>
 j21 [nt s18 0,nt s18 1,nt s18 2,nt s18 3,nt s18 4,nt s18 5] h34 (l35 ++ (l30 ++ l20))) fun j17 => fork v16
 (j17 [nt s13 0,nt s13 1,nt s13 2,nt s13 3,nt s13 4,nt s13 5] h14 [])
 (some ⟨(.exit 0),[nt s13 0,nt s13 1,nt s13 2,nt s13 3,nt s13 4,nt s13 5],h14,[]⟩)
noncomputable def F_k12 (call:CallF) (lp:LoopF) (h:H) : Option R3 :=
 hv (call (.fn N_k32) [] h) fun v0 h1 l2 =>
 ob (oBuild pgB T_asterismref12_DB []) fun v3 =>
 al (aBx h1.n T_asterismref12_DB 3 v3) h1 fun v4 h5 =>
 hv (call (.fn N_k38) [] h5) fun v6 h7 l8 =>
 jn3 (fun s10 h11 l12 =>
 fin h (rsT (nt s10 0) (rsT (nt s10 1) (some []))) h11 l12) fun j9 =>
 ob (lp (F_k12_L250 call lp) [(.pointer none),(.pointer none),v0,v4,v6,(.int .i64 0)] h7) fun o36 =>
 onEx o36.ex (j9 [(nt o36.vs 2),(nt o36.vs 3)] o36.h (o36.lg ++ (l8 ++ (l2 ++ [])))) (fun i37 => bif Nat.beq i37 0 then j9 [(nt o36.vs 2),(nt o36.vs 3)] o36.h (o36.lg ++ (l8 ++ (l2 ++ []))) else none) (fin h (rsT (nt o36.vs 0) (rsT (nt o36.vs 1) (some []))) o36.h (o36.lg ++ (l8 ++ (l2 ++ []))))

--
noncomputable def F_k15_L250 (call:CallF) (lp:LoopF) : List Value → H → Option LOut := fun s19 h20 =>
 ob (bI .lss (nt s19 5) (nt s19 4)) fun v21 =>
 jn3 (fun s23 h24 l25 =>
 jn3 (fun s27 h28 l29 =>
 ob (bI .add (nt s27 5) (.int .i64 1)) fun v30 =>
 some ⟨.normal,[nt s27 0,nt s27 1,nt s27 2,nt s27 3,nt s27 4,v30],h28,l29⟩) fun j26 =>
 ob (rIdxS 1 (nt s23 3) (nt s23 5)) fun v31 =>
 ob (rLd1 h24.get v31) fun v32 =>
 ob (rNil (nt s23 0)) fun v33 =>
 ob (rFld 0 v33) fun v34 =>
 ob (rLd1 h24.get v34) fun v35 =>
 hv (call (.fn N_k49) [v35,v32] h24) fun v36 h37 l38 =>
 ob (rExtract 0 v36) fun v39 =>
 ob (rExtract 1 v36) fun v40 =>
 al (aNew h37.n T_api_Table [(.string ⟨#[]⟩),(.slice none 0 0),(.string ⟨#[]⟩),(.slice none 0 0)]) h37 fun v41 h42 =>
 hv (rStore h42 4 v41 v39) fun v43 h44 l45 =>
 ob (rNil (nt s23 2)) fun v46 =>
 ob (rFld 0 v46) fun v47 =>
 ob (rLd1 h44.get v47) fun v48 =>
 ob (rLdA h44.get 4 v41) fun v49 =>
 hv (call (.fn N_k50) [v48,v49] h44) fun v50 h51 l52 =>
 dr [0,1,3,7,0,31] [mP h44,mP h44,mP h44,mR h44 (rdP v47),mR h44 (rdP v41),mH h44 (rdL [v48,v49]) l52 h51] fun l53 =>
 ob (rNil (nt s23 2)) fun v54 =>
 ob (rFld 1 v54) fun v55 =>
 ob (rLd1 h51.get v55) fun v56 =>
 ob (rNil (nt s23 0)) fun v57 =>
 ob (rFld 1 v57) fun v58 =>
 ob (rLd1 h51.get v58) fun v59 =>
 ob (oLk pgB h51.get T_MstringPtable_Table v59 v32 false) fun v60 =>
 hv (call (.fn N_k51) [v60] h51) fun v61 h62 l63 =>
 hv (rMapUpd h62 v56 v32 v61) fun v64 h65 l66 =>
 dr [0,1,3,7,0,0,32,96,224,0,992,2016,4095] [mP h51,mP h51,mP h51,mR h51 (rdP v55),mP h51,mP h51,mP h51,mP h51,mR h51 (rdP v58),mP h51,mR h51 (rdM v59),mH h51 (rdL [v60]) l63 h62,mH h62 [] l66 h65] fun l67 =>
 j26 [nt s23 0,nt s23 1,nt s23 2,nt s23 3,nt s23 4,nt s23 5] h65 (l67 ++ (l53 ++ (l45 ++ (l38 ++ l25))))) fun j22 => fork v21
 (j22 [nt s19 0,nt s19 1,nt s19 2,nt s19 3,nt s19 4,nt s19 5] h20 [])
 (some ⟨(.exit 0),[nt s19 0,nt s19 1,nt s19 2,nt s19 3,nt s19 4,nt s19 5],h20,[]⟩)
noncomputable def F_k15 (call:CallF) (lp:LoopF) (x0:Value) (h:H) : Option R3 :=
 ob (binV pgB.ty (tyD (.pointer 0)) .eql x0 (.pointer none)) fun v0 =>
 jn3 (fun s2 h3 l4 =>
 hv (call (.fn N_k32) [] h3) fun v5 h6 l7 =>
 ob (rNil (nt s2 0)) fun v8 =>
 ob (rFld 0 v8) fun v9 =>
 ob (rLd1 h6.get v9) fun v10 =>
 hv (call (.fn N_k48) [v10] h6) fun v11 h12 l13 =>
 ob (rLenL v11) fun v14 =>
 jn3 (fun s16 h17 l18 =>
 fin h (rsT (nt s16 0) (some [])) h17 l18) fun j15 =>
 ob (lp (F_k15_L250 call lp) [nt s2 0,nt s2 1,v5,v11,v14,(.int .i64 0)] h12) fun o68 =>
 onEx o68.ex (j15 [(nt o68.vs 2)] o68.h (o68.lg ++ (l13 ++ (l7 ++ l4)))) (fun i69 => bif Nat.beq i69 0 then j15 [(nt o68.vs 2)] o68.h (o68.lg ++ (l13 ++ (l7 ++ l4))) else none) (fin h (rsT (nt o68.vs 1) (some [])) o68.h (o68.lg ++ (l13 ++ (l7 ++ l4))))) fun j1 => fork v0
 (fin h (rsT (.pointer none) (some [])) h [])
 (j1 [x0,(.pointer none)] h [])

--
noncomputable def F_k16 (call:CallF) (lp:LoopF) (x0:Value) (x1:Value) (x2:Value) (h:H) : Option R3 :=
 al (aBx h.n T_api_Value 3 x2) h fun v0 h1 =>
 al (aNew h1.n T_i64_b [(.int .i64 0)]) h1 fun v2 h3 =>
 al (aNew h3.n T_bool [(.bool false)]) h3 fun v4 h5 =>
 hv (call (.fn N_k33) [x0,x1] h5) fun v6 h7 l8 =>
 al (aNew h7.n T_Ptable_Table [(.pointer none)]) h7 fun v9 h10 =>
 hv (rStore h10 1 v9 v6) fun v11 h12 l13 =>
 ob (rLd1 h12.get v9) fun v14 =>
 hv (call (.fn N_k52) [v14] h12) fun v15 h16 l17 =>
 ob (rPart1 2 v15) fun v18 =>
 al (aNew h16.n T_string [(.string ⟨#[]⟩)]) h16 fun v19 h20 =>
 hv (rStore h20 1 v19 v18) fun v21 h22 l23 =>
 ob (rLd1 h22.get v19) fun v24 =>
 ob (binV pgB.ty (tyD .string) .eql v24 (.string ⟨#[]⟩)) fun v25 =>
 gP (gd v25 false) (rFld 0 v0) fun v26 =>
 gP (gd v25 false) (rLd1 h22.get v26) fun v27 =>
 gP (gd v25 false) (bI .eql v27 (.int .i64 0)) fun v28 =>
 ob (rPick v25 (.bool true) v28) fun v29 =>
 jn3 (fun s31 h32 l33 =>
 ob (rLd1 h32.get (nt s31 3)) fun v34 =>
 hv (call (.fn N_k53) [v34] h32) fun v35 h36 l37 =>
 hv (call (.fn N_k54) [v35] h36) fun v38 h39 l40 =>
 jn3 (fun s42 h43 l44 =>
 hv (rStore h43 1 (nt s42 0) (.int .i64 0)) fun v45 h46 l47 =>
 hv (rStore h46 1 (nt s42 1) (.bool false)) fun v48 h49 l50 =>
 fin h (rsK (rLd1 h49.get (nt s42 0)) (rsK (rLd1 h49.get (nt s42 1)) (some []))) h49 (l50 ++ (l47 ++ l44))) fun j41 =>
 ob (rangeV call N_k16 ((((Env.ofList [5,6,7,8,9] s31).set 26 v34).set 27 v35).set 28 v38) h39 v38 #[29] (rfA (cAt [1,1,1,1,0,1,0] (Tryz.f16.body.getD .skip))) (rfB (cAt [1,1,1,1,0,1,0] (Tryz.f16.body.getD .skip)))) fun r51 =>
 onEx r51.1 (j41 [nt s31 1,nt s31 2] r51.2.1 (r51.2.2 ++ (l40 ++ (l37 ++ l33)))) (fun i52 => bif Nat.beq i52 0 then j41 [nt s31 1,nt s31 2] r51.2.1 (r51.2.2 ++ (l40 ++ (l37 ++ l33))) else none) (fin h (rsK (rLd1 r51.2.1.get (nt s31 1)) (rsK (rLd1 r51.2.1.get (nt s31 2)) (some []))) r51.2.1 (r51.2.2 ++ (l40 ++ (l37 ++ l33))))) fun j30 => fork v29
 (hv (rStore h22 1 v2 (.int .i64 0)) fun v53 h54 l55 =>
 hv (rStore h54 1 v4 (.bool false)) fun v56 h57 l58 =>
 fin h (rsK (rLd1 h57.get v2) (rsK (rLd1 h57.get v4) (some []))) h57 (l58 ++ (l55 ++ (l23 ++ (l17 ++ (l13 ++ (l8 ++ [])))))))
 (j30 [v0,v2,v4,v9,v19] h22 (l23 ++ (l17 ++ (l13 ++ (l8 ++ [])))))

--
noncomputable def F_k18_L122 (call:CallF) (lp:LoopF) : List Value → H → Option LOut := fun s59 h60 =>
 ob (bI .lss (nt s59 8) (nt s59 7)) fun v61 =>
 jn3 (fun s63 h64 l65 =>
 jn3 (fun s67 h68 l69 =>
 ob (bI .add (nt s67 8) (.int .i64 1)) fun v70 =>
 some ⟨.normal,[nt s67 0,nt s67 1,nt s67 2,nt s67 3,nt s67 4,nt s67 5,nt s67 6,nt s67 7,v70],h68,l69⟩) fun j66 =>
 ob (rIdxS 1 (nt s63 6) (nt s63 8)) fun v71 =>
 ob (rLd1 h64.get v71) fun v72 =>
 ob (rNil (nt s63 0)) fun v73 =>
 ob (rFld 0 v73) fun v74 =>
 ob (rLd1 h64.get v74) fun v75 =>
 hv (call (.fn N_k60) [v75,nt s63 1,v72] h64) fun v76 h77 l78 =>
 ob (rExtract 0 v76) fun v79 =>
 ob (rExtract 1 v76) fun v80 =>
 al (aNew h77.n T_api_Col [(.string ⟨#[]⟩),(.int .i64 0),(.bool false),(.string ⟨#[]⟩)]) h77 fun v81 h82 =>
 hv (rStore h82 4 v81 v79) fun v83 h84 l85 =>
 hv (call (.fn N_k33) [nt s63 0,nt s63 1] h84) fun v86 h87 l88 =>
 hv (call (.fn N_k55) [v86,nt s63 2,v72] h87) fun v89 h90 l91 =>
 ob (rExtract 0 v89) fun v92 =>
 ob (rExtract 1 v89) fun v93 =>
 al (aNew h90.n T_api_Value [(.int .i64 0),(.int .i64 0),(.string ⟨#[]⟩)]) h90 fun v94 h95 =>
 hv (rStore h95 3 v94 v92) fun v96 h97 l98 =>
 ob (rFld 3 v81) fun v99 =>
 ob (rLd1 h97.get v99) fun v100 =>
 ob (rLdA h97.get 3 v94) fun v101 =>
 hv (call (.fn N_k16) [nt s63 0,v100,v101] h97) fun v102 h103 l104 =>
 ob (rExtract 0 v102) fun v105 =>
 ob (rExtract 1 v102) fun v106 =>
 ob (unV .not v106) fun v107 =>
 jn3 (fun s109 h110 l111 =>
 ob (rFld 3 (nt s109 4)) fun v112 =>
 ob (rLd1 h110.get v112) fun v113 =>
 j66 [nt s109 0,v113,nt s109 5,nt s109 1,nt s109 2,nt s109 3,nt s109 6,nt s109 7,nt s109 8] h110 l111) fun j108 => fork v107
 (ob (oBuild pgB T_api_Value []) fun v114 =>
 hv (rStore h103 3 (nt s63 4) v114) fun v115 h116 l117 =>
 some ⟨.ret,[nt s63 0,nt s63 1,nt s63 2,nt s63 3,nt s63 4,(.bool true),nt s63 6,nt s63 7,nt s63 8],h116,(l117 ++ (l104 ++ (l98 ++ (l91 ++ (l88 ++ (l85 ++ (l78 ++ l65)))))))⟩)
 (j108 [nt s63 0,nt s63 3,nt s63 4,nt s63 5,v81,v105,nt s63 6,nt s63 7,nt s63 8] h103 (l104 ++ (l98 ++ (l91 ++ (l88 ++ (l85 ++ (l78 ++ l65)))))))) fun j62 => fork v61
 (j62 [nt s59 0,nt s59 1,nt s59 2,nt s59 3,nt s59 4,nt s59 5,nt s59 6,nt s59 7,nt s59 8] h60 [])
 (some ⟨(.exit 0),[nt s59 0,nt s59 1,nt s59 2,nt s59 3,nt s59 4,nt s59 5,nt s59 6,nt s59 7,nt s59 8],h60,[]⟩)
noncomputable def F_k18 (call:CallF) (lp:LoopF) (x0:Value) (x1:Value) (x2:Value) (x3:Value) (h:H) : Option R3 :=
 al (aNew h.n T_api_Value [(.int .i64 0),(.int .i64 0),(.string ⟨#[]⟩)]) h fun v0 h1 =>
 hv (call (.fn N_k34) [x0] h1) fun v2 h3 l4 =>
 hv (call (.fn N_k58) [v2,x1,x3] h3) fun v5 h6 l7 =>
 ob (rExtract 0 v5) fun v8 =>
 ob (rExtract 1 v5) fun v9 =>
 ob (rExtract 2 v5) fun v10 =>
 al (aNew h6.n T_api_Col [(.string ⟨#[]⟩),(.int .i64 0),(.bool false),(.string ⟨#[]⟩)]) h6 fun v11 h12 =>
 hv (rStore h12 4 v11 v8) fun v13 h14 l15 =>
 ob (bI .neq v10 (.int .i64 0)) fun v16 =>
 gP (gd v16 false) (some x0) fun v17 =>
 gP (gd v16 false) (some x1) fun v18 =>
 hv (gV (gd v16 false) (call (.fn N_k33) [v17,v18] h14) h14) fun v19 h20 l21 =>
 hv (gV (gd v16 false) (call (.fn N_k53) [v19] h20) h20) fun v22 h23 l24 =>
 gP (gd v16 false) (some x2) fun v25 =>
 hv (gV (gd v16 false) (call (.fn N_k59) [v22,v25] h23) h23) fun v26 h27 l28 =>
 gP (gd v16 false) (unV .not v26) fun v29 =>
 ob (rPick v16 (.bool true) v29) fun v30 =>
 jn3 (fun s32 h33 l34 =>
 ob (rLenL (nt s32 3)) fun v35 =>
 ob (bI .sub v35 (.int .i64 1)) fun v36 =>
 ob (rSl h33.get T_string 1 (nt s32 3) none (some v36) none) fun v37 =>
 ob (rLenL v37) fun v38 =>
 jn3 (fun s40 h41 l42 =>
 hv (call (.fn N_k33) [nt s40 0,nt s40 1] h41) fun v43 h44 l45 =>
 ob (rLenL (nt s40 3)) fun v46 =>
 ob (bI .sub v46 (.int .i64 1)) fun v47 =>
 ob (rIdxS 1 (nt s40 3) v47) fun v48 =>
 ob (rLd1 h44.get v48) fun v49 =>
 hv (call (.fn N_k55) [v43,nt s40 2,v49] h44) fun v50 h51 l52 =>
 ob (rExtract 0 v50) fun v53 =>
 ob (rExtract 1 v50) fun v54 =>
 hv (rStore h51 3 (nt s40 4) v53) fun v55 h56 l57 =>
 dr [0,0,3,0,0,0,32,96,240,496,1023,2047,2047,8191,16383] [mP h41,mP h41,mH h41 (rdL [nt s40 0,nt s40 1]) l45 h44,mP h44,mP h44,mP h44,mR h44 (rdL [nt s40 3]),mP h44,mP h44,mR h44 (rdP v48),mH h44 (rdL [v43,nt s40 2,v49]) l52 h51,mP h51,mP h51,mH h51 [] l57 h56,mP h56] fun l58 =>
 fin h (rsK (rLdA h56.get 3 (nt s40 4)) (rsT v54 (some []))) h56 (l58 ++ l42)) fun j39 =>
 ob (lp (F_k18_L122 call lp) [nt s32 0,nt s32 1,nt s32 2,nt s32 3,nt s32 4,nt s32 5,v37,v38,(.int .i64 0)] h33) fun o118 =>
 onEx o118.ex (j39 [(nt o118.vs 0),(nt o118.vs 1),(nt o118.vs 2),(nt o118.vs 3),(nt o118.vs 4)] o118.h (o118.lg ++ l34)) (fun i119 => bif Nat.beq i119 0 then j39 [(nt o118.vs 0),(nt o118.vs 1),(nt o118.vs 2),(nt o118.vs 3),(nt o118.vs 4)] o118.h (o118.lg ++ l34) else none) (fin h (rsK (rLdA o118.h.get 3 (nt o118.vs 4)) (rsT (nt o118.vs 5) (some []))) o118.h (o118.lg ++ l34))) fun j31 => fork v30
 (ob (oBuild pgB T_api_Value []) fun v120 =>
 hv (rStore h27 3 v0 v120) fun v121 h122 l123 =>
 fin h (rsK (rLdA h122.get 3 v0) (rsT (.bool false) (some []))) h122 (l123 ++ (l28 ++ (l24 ++ (l21 ++ (l15 ++ (l7 ++ (l4 ++ []))))))))
 (j31 [x0,x1,x2,x3,v0,(.bool false)] h27 (l28 ++ (l24 ++ (l21 ++ (l15 ++ (l7 ++ (l4 ++ [])))))))

--
noncomputable def F_k23_L250 (call:CallF) (lp:LoopF) : List Value → H → Option LOut := fun s43 h44 =>
 ob (rNil (nt s43 0)) fun v45 =>
 ob (rFld 1 v45) fun v46 =>
 ob (rLd1 h44.get v46) fun v47 =>
 ob (rIdxS 1 v47 (nt s43 1)) fun v48 =>
 ob (rLd1 h44.get v48) fun v49 =>
 ob (rLenL v49) fun v50 =>
 ob (bI .lss (nt s43 4) v50) fun v51 =>
 jn3 (fun s53 h54 l55 =>
 jn3 (fun s57 h58 l59 =>
 ob (bI .add (nt s57 4) (.int .i64 1)) fun v60 =>
 some ⟨.normal,[nt s57 0,nt s57 1,nt s57 2,nt s57 3,v60,nt s57 5,nt s57 6,nt s57 7,nt s57 8,nt s57 9,nt s57 10,nt s57 11,nt s57 12,nt s57 13,nt s57 14,nt s57 15,nt s57 16,nt s57 17,nt s57 18],h58,l59⟩) fun j56 =>
 ob (rNil (nt s53 0)) fun v61 =>
 ob (rFld 1 v61) fun v62 =>
 ob (rLd1 h54.get v62) fun v63 =>
 ob (rIdxS 1 v63 (nt s53 1)) fun v64 =>
 ob (rLd1 h54.get v64) fun v65 =>
 ob (rIdxS 2 v65 (nt s53 4)) fun v66 =>
 ob (rFld 0 v66) fun v67 =>
 ob (rLd1 h54.get v67) fun v68 =>
 hv (call (.fn N_k67) [nt s53 3,v68] h54) fun v69 h70 l71 =>
 ob (rExtract 0 v69) fun v72 =>
 ob (rExtract 1 v69) fun v73 =>
 ob (unV .not v73) fun v74 =>
 gP (gd v74 false) (some v72) fun v75 =>
 gP (gd v74 false) (some (nt s53 0)) fun v76 =>
 gP (gd v74 false) (rNil v76) fun v77 =>
 gP (gd v74 false) (rFld 1 v77) fun v78 =>
 gP (gd v74 false) (rLd1 h70.get v78) fun v79 =>
 gP (gd v74 false) (some (nt s53 1)) fun v80 =>
 gP (gd v74 false) (rIdxS 1 v79 v80) fun v81 =>
 gP (gd v74 false) (rLd1 h70.get v81) fun v82 =>
 gP (gd v74 false) (some (nt s53 4)) fun v83 =>
 gP (gd v74 false) (rIdxS 2 v82 v83) fun v84 =>
 gP (gd v74 false) (rFld 1 v84) fun v85 =>
 gP (gd v74 false) (rLd1 h70.get v85) fun v86 =>
 hv (gV (gd v74 false) (call (.fn N_k68) [v75,v86] h70) h70) fun v87 h88 l89 =>
 gP (gd v74 false) (bI .neq v87 (.int .i64 0)) fun v90 =>
 ob (rPick v74 (.bool true) v90) fun v91 =>
 jn3 (fun s93 h94 l95 =>
 j56 [nt s93 0,nt s93 1,nt s93 2,nt s93 3,nt s93 4,nt s93 5,nt s93 6,nt s93 7,nt s93 8,nt s93 9,nt s93 10,nt s93 11,nt s93 12,nt s93 13,nt s93 14,nt s93 15,nt s93 16,nt s93 17,nt s93 18] h94 l95) fun j92 => fork v91
 (some ⟨.ret,[nt s53 0,nt s53 1,(.bool false),nt s53 3,nt s53 4,v75,v76,v77,v78,v79,v80,v81,v82,v83,v84,v85,v86,v87,v90],h88,(l89 ++ (l71 ++ l55))⟩)
 (j92 [nt s53 0,nt s53 1,nt s53 2,nt s53 3,nt s53 4,v75,v76,v77,v78,v79,v80,v81,v82,v83,v84,v85,v86,v87,v90] h88 (l89 ++ (l71 ++ l55)))) fun j52 => fork v51
 (j52 [nt s43 0,nt s43 1,nt s43 2,nt s43 3,nt s43 4,nt s43 5,nt s43 6,nt s43 7,nt s43 8,nt s43 9,nt s43 10,nt s43 11,nt s43 12,nt s43 13,nt s43 14,nt s43 15,nt s43 16,nt s43 17,nt s43 18] h44 [])
 (some ⟨(.exit 0),[nt s43 0,nt s43 1,nt s43 2,nt s43 3,nt s43 4,nt s43 5,nt s43 6,nt s43 7,nt s43 8,nt s43 9,nt s43 10,nt s43 11,nt s43 12,nt s43 13,nt s43 14,nt s43 15,nt s43 16,nt s43 17,nt s43 18],h44,[]⟩)
noncomputable def F_k23 (call:CallF) (lp:LoopF) (x0:Value) (x1:Value) (x2:Value) (x3:Value) (h:H) : Option R3 :=
 hv (call (.fn N_k33) [x0,x3] h) fun v0 h1 l2 =>
 ob (binV pgB.ty (tyD (.pointer 0)) .eql v0 (.pointer none)) fun v3 =>
 gP (gd v3 false) (some v0) fun v4 =>
 hv (gV (gd v3 false) (call (.fn N_k53) [v4] h1) h1) fun v5 h6 l7 =>
 hv (gV (gd v3 false) (call (.fn N_k65) [v5] h6) h6) fun v8 h9 l10 =>
 gP (gd v3 false) (some x1) fun v11 =>
 gP (gd v3 false) (rNil v11) fun v12 =>
 gP (gd v3 false) (rFld 1 v12) fun v13 =>
 gP (gd v3 false) (rLd1 h9.get v13) fun v14 =>
 gP (gd v3 false) (some x2) fun v15 =>
 gP (gd v3 false) (rIdxS 1 v14 v15) fun v16 =>
 gP (gd v3 false) (rLd1 h9.get v16) fun v17 =>
 gP (gd v3 false) (rLenL v17) fun v18 =>
 gP (gd v3 false) (bI .neq v8 v18) fun v19 =>
 ob (rPick v3 (.bool true) v19) fun v20 =>
 gP (gd v20 false) (some v0) fun v21 =>
 hv (gV (gd v20 false) (call (.fn N_k66) [v21] h9) h9) fun v22 h23 l24 =>
 gP (gd v20 false) (some x1) fun v25 =>
 gP (gd v20 false) (rNil v25) fun v26 =>
 gP (gd v20 false) (rFld 2 v26) fun v27 =>
 gP (gd v20 false) (rLd1 h23.get v27) fun v28 =>
 gP (gd v20 false) (some x2) fun v29 =>
 gP (gd v20 false) (rIdxS 1 v28 v29) fun v30 =>
 gP (gd v20 false) (rLd1 h23.get v30) fun v31 =>
 gP (gd v20 false) (bI .neq v22 v31) fun v32 =>
 ob (rPick v20 (.bool true) v32) fun v33 =>
 dr [0,1,3,7,15,31,7,71,199,455,7,1991,4039,8135,16383,32767,65535,131071,262143,131071,655359,1703935,3801087,131071,16383999,33161215,67108863,134217727] [mP h1,mP h1,mP h1,mG (gd v3 false) .pure [] h1 h1 [],mG (gd v3 false) .heavy (rdL [v4]) h1 h6 l7,mG (gd v3 false) .heavy (rdL [v5]) h6 h9 l10,mG (gd v3 false) .pure [] h9 h9 [],mG (gd v3 false) .pure [] h9 h9 [],mG (gd v3 false) .pure [] h9 h9 [],mG (gd v3 false) .pure (rdP v13) h9 h9 [],mG (gd v3 false) .pure [] h9 h9 [],mG (gd v3 false) .pure [] h9 h9 [],mG (gd v3 false) .pure (rdP v16) h9 h9 [],mG (gd v3 false) .pure (rdL [v17]) h9 h9 [],mG (gd v3 false) .pure [] h9 h9 [],mP h9,mP h9,mG (gd v20 false) .pure [] h9 h9 [],mG (gd v20 false) .heavy (rdL [v21]) h9 h23 l24,mG (gd v20 false) .pure [] h23 h23 [],mG (gd v20 false) .pure [] h23 h23 [],mG (gd v20 false) .pure [] h23 h23 [],mG (gd v20 false) .pure (rdP v27) h23 h23 [],mG (gd v20 false) .pure [] h23 h23 [],mG (gd v20 false) .pure [] h23 h23 [],mG (gd v20 false) .pure (rdP v30) h23 h23 [],mG (gd v20 false) .pure [] h23 h23 [],mP h23] fun l34 =>
 jn3 (fun s36 h37 l38 =>
 jn3 (fun s40 h41 l42 =>
 fin h (rsT (.bool true) (some [])) h41 l42) fun j39 =>
 ob (lp (F_k23_L250 call lp) [nt s36 0,nt s36 1,nt s36 2,nt s36 3,(.int .i64 0),nt s36 4,nt s36 5,nt s36 6,nt s36 7,nt s36 8,nt s36 9,nt s36 10,nt s36 11,nt s36 12,nt s36 13,nt s36 14,nt s36 15,nt s36 16,nt s36 17] h37) fun o96 =>
 onEx o96.ex (j39 [] o96.h (o96.lg ++ l38)) (fun i97 => bif Nat.beq i97 0 then j39 [] o96.h (o96.lg ++ l38) else none) (fin h (rsT (nt o96.vs 2) (some [])) o96.h (o96.lg ++ l38))) fun j35 => fork v33
 (fin h (rsT (.bool false) (some [])) h23 (l34 ++ (l2 ++ [])))
 (j35 [x1,x2,(.bool false),v0,poison,poison,poison,poison,poison,poison,poison,poison,poison,poison,poison,poison,poison,poison] h23 (l34 ++ (l2 ++ [])))

--
noncomputable def F_k24 (call:CallF) (lp:LoopF) (h:H) : Option R3 :=
 hv (call (.fn N_k12) [] h) fun v0 h1 l2 =>
 ob (rExtract 0 v0) fun v3 =>
 ob (rExtract 1 v0) fun v4 =>
 ob (binV pgB.ty (tyD (.pointer 0)) .eql v3 (.pointer none)) fun v5 =>
 gP (gd v5 false) (some v3) fun v6 =>
 hv (gV (gd v5 false) (call (.fn N_k33) [v6,(.string ⟨#[108,97,110,100]⟩)] h1) h1) fun v7 h8 l9 =>
 gP (gd v5 false) (binV pgB.ty (tyD (.pointer 0)) .eql v7 (.pointer none)) fun v10 =>
 ob (rPick v5 (.bool true) v10) fun v11 =>
 jn3 (fun s13 h14 l15 =>
 hv (call (.fn N_k30) [(.int .i64 5)] h14) fun v16 h17 l18 =>
 hv (call (.fn N_k31) [(.string ⟨#[97]⟩)] h17) fun v19 h20 l21 =>
 al (aBuildS pgB h20.n T_Lapi_Value 2 [(0,v16),(1,v19)]) h20 fun v22 h23 =>
 ob (oBuild pgB T_api_Op [(0,(.int .i64 1)),(1,(.string ⟨#[108,97,110,100]⟩)),(4,v22)]) fun v24 =>
 hv (call (.fn N_k31) [(.string ⟨#[98]⟩)] h23) fun v25 h26 l27 =>
 al (aBuildS pgB h26.n T_Lapi_Value 1 [(0,v25)]) h26 fun v28 h29 =>
 ob (oBuild pgB T_api_Op [(0,(.int .i64 3)),(1,(.string ⟨#[108,97,110,100]⟩)),(3,(.string ⟨#[110,97,109,101]⟩)),(4,v28)]) fun v30 =>
 al (aBuildS pgB h29.n T_Lapi_Op 2 [(0,v24),(1,v30)]) h29 fun v31 h32 =>
 hv (call (.fn N_k25) [nt s13 0,v31] h32) fun v33 h34 l35 =>
 ob (rExtract 0 v33) fun v36 =>
 ob (rExtract 1 v33) fun v37 =>
 al (aNew h34.n T_api_Fault [(.int .i64 0),(.int .i64 0),(.string ⟨#[]⟩),(.int .i64 0),(.string ⟨#[]⟩)]) h34 fun v38 h39 =>
 hv (rStore h39 5 v38 v37) fun v40 h41 l42 =>
 ob (oBuild pgB T_api_Op [(0,(.int .i64 2)),(1,(.string ⟨#[108,97,110,100]⟩))]) fun v43 =>
 ob (oBuild pgB T_api_Op [(0,(.int .i64 2)),(1,(.string ⟨#[108,97,110,100]⟩))]) fun v44 =>
 al (aBuildS pgB h41.n T_Lapi_Op 2 [(0,v43),(1,v44)]) h41 fun v45 h46 =>
 hv (call (.fn N_k25) [nt s13 0,v45] h46) fun v47 h48 l49 =>
 ob (rExtract 0 v47) fun v50 =>
 ob (rExtract 1 v47) fun v51 =>
 al (aNew h48.n T_api_Fault [(.int .i64 0),(.int .i64 0),(.string ⟨#[]⟩),(.int .i64 0),(.string ⟨#[]⟩)]) h48 fun v52 h53 =>
 hv (rStore h53 5 v52 v51) fun v54 h55 l56 =>
 hv (call (.fn N_k25) [nt s13 0,(.slice none 0 0)] h55) fun v57 h58 l59 =>
 ob (rExtract 0 v57) fun v60 =>
 ob (rExtract 1 v57) fun v61 =>
 al (aNew h58.n T_api_Fault [(.int .i64 0),(.int .i64 0),(.string ⟨#[]⟩),(.int .i64 0),(.string ⟨#[]⟩)]) h58 fun v62 h63 =>
 hv (rStore h63 5 v62 v61) fun v64 h65 l66 =>
 hv (call (.fn N_k69) [] h65) fun v67 h68 l69 =>
 gP (gd v67 true) (rFld 0 v38) fun v70 =>
 gP (gd v67 true) (rLd1 h68.get v70) fun v71 =>
 gP (gd v67 true) (bI .eql v71 (.int .i64 0)) fun v72 =>
 ob (rPick v67 v72 (.bool false)) fun v73 =>
 gP (gd v73 true) (some v36) fun v74 =>
 gP (gd v73 true) (rLenL v74) fun v75 =>
 gP (gd v73 true) (bI .eql v75 (.int .i64 1)) fun v76 =>
 ob (rPick v73 v76 (.bool false)) fun v77 =>
 gP (gd v77 true) (some v36) fun v78 =>
 gP (gd v77 true) (rIdxS 1 v78 (.int .i64 0)) fun v79 =>
 gP (gd v77 true) (rLd1 h68.get v79) fun v80 =>
 gP (gd v77 true) (bI .eql v80 (.int .i64 0)) fun v81 =>
 ob (rPick v77 v81 (.bool false)) fun v82 =>
 gP (gd v82 true) (rFld 0 v52) fun v83 =>
 gP (gd v82 true) (rLd1 h68.get v83) fun v84 =>
 gP (gd v82 true) (bI .eql v84 (.int .i64 6)) fun v85 =>
 ob (rPick v82 v85 (.bool false)) fun v86 =>
 gP (gd v86 true) (rFld 1 v52) fun v87 =>
 gP (gd v86 true) (rLd1 h68.get v87) fun v88 =>
 gP (gd v86 true) (bI .eql v88 (.int .i64 1)) fun v89 =>
 ob (rPick v86 v89 (.bool false)) fun v90 =>
 gP (gd v90 true) (rFld 2 v52) fun v91 =>
 gP (gd v90 true) (rLd1 h68.get v91) fun v92 =>
 gP (gd v90 true) (binV pgB.ty (tyD .string) .eql v92 (.string ⟨#[108,97,110,100]⟩)) fun v93 =>
 ob (rPick v90 v93 (.bool false)) fun v94 =>
 gP (gd v94 true) (rFld 0 v62) fun v95 =>
 gP (gd v94 true) (rLd1 h68.get v95) fun v96 =>
 gP (gd v94 true) (bI .eql v96 (.int .i64 5)) fun v97 =>
 ob (rPick v94 v97 (.bool false)) fun v98 =>
 fin h (rsT v98 (some [])) h68 (l69 ++ (l66 ++ (l59 ++ (l56 ++ (l49 ++ (l42 ++ (l35 ++ (l27 ++ (l21 ++ (l18 ++ l15))))))))))) fun j12 => fork v11
 (fin h (rsT (.bool false) (some [])) h8 (l9 ++ (l2 ++ [])))
 (j12 [v3,poison,poison,poison,poison,poison,poison,poison,poison,poison,poison,poison,poison,poison,poison,poison,poison,poison,poison,poison,poison,poison,poison] h8 (l9 ++ (l2 ++ [])))

--
noncomputable def F_k25_L250 (call:CallF) (lp:LoopF) : List Value → H → Option LOut := fun s21 h22 =>
 ob (bI .lss (nt s21 6) (nt s21 5)) fun v23 =>
 jn3 (fun s25 h26 l27 =>
 jn3 (fun s29 h30 l31 =>
 ob (bI .add (nt s29 6) (.int .i64 1)) fun v32 =>
 some ⟨.normal,[nt s29 0,nt s29 1,nt s29 2,nt s29 3,nt s29 4,nt s29 5,v32],h30,l31⟩) fun j28 =>
 ob (rIdxS 5 (nt s25 4) (nt s25 6)) fun v33 =>
 ob (rLdA h26.get 5 v33) fun v34 =>
 al (aNew h26.n T_api_Op [(.int .i64 0),(.string ⟨#[]⟩),(.int .i64 0),(.string ⟨#[]⟩),(.slice none 0 0)]) h26 fun v35 h36 =>
 hv (rStore h36 5 v35 v34) fun v37 h38 l39 =>
 ob (rLdA h38.get 5 v35) fun v40 =>
 hv (call (.fn N_k70) [nt s25 0,v40] h38) fun v41 h42 l43 =>
 ob (rExtract 0 v41) fun v44 =>
 ob (rExtract 1 v41) fun v45 =>
 ob (bI .neq v45 (.int .i64 0)) fun v46 =>
 jn3 (fun s48 h49 l50 =>
 ob (rFld 0 (nt s48 4)) fun v51 =>
 ob (rLd1 h49.get v51) fun v52 =>
 ob (bI .eql v52 (.int .i64 1)) fun v53 =>
 jn3 (fun s55 h56 l57 =>
 j28 [nt s55 0,nt s55 1,nt s55 2,nt s55 3,nt s55 4,nt s55 5,nt s55 6] h56 l57) fun j54 => fork v53
 (al (aBuildS pgB h49.n T_Li64 1 [(0,(nt s48 5))]) h49 fun v58 h59 =>
 hv (rApp h59 T_i64_b 1 8 [(.int .i64 0)] (nt s48 3) v58) fun v60 h61 l62 =>
 j54 [nt s48 0,nt s48 1,nt s48 2,v60,nt s48 6,nt s48 7,nt s48 8] h61 (l62 ++ l50))
 (j54 [nt s48 0,nt s48 1,nt s48 2,nt s48 3,nt s48 6,nt s48 7,nt s48 8] h49 l50)) fun j47 => fork v46
 (ob (rFld 1 v35) fun v63 =>
 ob (rLd1 h42.get v63) fun v64 =>
 ob (oBuild pgB T_api_Fault [(0,v45),(1,(nt s25 6)),(2,v64)]) fun v65 =>
 hv (rStore h42 5 (nt s25 2) v65) fun v66 h67 l68 =>
 dr [0,0,0,4,15,0,63] [mP h42,mP h42,mP h42,mR h42 (rdP v63),mP h42,mP h42,mH h42 [] l68 h67] fun l69 =>
 some ⟨.ret,[nt s25 0,(.slice none 0 0),nt s25 2,nt s25 3,nt s25 4,nt s25 5,nt s25 6],h67,(l69 ++ (l43 ++ (l39 ++ l27)))⟩)
 (j47 [nt s25 0,nt s25 1,nt s25 2,nt s25 3,v35,v44,nt s25 4,nt s25 5,nt s25 6] h42 (l43 ++ (l39 ++ l27)))) fun j24 => fork v23
 (j24 [nt s21 0,nt s21 1,nt s21 2,nt s21 3,nt s21 4,nt s21 5,nt s21 6] h22 [])
 (some ⟨(.exit 0),[nt s21 0,nt s21 1,nt s21 2,nt s21 3,nt s21 4,nt s21 5,nt s21 6],h22,[]⟩)
noncomputable def F_k25 (call:CallF) (lp:LoopF) (x0:Value) (x1:Value) (h:H) : Option R3 :=
 al (aNew h.n T_api_Fault [(.int .i64 0),(.int .i64 0),(.string ⟨#[]⟩),(.int .i64 0),(.string ⟨#[]⟩)]) h fun v0 h1 =>
 ob (rLenL x1) fun v2 =>
 ob (bI .eql v2 (.int .i64 0)) fun v3 =>
 gP (gd v3 false) (some x1) fun v4 =>
 gP (gd v3 false) (rLenL v4) fun v5 =>
 gP (gd v3 false) (bI .gtr v5 (.int .i64 40)) fun v6 =>
 ob (rPick v3 (.bool true) v6) fun v7 =>
 jn3 (fun s9 h10 l11 =>
 ob (rLenL (nt s9 1)) fun v12 =>
 jn3 (fun s14 h15 l16 =>
 ob (oBuild pgB T_api_Fault []) fun v17 =>
 hv (rStore h15 5 (nt s14 0) v17) fun v18 h19 l20 =>
 fin h (rsT (nt s14 1) (rsK (rLdA h19.get 5 (nt s14 0)) (some []))) h19 (l20 ++ l16)) fun j13 =>
 ob (lp (F_k25_L250 call lp) [nt s9 0,nt s9 2,nt s9 3,(.slice none 0 0),nt s9 1,v12,(.int .i64 0)] h10) fun o70 =>
 onEx o70.ex (j13 [(nt o70.vs 2),(nt o70.vs 3)] o70.h (o70.lg ++ l11)) (fun i71 => bif Nat.beq i71 0 then j13 [(nt o70.vs 2),(nt o70.vs 3)] o70.h (o70.lg ++ l11) else none) (fin h (rsT (nt o70.vs 1) (rsK (rLdA o70.h.get 5 (nt o70.vs 2)) (some []))) o70.h (o70.lg ++ l11))) fun j8 => fork v7
 (ob (oBuild pgB T_api_Fault [(0,(.int .i64 5))]) fun v72 =>
 hv (rStore h1 5 v0 v72) fun v73 h74 l75 =>
 fin h (rsT (.slice none 0 0) (rsK (rLdA h74.get 5 v0) (some []))) h74 (l75 ++ []))
 (j8 [x0,x1,(.slice none 0 0),v0] h1 [])

--
noncomputable def F_k26_L250 (call:CallF) (lp:LoopF) : List Value → H → Option LOut := fun s20 h21 =>
 ob (rLenL (nt s20 1)) fun v22 =>
 ob (bI .lss (nt s20 5) v22) fun v23 =>
 jn3 (fun s25 h26 l27 =>
 jn3 (fun s29 h30 l31 =>
 ob (bI .add (nt s29 5) (.int .i64 1)) fun v32 =>
 some ⟨.normal,[nt s29 0,nt s29 1,nt s29 2,nt s29 3,nt s29 4,v32],h30,l31⟩) fun j28 =>
 ob (rIdxS 5 (nt s25 1) (nt s25 5)) fun v33 =>
 ob (rLdA h26.get 5 v33) fun v34 =>
 al (aNew h26.n T_api_Op [(.int .i64 0),(.string ⟨#[]⟩),(.int .i64 0),(.string ⟨#[]⟩),(.slice none 0 0)]) h26 fun v35 h36 =>
 hv (rStore h36 5 v35 v34) fun v37 h38 l39 =>
 ob (rLdA h38.get 5 v35) fun v40 =>
 hv (call (.fn N_k71) [nt s25 0,v40] h38) fun v41 h42 l43 =>
 ob (rExtract 0 v41) fun v44 =>
 ob (rExtract 1 v41) fun v45 =>
 ob (bI .neq v45 (.int .i64 0)) fun v46 =>
 jn3 (fun s48 h49 l50 =>
 ob (rFld 0 (nt s48 6)) fun v51 =>
 ob (rLd1 h49.get v51) fun v52 =>
 ob (bI .eql v52 (.int .i64 1)) fun v53 =>
 jn3 (fun s55 h56 l57 =>
 j28 [nt s55 0,nt s55 1,nt s55 2,nt s55 3,nt s55 4,nt s55 5] h56 l57) fun j54 => fork v53
 (al (aBuildS pgB h49.n T_Li64 1 [(0,(nt s48 7))]) h49 fun v58 h59 =>
 hv (rApp h59 T_i64_b 1 8 [(.int .i64 0)] (nt s48 4) v58) fun v60 h61 l62 =>
 j54 [nt s48 0,nt s48 1,nt s48 2,nt s48 3,v60,nt s48 5] h61 (l62 ++ l50))
 (j54 [nt s48 0,nt s48 1,nt s48 2,nt s48 3,nt s48 4,nt s48 5] h49 l50)) fun j47 => fork v46
 (ob (rFld 1 v35) fun v63 =>
 ob (rLd1 h42.get v63) fun v64 =>
 ob (oBuild pgB T_api_Fault [(0,v45),(1,(nt s25 5)),(2,v64)]) fun v65 =>
 hv (rStore h42 5 (nt s25 3) v65) fun v66 h67 l68 =>
 dr [0,0,0,4,15,0,63] [mP h42,mP h42,mP h42,mR h42 (rdP v63),mP h42,mP h42,mH h42 [] l68 h67] fun l69 =>
 some ⟨.ret,[nt s25 0,nt s25 1,(.slice none 0 0),nt s25 3,nt s25 4,nt s25 5],h67,(l69 ++ (l43 ++ (l39 ++ l27)))⟩)
 (j47 [nt s25 0,nt s25 1,nt s25 2,nt s25 3,nt s25 4,nt s25 5,v35,v44] h42 (l43 ++ (l39 ++ l27)))) fun j24 => fork v23
 (j24 [nt s20 0,nt s20 1,nt s20 2,nt s20 3,nt s20 4,nt s20 5] h21 [])
 (some ⟨(.exit 0),[nt s20 0,nt s20 1,nt s20 2,nt s20 3,nt s20 4,nt s20 5],h21,[]⟩)
noncomputable def F_k26 (call:CallF) (lp:LoopF) (x0:Value) (x1:Value) (h:H) : Option R3 :=
 al (aNew h.n T_api_Fault [(.int .i64 0),(.int .i64 0),(.string ⟨#[]⟩),(.int .i64 0),(.string ⟨#[]⟩)]) h fun v0 h1 =>
 ob (rLenL x1) fun v2 =>
 ob (bI .eql v2 (.int .i64 0)) fun v3 =>
 gP (gd v3 false) (some x1) fun v4 =>
 gP (gd v3 false) (rLenL v4) fun v5 =>
 gP (gd v3 false) (bI .gtr v5 (.int .i64 40)) fun v6 =>
 ob (rPick v3 (.bool true) v6) fun v7 =>
 jn3 (fun s9 h10 l11 =>
 jn3 (fun s13 h14 l15 =>
 ob (oBuild pgB T_api_Fault []) fun v16 =>
 hv (rStore h14 5 (nt s13 0) v16) fun v17 h18 l19 =>
 fin h (rsT (nt s13 1) (rsK (rLdA h18.get 5 (nt s13 0)) (some []))) h18 (l19 ++ l15)) fun j12 =>
 ob (lp (F_k26_L250 call lp) [nt s9 0,nt s9 1,nt s9 2,nt s9 3,(.slice none 0 0),(.int .i64 0)] h10) fun o70 =>
 onEx o70.ex (j12 [(nt o70.vs 3),(nt o70.vs 4)] o70.h (o70.lg ++ l11)) (fun i71 => bif Nat.beq i71 0 then j12 [(nt o70.vs 3),(nt o70.vs 4)] o70.h (o70.lg ++ l11) else none) (fin h (rsT (nt o70.vs 2) (rsK (rLdA o70.h.get 5 (nt o70.vs 3)) (some []))) o70.h (o70.lg ++ l11))) fun j8 => fork v7
 (ob (oBuild pgB T_api_Fault [(0,(.int .i64 5))]) fun v72 =>
 hv (rStore h1 5 v0 v72) fun v73 h74 l75 =>
 fin h (rsT (.slice none 0 0) (rsK (rLdA h74.get 5 v0) (some []))) h74 (l75 ++ []))
 (j8 [x0,x1,(.slice none 0 0),v0] h1 [])

--
noncomputable def F_k27 (call:CallF) (lp:LoopF) (x0:Value) (x1:Value) (h:H) : Option R3 :=
 al (aBx h.n T_api_Fault 5 x0) h fun v0 h1 =>
 al (aBx h1.n T_api_Fault 5 x1) h1 fun v2 h3 =>
 ob (rFld 0 v0) fun v4 =>
 ob (rLd1 h3.get v4) fun v5 =>
 ob (rFld 0 v2) fun v6 =>
 ob (rLd1 h3.get v6) fun v7 =>
 ob (bI .eql v5 v7) fun v8 =>
 gP (gd v8 true) (rFld 1 v0) fun v9 =>
 gP (gd v8 true) (rLd1 h3.get v9) fun v10 =>
 gP (gd v8 true) (rFld 1 v2) fun v11 =>
 gP (gd v8 true) (rLd1 h3.get v11) fun v12 =>
 gP (gd v8 true) (bI .eql v10 v12) fun v13 =>
 ob (rPick v8 v13 (.bool false)) fun v14 =>
 gP (gd v14 true) (rFld 2 v0) fun v15 =>
 gP (gd v14 true) (rLd1 h3.get v15) fun v16 =>
 gP (gd v14 true) (rFld 2 v2) fun v17 =>
 gP (gd v14 true) (rLd1 h3.get v17) fun v18 =>
 gP (gd v14 true) (binV pgB.ty (tyD .string) .eql v16 v18) fun v19 =>
 ob (rPick v14 v19 (.bool false)) fun v20 =>
 gP (gd v20 true) (rFld 3 v0) fun v21 =>
 gP (gd v20 true) (rLd1 h3.get v21) fun v22 =>
 gP (gd v20 true) (rFld 3 v2) fun v23 =>
 gP (gd v20 true) (rLd1 h3.get v23) fun v24 =>
 gP (gd v20 true) (bI .eql v22 v24) fun v25 =>
 ob (rPick v20 v25 (.bool false)) fun v26 =>
 gP (gd v26 true) (rFld 4 v0) fun v27 =>
 gP (gd v26 true) (rLd1 h3.get v27) fun v28 =>
 gP (gd v26 true) (rFld 4 v2) fun v29 =>
 gP (gd v26 true) (rLd1 h3.get v29) fun v30 =>
 gP (gd v26 true) (binV pgB.ty (tyD .string) .eql v28 v30) fun v31 =>
 ob (rPick v26 v31 (.bool false)) fun v32 =>
 fin h (rsT v32 (some [])) h3 []

--
noncomputable def F_k28_L122 (call:CallF) (lp:LoopF) : List Value → H → Option LOut := fun s11 h12 =>
 ob (rLenL (nt s11 0)) fun v13 =>
 ob (bI .lss (nt s11 3) v13) fun v14 =>
 jn3 (fun s16 h17 l18 =>
 jn3 (fun s20 h21 l22 =>
 ob (bI .add (nt s20 3) (.int .i64 1)) fun v23 =>
 some ⟨.normal,[nt s20 0,nt s20 1,nt s20 2,v23],h21,l22⟩) fun j19 =>
 ob (rIdxS 1 (nt s16 0) (nt s16 3)) fun v24 =>
 ob (rLd1 h17.get v24) fun v25 =>
 ob (rIdxS 1 (nt s16 1) (nt s16 3)) fun v26 =>
 ob (rLd1 h17.get v26) fun v27 =>
 ob (bI .neq v25 v27) fun v28 =>
 dr [0,0,3,7,0,0,48,112,255] [mP h17,mP h17,mP h17,mR h17 (rdP v24),mP h17,mP h17,mP h17,mR h17 (rdP v26),mP h17] fun l29 =>
 jn3 (fun s31 h32 l33 =>
 j19 [nt s31 0,nt s31 1,nt s31 2,nt s31 3] h32 l33) fun j30 => fork v28
 (some ⟨.ret,[nt s16 0,nt s16 1,(.bool false),nt s16 3],h17,(l29 ++ l18)⟩)
 (j30 [nt s16 0,nt s16 1,nt s16 2,nt s16 3] h17 (l29 ++ l18))) fun j15 => fork v14
 (j15 [nt s11 0,nt s11 1,nt s11 2,nt s11 3] h12 [])
 (some ⟨(.exit 0),[nt s11 0,nt s11 1,nt s11 2,nt s11 3],h12,[]⟩)
noncomputable def F_k28 (call:CallF) (lp:LoopF) (x0:Value) (x1:Value) (h:H) : Option R3 :=
 ob (rLenL x0) fun v0 =>
 ob (rLenL x1) fun v1 =>
 ob (bI .neq v0 v1) fun v2 =>
 jn3 (fun s4 h5 l6 =>
 jn3 (fun s8 h9 l10 =>
 fin h (rsT (.bool true) (some [])) h9 l10) fun j7 =>
 ob (lp (F_k28_L122 call lp) [nt s4 0,nt s4 1,nt s4 2,(.int .i64 0)] h5) fun o34 =>
 onEx o34.ex (j7 [] o34.h (o34.lg ++ l6)) (fun i35 => bif Nat.beq i35 0 then j7 [] o34.h (o34.lg ++ l6) else none) (fin h (rsT (nt o34.vs 2) (some [])) o34.h (o34.lg ++ l6))) fun j3 => fork v2
 (fin h (rsT (.bool false) (some [])) h [])
 (j3 [x0,x1,(.bool false)] h [])

--
noncomputable def F_k29_L58 (call:CallF) (lp:LoopF) : List Value → H → Option LOut := fun s4 h5 =>
 ob (rNil (nt s4 1)) fun v6 =>
 ob (rFld 0 v6) fun v7 =>
 ob (rLd1 h5.get v7) fun v8 =>
 ob (rLenL v8) fun v9 =>
 ob (bI .lss (nt s4 3) v9) fun v10 =>
 jn3 (fun s12 h13 l14 =>
 jn3 (fun s16 h17 l18 =>
 ob (bI .add (nt s16 3) (.int .i64 1)) fun v19 =>
 some ⟨.normal,[nt s16 0,nt s16 1,nt s16 2,v19],h17,l18⟩) fun j15 =>
 ob (rNil (nt s12 1)) fun v20 =>
 ob (rFld 0 v20) fun v21 =>
 ob (rLd1 h13.get v21) fun v22 =>
 ob (rIdxS 4 v22 (nt s12 3)) fun v23 =>
 ob (rFld 0 v23) fun v24 =>
 ob (rLd1 h13.get v24) fun v25 =>
 hv (call (.fn N_k23) [nt s12 0,nt s12 1,nt s12 3,v25] h13) fun v26 h27 l28 =>
 ob (unV .not v26) fun v29 =>
 jn3 (fun s31 h32 l33 =>
 j15 [nt s31 0,nt s31 1,nt s31 2,nt s31 3] h32 l33) fun j30 => fork v29
 (some ⟨.ret,[nt s12 0,nt s12 1,(.bool false),nt s12 3],h27,(l28 ++ l14)⟩)
 (j30 [nt s12 0,nt s12 1,nt s12 2,nt s12 3] h27 (l28 ++ l14))) fun j11 => fork v10
 (j11 [nt s4 0,nt s4 1,nt s4 2,nt s4 3] h5 [])
 (some ⟨(.exit 0),[nt s4 0,nt s4 1,nt s4 2,nt s4 3],h5,[]⟩)
noncomputable def F_k29 (call:CallF) (lp:LoopF) (x0:Value) (x1:Value) (h:H) : Option R3 :=
 jn3 (fun s1 h2 l3 =>
 fin h (rsT (.bool true) (some [])) h2 l3) fun j0 =>
 ob (lp (F_k29_L58 call lp) [x0,x1,(.bool false),(.int .i64 0)] h) fun o34 =>
 onEx o34.ex (j0 [] o34.h (o34.lg ++ [])) (fun i35 => bif Nat.beq i35 0 then j0 [] o34.h (o34.lg ++ []) else none) (fin h (rsT (nt o34.vs 2) (some [])) o34.h (o34.lg ++ []))

--
noncomputable def F_k30 (call:CallF) (lp:LoopF) (x0:Value) (h:H) : Option R3 :=
 al (aNew h.n T_api_Value [(.int .i64 0),(.int .i64 0),(.string ⟨#[]⟩)]) h fun v0 h1 =>
 ob (oBuild pgB T_api_Value [(0,(.int .i64 1)),(1,x0)]) fun v2 =>
 hv (rStore h1 3 v0 v2) fun v3 h4 l5 =>
 fin h (rsK (rLdA h4.get 3 v0) (some [])) h4 (l5 ++ [])

--
noncomputable def F_k31 (call:CallF) (lp:LoopF) (x0:Value) (h:H) : Option R3 :=
 al (aNew h.n T_api_Value [(.int .i64 0),(.int .i64 0),(.string ⟨#[]⟩)]) h fun v0 h1 =>
 ob (oBuild pgB T_api_Value [(0,(.int .i64 2)),(2,x0)]) fun v2 =>
 hv (rStore h1 3 v0 v2) fun v3 h4 l5 =>
 fin h (rsK (rLdA h4.get 3 v0) (some [])) h4 (l5 ++ [])

--
noncomputable def F_k32 (call:CallF) (lp:LoopF) (h:H) : Option R3 :=
 hv (call (.fn N_k72) [] h) fun v0 h1 l2 =>
 al (aMap h1.n) h1 fun v3 h4 =>
 ob (oBuild pgB T_data_DB [(0,v0),(1,v3)]) fun v5 =>
 al (aBx h4.n T_data_DB 2 v5) h4 fun v6 h7 =>
 fin h (rsT v6 (some [])) h7 (l2 ++ [])

--
noncomputable def F_k33 (call:CallF) (lp:LoopF) (x0:Value) (x1:Value) (h:H) : Option R3 :=
 ob (binV pgB.ty (tyD (.pointer 0)) .eql x0 (.pointer none)) fun v0 =>
 jn3 (fun s2 h3 l4 =>
 ob (rNil (nt s2 0)) fun v5 =>
 ob (rFld 1 v5) fun v6 =>
 ob (rLd1 h3.get v6) fun v7 =>
 ob (oLk pgB h3.get T_MstringPtable_Table v7 (nt s2 1) false) fun v8 =>
 fin h (rsT v8 (some [])) h3 l4) fun j1 => fork v0
 (fin h (rsT (.pointer none) (some [])) h [])
 (j1 [x0,x1] h [])

--
noncomputable def F_k34 (call:CallF) (lp:LoopF) (x0:Value) (h:H) : Option R3 :=
 ob (binV pgB.ty (tyD (.pointer 0)) .eql x0 (.pointer none)) fun v0 =>
 jn3 (fun s2 h3 l4 =>
 ob (rNil (nt s2 0)) fun v5 =>
 ob (rFld 0 v5) fun v6 =>
 ob (rLd1 h3.get v6) fun v7 =>
 fin h (rsT v7 (some [])) h3 l4) fun j1 => fork v0
 (fin h (rsT (.pointer none) (some [])) h [])
 (j1 [x0] h [])

--
noncomputable def F_k35_L250 (call:CallF) (lp:LoopF) : List Value → H → Option LOut := fun s47 h48 =>
 ob (bI .lss (nt s47 5) (nt s47 4)) fun v49 =>
 jn3 (fun s51 h52 l53 =>
 jn3 (fun s55 h56 l57 =>
 ob (bI .add (nt s55 5) (.int .i64 1)) fun v58 =>
 some ⟨.normal,[nt s55 0,nt s55 1,nt s55 2,nt s55 3,nt s55 4,v58],h56,l57⟩) fun j54 =>
 ob (rIdxS 3 (nt s51 3) (nt s51 5)) fun v59 =>
 ob (rLdA h52.get 3 v59) fun v60 =>
 al (aNew h52.n T_api_Value [(.int .i64 0),(.int .i64 0),(.string ⟨#[]⟩)]) h52 fun v61 h62 =>
 hv (rStore h62 3 v61 v60) fun v63 h64 l65 =>
 ob (rNil (nt s51 0)) fun v66 =>
 ob (rFld 4 v66) fun v67 =>
 ob (rLd1 h64.get v67) fun v68 =>
 ob (rIdxS 1 v68 (nt s51 5)) fun v69 =>
 ob (rLd1 h64.get v69) fun v70 =>
 ob (rLdA h64.get 3 v61) fun v71 =>
 hv (call (.fn N_k74) [v70,v71] h64) fun v72 h73 l74 =>
 dr [0,1,3,7,0,31,63,0,255] [mP h64,mP h64,mP h64,mR h64 (rdP v67),mP h64,mP h64,mR h64 (rdP v69),mR h64 (rdP v61),mH h64 (rdL [v70,v71]) l74 h73] fun l75 =>
 j54 [nt s51 0,nt s51 1,nt s51 2,nt s51 3,nt s51 4,nt s51 5] h73 (l75 ++ (l65 ++ l53))) fun j50 => fork v49
 (j50 [nt s47 0,nt s47 1,nt s47 2,nt s47 3,nt s47 4,nt s47 5] h48 [])
 (some ⟨(.exit 3),[nt s47 0,nt s47 1,nt s47 2,nt s47 3,nt s47 4,nt s47 5],h48,[]⟩)
noncomputable def F_k35_L122 (call:CallF) (lp:LoopF) : List Value → H → Option LOut := fun s78 h79 =>
 ob (bI .lss (nt s78 6) (nt s78 5)) fun v80 =>
 jn3 (fun s82 h83 l84 =>
 jn3 (fun s86 h87 l88 =>
 ob (bI .add (nt s86 6) (.int .i64 1)) fun v89 =>
 some ⟨.normal,[nt s86 0,nt s86 1,nt s86 2,nt s86 3,nt s86 4,nt s86 5,v89],h87,l88⟩) fun j85 =>
 ob (rIdxS 3 (nt s82 4) (nt s82 6)) fun v90 =>
 ob (rLdA h83.get 3 v90) fun v91 =>
 al (aNew h83.n T_api_Value [(.int .i64 0),(.int .i64 0),(.string ⟨#[]⟩)]) h83 fun v92 h93 =>
 hv (rStore h93 3 v92 v91) fun v94 h95 l96 =>
 ob (rLdA h95.get 3 v92) fun v97 =>
 hv (call (.fn N_k73) [nt s82 0,nt s82 6,v97] h95) fun v98 h99 l100 =>
 ob (unV .not v98) fun v101 =>
 jn3 (fun s103 h104 l105 =>
 j85 [nt s103 0,nt s103 1,nt s103 2,nt s103 3,nt s103 4,nt s103 5,nt s103 6] h104 l105) fun j102 => fork v101
 (some ⟨.ret,[nt s82 0,nt s82 1,(.int .i64 0),(.int .i64 4),nt s82 4,nt s82 5,nt s82 6],h99,(l100 ++ (l96 ++ l84))⟩)
 (j102 [nt s82 0,nt s82 1,nt s82 2,nt s82 3,nt s82 4,nt s82 5,nt s82 6] h99 (l100 ++ (l96 ++ l84)))) fun j81 => fork v80
 (j81 [nt s78 0,nt s78 1,nt s78 2,nt s78 3,nt s78 4,nt s78 5,nt s78 6] h79 [])
 (some ⟨(.exit 1),[nt s78 0,nt s78 1,nt s78 2,nt s78 3,nt s78 4,nt s78 5,nt s78 6],h79,[]⟩)
noncomputable def F_k35 (call:CallF) (lp:LoopF) (x0:Value) (x1:Value) (h:H) : Option R3 :=
 jn3 (fun s1 h2 l3 =>
 ob (rLenL (nt s1 1)) fun v4 =>
 jn3 (fun s6 h7 l8 =>
 ob (rLenL (nt s6 1)) fun v9 =>
 jn3 (fun s11 h12 l13 =>
 ob (rNil (nt s11 0)) fun v14 =>
 ob (rFld 5 v14) fun v15 =>
 ob (rLdA h12.get 1 v15) fun v16 =>
 ob (rNil (nt s11 0)) fun v17 =>
 ob (rFld 6 v17) fun v18 =>
 ob (rLd1 h12.get v18) fun v19 =>
 al (aBuildS pgB h12.n T_Li64 1 [(0,v19)]) h12 fun v20 h21 =>
 hv (call (.fn N_k76) [v20] h21) fun v22 h23 l24 =>
 hv (call (.fn N_k75) [v16,v22] h23) fun v25 h26 l27 =>
 ob (rNil (nt s11 0)) fun v28 =>
 ob (rFld 5 v28) fun v29 =>
 hv (rStore h26 1 v29 v25) fun v30 h31 l32 =>
 dr [0,0,2,6,14,0,32,96,224,480,992,2046,4095,8191,16383] [mP h12,mP h12,mP h12,mP h12,mR h12 (rdP v15),mP h12,mP h12,mP h12,mR h12 (rdP v18),mA h12 [],mH h21 (rdL [v20]) l24 h23,mH h23 (rdL [v16,v22]) l27 h26,mP h26,mP h26,mH h26 [] l32 h31] fun l33 =>
 ob (rNil (nt s11 0)) fun v34 =>
 ob (rFld 6 v34) fun v35 =>
 ob (rLd1 h31.get v35) fun v36 =>
 ob (bI .add v36 (.int .i64 1)) fun v37 =>
 ob (rNil (nt s11 0)) fun v38 =>
 ob (rFld 6 v38) fun v39 =>
 hv (rStore h31 1 v39 v37) fun v40 h41 l42 =>
 ob (rNil (nt s11 0)) fun v43 =>
 ob (rFld 6 v43) fun v44 =>
 ob (rLd1 h41.get v44) fun v45 =>
 ob (bI .sub v45 (.int .i64 1)) fun v46 =>
 fin h (rsT v46 (rsT (.int .i64 0) (some []))) h41 (l42 ++ (l33 ++ l13))) fun j10 =>
 ob (lp (F_k35_L250 call lp) [nt s6 0,nt s6 2,nt s6 3,nt s6 1,v9,(.int .i64 0)] h7) fun o76 =>
 onEx o76.ex (j10 [(nt o76.vs 0)] o76.h (o76.lg ++ l8)) (fun i77 => bif Nat.beq i77 3 then j10 [(nt o76.vs 0)] o76.h (o76.lg ++ l8) else none) (fin h (rsT (nt o76.vs 1) (rsT (nt o76.vs 2) (some []))) o76.h (o76.lg ++ l8))) fun j5 =>
 ob (lp (F_k35_L122 call lp) [nt s1 0,nt s1 1,nt s1 2,nt s1 3,nt s1 1,v4,(.int .i64 0)] h2) fun o106 =>
 onEx o106.ex (j5 [(nt o106.vs 0),(nt o106.vs 1),(nt o106.vs 2),(nt o106.vs 3)] o106.h (o106.lg ++ l3)) (fun i107 => bif Nat.beq i107 1 then j5 [(nt o106.vs 0),(nt o106.vs 1),(nt o106.vs 2),(nt o106.vs 3)] o106.h (o106.lg ++ l3) else none) (fin h (rsT (nt o106.vs 2) (rsT (nt o106.vs 3) (some []))) o106.h (o106.lg ++ l3))) fun j0 =>
 ob (binV pgB.ty (tyD (.pointer 0)) .eql x0 (.pointer none)) fun v108 =>
 jn3 (fun s110 h111 l112 =>
 j0 [nt s110 0,nt s110 1,nt s110 2,nt s110 3] h111 l112) fun j109 => fork v108
 (fin h (rsT (.int .i64 0) (rsT (.int .i64 6) (some []))) h [])
 (ob (rNil x0) fun v113 =>
 ob (rFld 6 v113) fun v114 =>
 ob (rLd1 h.get v114) fun v115 =>
 ob (bI .geq v115 (.int .i64 65536)) fun v116 =>
 jn3 (fun s118 h119 l120 =>
 j109 [nt s118 0,nt s118 1,nt s118 2,nt s118 3] h119 l120) fun j117 => fork v116
 (fin h (rsT (.int .i64 0) (rsT (.int .i64 5) (some []))) h [])
 (ob (rLenL x1) fun v121 =>
 ob (rNil x0) fun v122 =>
 ob (rFld 4 v122) fun v123 =>
 ob (rLd1 h.get v123) fun v124 =>
 ob (rLenL v124) fun v125 =>
 ob (bI .neq v121 v125) fun v126 =>
 jn3 (fun s128 h129 l130 =>
 j117 [nt s128 0,nt s128 1,nt s128 2,nt s128 3] h129 l130) fun j127 => fork v126
 (fin h (rsT (.int .i64 0) (rsT (.int .i64 1) (some []))) h [])
 (j127 [x0,x1,(.int .i64 0),(.int .i64 0)] h [])))

--
noncomputable def F_k36 (call:CallF) (lp:LoopF) (h:H) : Option R3 :=
 hv (call (.fn N_k77) [] h) fun v0 h1 l2 =>
 fin h (rsT v0 (some [])) h1 (l2 ++ [])

--
noncomputable def F_k38 (call:CallF) (lp:LoopF) (h:H) : Option R3 :=
 ob (oBuild pgB T_api_Col [(0,(.string ⟨#[105,100]⟩)),(1,(.int .i64 1))]) fun v0 =>
 ob (oBuild pgB T_api_Col [(0,(.string ⟨#[110,97,109,101]⟩)),(1,(.int .i64 2))]) fun v1 =>
 al (aBuildS pgB h.n T_Lapi_Col 2 [(0,v0),(1,v1)]) h fun v2 h3 =>
 ob (oBuild pgB T_api_Table [(0,(.string ⟨#[108,97,110,100]⟩)),(1,v2),(2,(.string ⟨#[105,100]⟩))]) fun v4 =>
 ob (oBuild pgB T_api_Col [(0,(.string ⟨#[105,100]⟩)),(1,(.int .i64 1))]) fun v5 =>
 ob (oBuild pgB T_api_Col [(0,(.string ⟨#[99,105,116,121]⟩)),(1,(.int .i64 2)),(2,(.bool true))]) fun v6 =>
 ob (oBuild pgB T_api_Col [(0,(.string ⟨#[122,111,110,101]⟩)),(1,(.int .i64 2))]) fun v7 =>
 ob (oBuild pgB T_api_Col [(0,(.string ⟨#[108,97,110,100]⟩)),(1,(.int .i64 1)),(3,(.string ⟨#[108,97,110,100]⟩))]) fun v8 =>
 al (aBuildS pgB h3.n T_Lapi_Col 4 [(0,v5),(1,v6),(2,v7),(3,v8)]) h3 fun v9 h10 =>
 al (aBuildS pgB h10.n T_Lstring 1 [(0,(.string ⟨#[99,105,116,121]⟩))]) h10 fun v11 h12 =>
 ob (oBuild pgB T_api_Dep [(0,v11),(1,(.string ⟨#[122,111,110,101]⟩))]) fun v13 =>
 al (aBuildS pgB h12.n T_Lapi_Dep 1 [(0,v13)]) h12 fun v14 h15 =>
 ob (oBuild pgB T_api_Table [(0,(.string ⟨#[115,104,111,112]⟩)),(1,v9),(2,(.string ⟨#[105,100]⟩)),(3,v14)]) fun v16 =>
 ob (oBuild pgB T_api_Col [(0,(.string ⟨#[100]⟩)),(1,(.int .i64 2))]) fun v17 =>
 ob (oBuild pgB T_api_Col [(0,(.string ⟨#[109,111,110,116,104]⟩)),(1,(.int .i64 1)),(2,(.bool true))]) fun v18 =>
 ob (oBuild pgB T_api_Col [(0,(.string ⟨#[121,101,97,114]⟩)),(1,(.int .i64 1))]) fun v19 =>
 al (aBuildS pgB h15.n T_Lapi_Col 3 [(0,v17),(1,v18),(2,v19)]) h15 fun v20 h21 =>
 al (aBuildS pgB h21.n T_Lstring 1 [(0,(.string ⟨#[109,111,110,116,104]⟩))]) h21 fun v22 h23 =>
 ob (oBuild pgB T_api_Dep [(0,v22),(1,(.string ⟨#[121,101,97,114]⟩))]) fun v24 =>
 al (aBuildS pgB h23.n T_Lapi_Dep 1 [(0,v24)]) h23 fun v25 h26 =>
 ob (oBuild pgB T_api_Table [(0,(.string ⟨#[100,97,121]⟩)),(1,v20),(2,(.string ⟨#[100]⟩)),(3,v25)]) fun v27 =>
 ob (oBuild pgB T_api_Col [(0,(.string ⟨#[115,104,111,112]⟩)),(1,(.int .i64 1)),(3,(.string ⟨#[115,104,111,112]⟩))]) fun v28 =>
 ob (oBuild pgB T_api_Col [(0,(.string ⟨#[100,97,121]⟩)),(1,(.int .i64 2)),(3,(.string ⟨#[100,97,121]⟩))]) fun v29 =>
 ob (oBuild pgB T_api_Col [(0,(.string ⟨#[110]⟩)),(1,(.int .i64 1))]) fun v30 =>
 ob (oBuild pgB T_api_Col [(0,(.string ⟨#[116,97,103]⟩)),(1,(.int .i64 2))]) fun v31 =>
 al (aBuildS pgB h26.n T_Lapi_Col 4 [(0,v28),(1,v29),(2,v30),(3,v31)]) h26 fun v32 h33 =>
 ob (oBuild pgB T_api_Table [(0,(.string ⟨#[115,97,108,101]⟩)),(1,v32)]) fun v34 =>
 al (aBuildS pgB h33.n T_Lapi_Table 4 [(0,v4),(1,v16),(2,v27),(3,v34)]) h33 fun v35 h36 =>
 fin h (rsT v35 (some [])) h36 []

--
noncomputable def F_k39 (call:CallF) (lp:LoopF) (x0:Value) (x1:Value) (h:H) : Option R3 :=
 al (aBx h.n T_api_Table 4 x1) h fun v0 h1 =>
 ob (binV pgB.ty (tyD (.pointer 0)) .eql x0 (.pointer none)) fun v2 =>
 jn3 (fun s4 h5 l6 =>
 ob (rNil (nt s4 0)) fun v7 =>
 ob (rFld 0 v7) fun v8 =>
 ob (rLd1 h5.get v8) fun v9 =>
 ob (rLdA h5.get 4 (nt s4 1)) fun v10 =>
 hv (call (.fn N_k50) [v9,v10] h5) fun v11 h12 l13 =>
 dr [0,1,3,7,0,31,63] [mP h5,mP h5,mP h5,mR h5 (rdP v8),mR h5 (rdP (nt s4 1)),mH h5 (rdL [v9,v10]) l13 h12,mP h12] fun l14 =>
 ob (bI .neq v11 (.int .i64 0)) fun v15 =>
 jn3 (fun s17 h18 l19 =>
 ob (rNil (nt s17 0)) fun v20 =>
 ob (rFld 0 v20) fun v21 =>
 ob (rLd1 h18.get v21) fun v22 =>
 ob (rFld 0 (nt s17 1)) fun v23 =>
 ob (rLd1 h18.get v23) fun v24 =>
 hv (call (.fn N_k49) [v22,v24] h18) fun v25 h26 l27 =>
 ob (rExtract 0 v25) fun v28 =>
 ob (rExtract 1 v25) fun v29 =>
 al (aNew h26.n T_api_Table [(.string ⟨#[]⟩),(.slice none 0 0),(.string ⟨#[]⟩),(.slice none 0 0)]) h26 fun v30 h31 =>
 hv (rStore h31 4 v30 v28) fun v32 h33 l34 =>
 dr [0,1,3,7,0,16,63,127,255,255,0,1535,4095] [mP h18,mP h18,mP h18,mR h18 (rdP v21),mP h18,mR h18 (rdP v23),mH h18 (rdL [v22,v24]) l27 h26,mP h26,mP h26,mP h26,mA h26 [],mH h31 [] l34 h33,mP h33] fun l35 =>
 ob (rNil (nt s17 0)) fun v36 =>
 ob (rFld 1 v36) fun v37 =>
 ob (rLd1 h33.get v37) fun v38 =>
 ob (rFld 0 (nt s17 1)) fun v39 =>
 ob (rLd1 h33.get v39) fun v40 =>
 ob (rLdA h33.get 4 v30) fun v41 =>
 hv (call (.fn N_k78) [v41] h33) fun v42 h43 l44 =>
 hv (rMapUpd h43 v38 v40 v42) fun v45 h46 l47 =>
 dr [0,1,3,7,0,16,0,64,255] [mP h33,mP h33,mP h33,mR h33 (rdP v37),mP h33,mR h33 (rdP v39),mR h33 (rdP v30),mH h33 (rdL [v41]) l44 h43,mH h43 [] l47 h46] fun l48 =>
 fin h (rsT (.int .i64 0) (some [])) h46 (l48 ++ (l35 ++ l19))) fun j16 => fork v15
 (fin h (rsT v11 (some [])) h12 (l14 ++ l6))
 (j16 [nt s4 0,nt s4 1] h12 (l14 ++ l6))) fun j3 => fork v2
 (fin h (rsT (.int .i64 6) (some [])) h1 [])
 (j3 [x0,v0] h1 [])

--
noncomputable def F_k40 (call:CallF) (lp:LoopF) (x0:Value) (x1:Value) (h:H) : Option R3 :=
 al (aBx h.n T_api_Table 4 x1) h fun v0 h1 =>
 ob (rNil x0) fun v2 =>
 ob (rFld 0 v2) fun v3 =>
 ob (rLd1 h1.get v3) fun v4 =>
 ob (rLdA h1.get 4 v0) fun v5 =>
 hv (call (.fn N_k79) [v4,v5] h1) fun v6 h7 l8 =>
 dr [0,1,3,7,0,31,63] [mP h1,mP h1,mP h1,mR h1 (rdP v3),mR h1 (rdP v0),mH h1 (rdL [v4,v5]) l8 h7,mP h7] fun l9 =>
 ob (bI .neq v6 (.int .i64 0)) fun v10 =>
 jn3 (fun s12 h13 l14 =>
 ob (rNil (nt s12 0)) fun v15 =>
 ob (rFld 0 v15) fun v16 =>
 ob (rLd1 h13.get v16) fun v17 =>
 ob (rLdA h13.get 4 (nt s12 1)) fun v18 =>
 hv (call (.fn N_k80) [v18] h13) fun v19 h20 l21 =>
 al (aBuildS pgB h20.n T_asterismref8_Schema 1 [(0,v19)]) h20 fun v22 h23 =>
 hv (rApp h23 T_api_Table 4 80 [(.string ⟨#[]⟩),(.slice none 0 0),(.string ⟨#[]⟩),(.slice none 0 0)] v17 v22) fun v24 h25 l26 =>
 ob (rNil (nt s12 0)) fun v27 =>
 ob (rFld 0 v27) fun v28 =>
 hv (rStore h25 1 v28 v24) fun v29 h30 l31 =>
 dr [0,0,2,6,14,0,32,96,254,511,1023,2047] [mP h13,mP h13,mP h13,mP h13,mR h13 (rdP v16),mR h13 (rdP (nt s12 1)),mH h13 (rdL [v18]) l21 h20,mA h20 [],mH h23 (rdL [v17,v22]) l26 h25,mP h25,mP h25,mH h25 [] l31 h30] fun l32 =>
 ob (rNil (nt s12 0)) fun v33 =>
 ob (rFld 1 v33) fun v34 =>
 ob (rLd1 h30.get v34) fun v35 =>
 al (aBuildS pgB h30.n T_LLasterismref12_Row 1 [(0,(.slice none 0 0))]) h30 fun v36 h37 =>
 hv (rApp h37 T_Lasterismref12_Row 1 24 [(.slice none 0 0)] v35 v36) fun v38 h39 l40 =>
 ob (rNil (nt s12 0)) fun v41 =>
 ob (rFld 2 v41) fun v42 =>
 ob (rLd1 h39.get v42) fun v43 =>
 al (aBuildS pgB h39.n T_Li64 1 [(0,(.int .i64 0))]) h39 fun v44 h45 =>
 hv (rApp h45 T_i64_b 1 8 [(.int .i64 0)] v43 v44) fun v46 h47 l48 =>
 ob (rNil (nt s12 0)) fun v49 =>
 ob (rFld 1 v49) fun v50 =>
 hv (rStore h47 1 v50 v38) fun v51 h52 l53 =>
 ob (rNil (nt s12 0)) fun v54 =>
 ob (rFld 2 v54) fun v55 =>
 hv (rStore h52 1 v55 v46) fun v56 h57 l58 =>
 dr [0,0,0,4,12,28,0,124,0,256,768,1792,0,8188,16381,32765,65533,131071,262143,524287] [mP h30,mP h30,mP h30,mP h30,mP h30,mR h30 (rdP v34),mA h30 [],mH h37 (rdL [v35,v36]) l40 h39,mP h39,mP h39,mP h39,mR h39 (rdP v42),mA h39 [],mH h45 (rdL [v43,v44]) l48 h47,mP h47,mP h47,mH h47 [] l53 h52,mP h52,mP h52,mH h52 [] l58 h57] fun l59 =>
 fin h (rsT (.int .i64 0) (some [])) h57 (l59 ++ (l32 ++ l14))) fun j11 => fork v10
 (fin h (rsT v6 (some [])) h7 (l9 ++ []))
 (j11 [x0,v0] h7 (l9 ++ []))

--
noncomputable def F_k41_L58 (call:CallF) (lp:LoopF) : List Value → H → Option LOut := fun s4 h5 =>
 ob (rLenL (nt s4 0)) fun v6 =>
 ob (bI .lss (nt s4 3) v6) fun v7 =>
 jn3 (fun s9 h10 l11 =>
 jn3 (fun s13 h14 l15 =>
 ob (bI .add (nt s13 3) (.int .i64 1)) fun v16 =>
 some ⟨.normal,[nt s13 0,nt s13 1,nt s13 2,v16],h14,l15⟩) fun j12 =>
 ob (rIdxS 4 (nt s9 0) (nt s9 3)) fun v17 =>
 ob (rFld 0 v17) fun v18 =>
 ob (rLd1 h10.get v18) fun v19 =>
 ob (binV pgB.ty (tyD .string) .eql v19 (nt s9 1)) fun v20 =>
 jn3 (fun s22 h23 l24 =>
 j12 [nt s22 0,nt s22 1,nt s22 2,nt s22 3] h23 l24) fun j21 => fork v20
 (some ⟨.ret,[nt s9 0,nt s9 1,nt s9 3,nt s9 3],h10,l11⟩)
 (j21 [nt s9 0,nt s9 1,nt s9 2,nt s9 3] h10 l11)) fun j8 => fork v7
 (j8 [nt s4 0,nt s4 1,nt s4 2,nt s4 3] h5 [])
 (some ⟨(.exit 0),[nt s4 0,nt s4 1,nt s4 2,nt s4 3],h5,[]⟩)
noncomputable def F_k41 (call:CallF) (lp:LoopF) (x0:Value) (x1:Value) (h:H) : Option R3 :=
 jn3 (fun s1 h2 l3 =>
 fin h (rsT (.int .i64 (-1)) (some [])) h2 l3) fun j0 =>
 ob (lp (F_k41_L58 call lp) [x0,x1,(.int .i64 0),(.int .i64 0)] h) fun o25 =>
 onEx o25.ex (j0 [] o25.h (o25.lg ++ [])) (fun i26 => bif Nat.beq i26 0 then j0 [] o25.h (o25.lg ++ []) else none) (fin h (rsT (nt o25.vs 2) (some [])) o25.h (o25.lg ++ []))

--
noncomputable def F_k42_L250 (call:CallF) (lp:LoopF) : List Value → H → Option LOut := fun s64 h65 =>
 ob (rLenL (nt s64 2)) fun v66 =>
 ob (bI .lss (nt s64 5) v66) fun v67 =>
 jn3 (fun s69 h70 l71 =>
 jn3 (fun s73 h74 l75 =>
 ob (bI .add (nt s73 5) (.int .i64 1)) fun v76 =>
 some ⟨.normal,[nt s73 0,nt s73 1,nt s73 2,nt s73 3,nt s73 4,v76],h74,l75⟩) fun j72 =>
 ob (rIdxS 3 (nt s69 2) (nt s69 5)) fun v77 =>
 ob (rLdA h70.get 3 v77) fun v78 =>
 ob (rNil (nt s69 0)) fun v79 =>
 ob (rFld 0 v79) fun v80 =>
 ob (rLd1 h70.get v80) fun v81 =>
 ob (rIdxS 4 v81 (nt s69 1)) fun v82 =>
 ob (rFld 1 v82) fun v83 =>
 ob (rLd1 h70.get v83) fun v84 =>
 ob (rIdxS 4 v84 (nt s69 5)) fun v85 =>
 ob (rLdA h70.get 4 v85) fun v86 =>
 hv (call (.fn N_k81) [v78,v86] h70) fun v87 h88 l89 =>
 ob (unV .not v87) fun v90 =>
 dr [0,0,3,7,0,16,48,112,0,496,1008,2032,0,8176,16368,32767,65535] [mP h70,mP h70,mP h70,mR h70 (rdP v77),mP h70,mP h70,mP h70,mR h70 (rdP v80),mP h70,mP h70,mP h70,mR h70 (rdP v83),mP h70,mP h70,mR h70 (rdP v85),mH h70 (rdL [v78,v86]) l89 h88,mP h88] fun l91 =>
 jn3 (fun s93 h94 l95 =>
 j72 [nt s93 0,nt s93 1,nt s93 2,nt s93 3,nt s93 4,nt s93 5] h94 l95) fun j92 => fork v90
 (some ⟨.ret,[nt s69 0,nt s69 1,nt s69 2,(.int .i64 0),(.int .i64 4),nt s69 5],h88,(l91 ++ l71)⟩)
 (j92 [nt s69 0,nt s69 1,nt s69 2,nt s69 3,nt s69 4,nt s69 5] h88 (l91 ++ l71))) fun j68 => fork v67
 (j68 [nt s64 0,nt s64 1,nt s64 2,nt s64 3,nt s64 4,nt s64 5] h65 [])
 (some ⟨(.exit 0),[nt s64 0,nt s64 1,nt s64 2,nt s64 3,nt s64 4,nt s64 5],h65,[]⟩)
noncomputable def F_k42 (call:CallF) (lp:LoopF) (x0:Value) (x1:Value) (x2:Value) (h:H) : Option R3 :=
 ob (rNil x0) fun v0 =>
 ob (rFld 2 v0) fun v1 =>
 ob (rLd1 h.get v1) fun v2 =>
 ob (rIdxS 1 v2 x1) fun v3 =>
 ob (rLd1 h.get v3) fun v4 =>
 ob (bI .geq v4 (.int .i64 65536)) fun v5 =>
 jn3 (fun s7 h8 l9 =>
 ob (rLenL (nt s7 2)) fun v10 =>
 ob (rNil (nt s7 0)) fun v11 =>
 ob (rFld 0 v11) fun v12 =>
 ob (rLd1 h8.get v12) fun v13 =>
 ob (rIdxS 4 v13 (nt s7 1)) fun v14 =>
 ob (rFld 1 v14) fun v15 =>
 ob (rLd1 h8.get v15) fun v16 =>
 ob (rLenL v16) fun v17 =>
 ob (bI .neq v10 v17) fun v18 =>
 jn3 (fun s20 h21 l22 =>
 jn3 (fun s24 h25 l26 =>
 ob (rNil (nt s24 0)) fun v27 =>
 ob (rFld 2 v27) fun v28 =>
 ob (rLd1 h25.get v28) fun v29 =>
 ob (rIdxS 1 v29 (nt s24 1)) fun v30 =>
 ob (rLd1 h25.get v30) fun v31 =>
 ob (rNil (nt s24 0)) fun v32 =>
 ob (rFld 2 v32) fun v33 =>
 ob (rLd1 h25.get v33) fun v34 =>
 ob (rIdxS 1 v34 (nt s24 1)) fun v35 =>
 ob (rLd1 h25.get v35) fun v36 =>
 ob (bI .add v36 (.int .i64 1)) fun v37 =>
 ob (rIdxS 1 v34 (nt s24 1)) fun v38 =>
 hv (rStore h25 1 v38 v37) fun v39 h40 l41 =>
 ob (rNil (nt s24 0)) fun v42 =>
 ob (rFld 1 v42) fun v43 =>
 ob (rLd1 h40.get v43) fun v44 =>
 ob (rNil (nt s24 0)) fun v45 =>
 ob (rFld 1 v45) fun v46 =>
 ob (rLd1 h40.get v46) fun v47 =>
 ob (rIdxS 1 v47 (nt s24 1)) fun v48 =>
 ob (rLd1 h40.get v48) fun v49 =>
 hv (rApp h40 T_api_Value 3 32 [(.int .i64 0),(.int .i64 0),(.string ⟨#[]⟩)] (.slice none 0 0) (nt s24 2)) fun v50 h51 l52 =>
 ob (oBuild pgB T_asterismref12_Row [(0,v31),(1,v50)]) fun v53 =>
 al (aBuildS pgB h51.n T_Lasterismref12_Row 1 [(0,v53)]) h51 fun v54 h55 =>
 hv (rApp h55 T_asterismref12_Row 2 32 [(.int .i64 0),(.slice none 0 0)] v49 v54) fun v56 h57 l58 =>
 ob (rIdxS 1 v44 (nt s24 1)) fun v59 =>
 hv (rStore h57 1 v59 v56) fun v60 h61 l62 =>
 dr [0,1,3,7,0,0,32,96,224,0,992,2016,0,0,8192,28672,61440,131040,262143,524287] [mP h40,mP h40,mP h40,mR h40 (rdP v43),mP h40,mP h40,mP h40,mP h40,mR h40 (rdP v46),mP h40,mP h40,mR h40 (rdP v48),mP h40,mP h40,mH h40 (rdL [(.slice none 0 0),nt s24 2]) l52 h51,mP h51,mA h51 [],mH h55 (rdL [v49,v54]) l58 h57,mP h57,mH h57 [] l62 h61] fun l63 =>
 fin h (rsT v31 (rsT (.int .i64 0) (some []))) h61 (l63 ++ (l41 ++ l26))) fun j23 =>
 ob (lp (F_k42_L250 call lp) [nt s20 0,nt s20 1,nt s20 2,nt s20 3,nt s20 4,(.int .i64 0)] h21) fun o96 =>
 onEx o96.ex (j23 [(nt o96.vs 0),(nt o96.vs 1),(nt o96.vs 2)] o96.h (o96.lg ++ l22)) (fun i97 => bif Nat.beq i97 0 then j23 [(nt o96.vs 0),(nt o96.vs 1),(nt o96.vs 2)] o96.h (o96.lg ++ l22) else none) (fin h (rsT (nt o96.vs 3) (rsT (nt o96.vs 4) (some []))) o96.h (o96.lg ++ l22))) fun j19 => fork v18
 (fin h (rsT (.int .i64 0) (rsT (.int .i64 1) (some []))) h8 l9)
 (j19 [nt s7 0,nt s7 1,nt s7 2,nt s7 3,nt s7 4] h8 l9)) fun j6 => fork v5
 (fin h (rsT (.int .i64 0) (rsT (.int .i64 5) (some []))) h [])
 (j6 [x0,x1,x2,(.int .i64 0),(.int .i64 0)] h [])

--
noncomputable def F_k43_L250 (call:CallF) (lp:LoopF) : List Value → H → Option LOut := fun s40 h41 =>
 ob (bI .lss (nt s40 4) (nt s40 3)) fun v42 =>
 jn3 (fun s44 h45 l46 =>
 jn3 (fun s48 h49 l50 =>
 ob (bI .add (nt s48 4) (.int .i64 1)) fun v51 =>
 some ⟨.normal,[nt s48 0,nt s48 1,nt s48 2,nt s48 3,v51],h49,l50⟩) fun j47 =>
 ob (rIdxS 1 (nt s44 2) (nt s44 4)) fun v52 =>
 ob (rLd1 h45.get v52) fun v53 =>
 ob (oBuild pgB T_api_Value []) fun v54 =>
 hv (call (.fn N_k83) [v53,nt s44 0,v54] h45) fun v55 h56 l57 =>
 j47 [nt s44 0,nt s44 1,nt s44 2,nt s44 3,nt s44 4] h56 (l57 ++ l46)) fun j43 => fork v42
 (j43 [nt s40 0,nt s40 1,nt s40 2,nt s40 3,nt s40 4] h41 [])
 (some ⟨(.exit 0),[nt s40 0,nt s40 1,nt s40 2,nt s40 3,nt s40 4],h41,[]⟩)
noncomputable def F_k43 (call:CallF) (lp:LoopF) (x0:Value) (x1:Value) (h:H) : Option R3 :=
 ob (binV pgB.ty (tyD (.pointer 0)) .eql x0 (.pointer none)) fun v0 =>
 gP (gd v0 false) (some x0) fun v1 =>
 gP (gd v0 false) (rNil v1) fun v2 =>
 gP (gd v0 false) (rFld 5 v2) fun v3 =>
 gP (gd v0 false) (rLdA h.get 1 v3) fun v4 =>
 gP (gd v0 false) (some x1) fun v5 =>
 hv (gV (gd v0 false) (call (.fn N_k59) [v4,v5] h) h) fun v6 h7 l8 =>
 gP (gd v0 false) (unV .not v6) fun v9 =>
 ob (rPick v0 (.bool true) v9) fun v10 =>
 jn3 (fun s12 h13 l14 =>
 ob (rNil (nt s12 0)) fun v15 =>
 ob (rFld 5 v15) fun v16 =>
 ob (rLdA h13.get 1 v16) fun v17 =>
 al (aBuildS pgB h13.n T_Li64 1 [(0,(nt s12 1))]) h13 fun v18 h19 =>
 hv (call (.fn N_k76) [v18] h19) fun v20 h21 l22 =>
 hv (call (.fn N_k82) [v17,v20] h21) fun v23 h24 l25 =>
 ob (rNil (nt s12 0)) fun v26 =>
 ob (rFld 5 v26) fun v27 =>
 hv (rStore h24 1 v27 v23) fun v28 h29 l30 =>
 dr [0,0,2,6,14,0,32,96,254,511,1023,2047] [mP h13,mP h13,mP h13,mP h13,mR h13 (rdP v16),mP h13,mA h13 [],mH h19 (rdL [v18]) l22 h21,mH h21 (rdL [v17,v20]) l25 h24,mP h24,mP h24,mH h24 [] l30 h29] fun l31 =>
 ob (rNil (nt s12 0)) fun v32 =>
 ob (rFld 4 v32) fun v33 =>
 ob (rLd1 h29.get v33) fun v34 =>
 ob (rLenL v34) fun v35 =>
 jn3 (fun s37 h38 l39 =>
 fin h (rsT (.bool true) (some [])) h38 l39) fun j36 =>
 ob (lp (F_k43_L250 call lp) [nt s12 1,nt s12 2,v34,v35,(.int .i64 0)] h29) fun o58 =>
 onEx o58.ex (j36 [] o58.h (o58.lg ++ (l31 ++ l14))) (fun i59 => bif Nat.beq i59 0 then j36 [] o58.h (o58.lg ++ (l31 ++ l14)) else none) (fin h (rsT (nt o58.vs 1) (some [])) o58.h (o58.lg ++ (l31 ++ l14)))) fun j11 => fork v10
 (fin h (rsT (.bool false) (some [])) h7 (l8 ++ []))
 (j11 [x0,x1,(.bool false)] h7 (l8 ++ []))

--
noncomputable def F_k45 (call:CallF) (lp:LoopF) (x0:Value) (x1:Value) (x2:Value) (x3:Value) (h:H) : Option R3 :=
 al (aBx h.n T_api_Value 3 x3) h fun v0 h1 =>
 hv (call (.fn N_k84) [x0,x2] h1) fun v2 h3 l4 =>
 jn3 (fun s6 h7 l8 =>
 ob (rNil (nt s6 0)) fun v9 =>
 ob (rFld 4 v9) fun v10 =>
 ob (rLd1 h7.get v10) fun v11 =>
 ob (rIdxS 1 v11 (nt s6 3)) fun v12 =>
 ob (rLd1 h7.get v12) fun v13 =>
 ob (rLdA h7.get 3 (nt s6 2)) fun v14 =>
 hv (call (.fn N_k83) [v13,nt s6 1,v14] h7) fun v15 h16 l17 =>
 dr [0,1,3,7,0,31,63,0,0,511] [mP h7,mP h7,mP h7,mR h7 (rdP v10),mP h7,mP h7,mR h7 (rdP v12),mP h7,mR h7 (rdP (nt s6 2)),mH h7 (rdL [v13,nt s6 1,v14]) l17 h16] fun l18 =>
 fin h (rsT (.int .i64 0) (some [])) h16 (l18 ++ l8)) fun j5 =>
 ob (binV pgB.ty (tyD (.pointer 0)) .eql x0 (.pointer none)) fun v19 =>
 gP (gd v19 false) (some x0) fun v20 =>
 gP (gd v19 false) (rNil v20) fun v21 =>
 gP (gd v19 false) (rFld 5 v21) fun v22 =>
 gP (gd v19 false) (rLdA h3.get 1 v22) fun v23 =>
 gP (gd v19 false) (some x1) fun v24 =>
 hv (gV (gd v19 false) (call (.fn N_k59) [v23,v24] h3) h3) fun v25 h26 l27 =>
 gP (gd v19 false) (unV .not v25) fun v28 =>
 ob (rPick v19 (.bool true) v28) fun v29 =>
 jn3 (fun s31 h32 l33 =>
 j5 [nt s31 0,nt s31 1,nt s31 2,nt s31 3] h32 l33) fun j30 => fork v29
 (fin h (rsT (.int .i64 6) (some [])) h26 (l27 ++ (l4 ++ [])))
 (ob (bI .lss v2 (.int .i64 0)) fun v34 =>
 jn3 (fun s36 h37 l38 =>
 j30 [nt s36 0,nt s36 1,nt s36 2,nt s36 3] h37 l38) fun j35 => fork v34
 (fin h (rsT (.int .i64 3) (some [])) h26 (l27 ++ (l4 ++ [])))
 (ob (rLdA h26.get 3 v0) fun v39 =>
 hv (call (.fn N_k73) [x0,v2,v39] h26) fun v40 h41 l42 =>
 ob (unV .not v40) fun v43 =>
 jn3 (fun s45 h46 l47 =>
 j35 [nt s45 0,nt s45 1,nt s45 2,nt s45 3] h46 l47) fun j44 => fork v43
 (fin h (rsT (.int .i64 4) (some [])) h41 (l42 ++ (l27 ++ (l4 ++ []))))
 (j44 [x0,x1,v0,v2] h41 (l42 ++ (l27 ++ (l4 ++ []))))))

--
noncomputable def F_k48_L250 (call:CallF) (lp:LoopF) : List Value → H → Option LOut := fun s13 h14 =>
 ob (bI .lss (nt s13 4) (nt s13 3)) fun v15 =>
 jn3 (fun s17 h18 l19 =>
 jn3 (fun s21 h22 l23 =>
 ob (bI .add (nt s21 4) (.int .i64 1)) fun v24 =>
 some ⟨.normal,[nt s21 0,nt s21 1,nt s21 2,nt s21 3,v24],h22,l23⟩) fun j20 =>
 ob (rIdxS 4 (nt s17 2) (nt s17 4)) fun v25 =>
 ob (rLdA h18.get 4 v25) fun v26 =>
 al (aNew h18.n T_api_Table [(.string ⟨#[]⟩),(.slice none 0 0),(.string ⟨#[]⟩),(.slice none 0 0)]) h18 fun v27 h28 =>
 hv (rStore h28 4 v27 v26) fun v29 h30 l31 =>
 ob (rFld 0 v27) fun v32 =>
 ob (rLd1 h30.get v32) fun v33 =>
 al (aBuildS pgB h30.n T_Lstring 1 [(0,v33)]) h30 fun v34 h35 =>
 hv (rApp h35 T_string 1 16 [(.string ⟨#[]⟩)] (nt s17 1) v34) fun v36 h37 l38 =>
 j20 [nt s17 0,v36,nt s17 2,nt s17 3,nt s17 4] h37 (l38 ++ (l31 ++ l19))) fun j16 => fork v15
 (j16 [nt s13 0,nt s13 1,nt s13 2,nt s13 3,nt s13 4] h14 [])
 (some ⟨(.exit 0),[nt s13 0,nt s13 1,nt s13 2,nt s13 3,nt s13 4],h14,[]⟩)
noncomputable def F_k48 (call:CallF) (lp:LoopF) (x0:Value) (h:H) : Option R3 :=
 ob (binV pgB.ty (tyD (.pointer 0)) .eql x0 (.pointer none)) fun v0 =>
 jn3 (fun s2 h3 l4 =>
 ob (rNil (nt s2 0)) fun v5 =>
 ob (rFld 0 v5) fun v6 =>
 ob (rLd1 h3.get v6) fun v7 =>
 ob (rLenL v7) fun v8 =>
 jn3 (fun s10 h11 l12 =>
 fin h (rsT (nt s10 0) (some [])) h11 l12) fun j9 =>
 ob (lp (F_k48_L250 call lp) [nt s2 1,(.slice none 0 0),v7,v8,(.int .i64 0)] h3) fun o39 =>
 onEx o39.ex (j9 [(nt o39.vs 1)] o39.h (o39.lg ++ l4)) (fun i40 => bif Nat.beq i40 0 then j9 [(nt o39.vs 1)] o39.h (o39.lg ++ l4) else none) (fin h (rsT (nt o39.vs 0) (some [])) o39.h (o39.lg ++ l4))) fun j1 => fork v0
 (fin h (rsT (.slice none 0 0) (some [])) h [])
 (j1 [x0,(.slice none 0 0)] h [])

--
noncomputable def F_k49 (call:CallF) (lp:LoopF) (x0:Value) (x1:Value) (h:H) : Option R3 :=
 al (aBx h.n T_string 1 x1) h fun v0 h1 =>
 al (aNew h1.n T_api_Table [(.string ⟨#[]⟩),(.slice none 0 0),(.string ⟨#[]⟩),(.slice none 0 0)]) h1 fun v2 h3 =>
 ob (binV pgB.ty (tyD (.pointer 0)) .eql x0 (.pointer none)) fun v4 =>
 jn3 (fun s6 h7 l8 =>
 ob (rNil (nt s6 0)) fun v9 =>
 ob (rFld 0 v9) fun v10 =>
 ob (rLd1 h7.get v10) fun v11 =>
 ob (oFunc N_k86 #[] #[nt s6 1]) fun v12 =>
 hv (call (.fn N_k85) [v11,v12] h7) fun v13 h14 l15 =>
 ob (bI .lss v13 (.int .i64 0)) fun v16 =>
 jn3 (fun s18 h19 l20 =>
 ob (rNil (nt s18 0)) fun v21 =>
 ob (rFld 0 v21) fun v22 =>
 ob (rLd1 h19.get v22) fun v23 =>
 ob (rIdxS 4 v23 (nt s18 2)) fun v24 =>
 ob (rLdA h19.get 4 v24) fun v25 =>
 hv (call (.fn N_k87) [v25] h19) fun v26 h27 l28 =>
 hv (rStore h27 4 (nt s18 1) v26) fun v29 h30 l31 =>
 fin h (rsK (rLdA h30.get 4 (nt s18 1)) (rsT (.bool true) (some []))) h30 (l31 ++ (l28 ++ l20))) fun j17 => fork v16
 (ob (oBuild pgB T_api_Table []) fun v32 =>
 hv (rStore h14 4 (nt s6 2) v32) fun v33 h34 l35 =>
 fin h (rsK (rLdA h34.get 4 (nt s6 2)) (rsT (.bool false) (some []))) h34 (l35 ++ (l15 ++ l8)))
 (j17 [nt s6 0,nt s6 2,v13] h14 (l15 ++ l8))) fun j5 => fork v4
 (ob (oBuild pgB T_api_Table []) fun v36 =>
 hv (rStore h3 4 v2 v36) fun v37 h38 l39 =>
 fin h (rsK (rLdA h38.get 4 v2) (rsT (.bool false) (some []))) h38 (l39 ++ []))
 (j5 [x0,v0,v2] h3 [])

--
noncomputable def F_k50 (call:CallF) (lp:LoopF) (x0:Value) (x1:Value) (h:H) : Option R3 :=
 al (aBx h.n T_api_Table 4 x1) h fun v0 h1 =>
 jn3 (fun s3 h4 l5 =>
 ob (rLdA h4.get 4 (nt s3 1)) fun v6 =>
 hv (call (.fn N_k91) [nt s3 0,v6] h4) fun v7 h8 l9 =>
 ob (bI .neq v7 (.int .i64 0)) fun v10 =>
 jn3 (fun s12 h13 l14 =>
 ob (rLdA h13.get 4 (nt s12 1)) fun v15 =>
 hv (call (.fn N_k87) [v15] h13) fun v16 h17 l18 =>
 hv (rStore h17 4 (nt s12 1) v16) fun v19 h20 l21 =>
 ob (rLdA h20.get 4 (nt s12 1)) fun v22 =>
 ob (rFld 2 (nt s12 1)) fun v23 =>
 ob (rLd1 h20.get v23) fun v24 =>
 hv (call (.fn N_k92) [v22,v24] h20) fun v25 h26 l27 =>
 ob (bI .geq v25 (.int .i64 0)) fun v28 =>
 jn3 (fun s30 h31 l32 =>
 ob (rNil (nt s30 0)) fun v33 =>
 ob (rFld 0 v33) fun v34 =>
 ob (rLd1 h31.get v34) fun v35 =>
 ob (rLdA h31.get 4 (nt s30 1)) fun v36 =>
 al (aBuildS pgB h31.n T_Lapi_Table 1 [(0,v36)]) h31 fun v37 h38 =>
 hv (rApp h38 T_api_Table 4 80 [(.string ⟨#[]⟩),(.slice none 0 0),(.string ⟨#[]⟩),(.slice none 0 0)] v35 v37) fun v39 h40 l41 =>
 ob (rNil (nt s30 0)) fun v42 =>
 ob (rFld 0 v42) fun v43 =>
 hv (rStore h40 1 v43 v39) fun v44 h45 l46 =>
 dr [0,0,2,6,14,0,32,126,255,511,1023] [mP h31,mP h31,mP h31,mP h31,mR h31 (rdP v34),mR h31 (rdP (nt s30 1)),mA h31 [],mH h38 (rdL [v35,v37]) l41 h40,mP h40,mP h40,mH h40 [] l46 h45] fun l47 =>
 fin h (rsT (.int .i64 0) (some [])) h45 (l47 ++ l32)) fun j29 => fork v28
 (ob (rFld 1 (nt s12 1)) fun v48 =>
 ob (rLd1 h26.get v48) fun v49 =>
 ob (rIdxS 4 v49 v25) fun v50 =>
 ob (rFld 2 v50) fun v51 =>
 hv (rStore h26 1 v51 (.bool true)) fun v52 h53 l54 =>
 j29 [nt s12 0,nt s12 1] h53 (l54 ++ (l27 ++ (l21 ++ (l18 ++ l14)))))
 (j29 [nt s12 0,nt s12 1] h26 (l27 ++ (l21 ++ (l18 ++ l14))))) fun j11 => fork v10
 (fin h (rsT v7 (some [])) h8 (l9 ++ l5))
 (j11 [nt s3 0,nt s3 1] h8 (l9 ++ l5))) fun j2 =>
 ob (binV pgB.ty (tyD (.pointer 0)) .eql x0 (.pointer none)) fun v55 =>
 jn3 (fun s57 h58 l59 =>
 j2 [nt s57 0,nt s57 1] h58 l59) fun j56 => fork v55
 (fin h (rsT (.int .i64 6) (some [])) h1 [])
 (ob (rNil x0) fun v60 =>
 ob (rFld 0 v60) fun v61 =>
 ob (rLd1 h1.get v61) fun v62 =>
 ob (rLenL v62) fun v63 =>
 ob (bI .geq v63 (.int .i64 8)) fun v64 =>
 gP (gd v64 false) (rFld 1 v0) fun v65 =>
 gP (gd v64 false) (rLd1 h1.get v65) fun v66 =>
 gP (gd v64 false) (rLenL v66) fun v67 =>
 gP (gd v64 false) (bI .eql v67 (.int .i64 0)) fun v68 =>
 ob (rPick v64 (.bool true) v68) fun v69 =>
 gP (gd v69 false) (rFld 1 v0) fun v70 =>
 gP (gd v69 false) (rLd1 h1.get v70) fun v71 =>
 gP (gd v69 false) (rLenL v71) fun v72 =>
 gP (gd v69 false) (bI .gtr v72 (.int .i64 6)) fun v73 =>
 ob (rPick v69 (.bool true) v73) fun v74 =>
 gP (gd v74 false) (rFld 3 v0) fun v75 =>
 gP (gd v74 false) (rLd1 h1.get v75) fun v76 =>
 gP (gd v74 false) (rLenL v76) fun v77 =>
 gP (gd v74 false) (bI .gtr v77 (.int .i64 3)) fun v78 =>
 ob (rPick v74 (.bool true) v78) fun v79 =>
 jn3 (fun s81 h82 l83 =>
 j56 [nt s81 0,nt s81 1] h82 l83) fun j80 => fork v79
 (fin h (rsT (.int .i64 5) (some [])) h1 [])
 (ob (rLdA h1.get 4 v0) fun v84 =>
 hv (call (.fn N_k88) [x0,v84] h1) fun v85 h86 l87 =>
 ob (unV .not v85) fun v88 =>
 jn3 (fun s90 h91 l92 =>
 j80 [nt s90 0,nt s90 1] h91 l92) fun j89 => fork v88
 (fin h (rsT (.int .i64 3) (some [])) h86 (l87 ++ []))
 (ob (rFld 1 v0) fun v93 =>
 ob (rLd1 h86.get v93) fun v94 =>
 hv (call (.fn N_k89) [v94,(.func (.func N_k90) #[] #[])] h86) fun v95 h96 l97 =>
 jn3 (fun s99 h100 l101 =>
 j89 [nt s99 0,nt s99 1] h100 l101) fun j98 => fork v95
 (fin h (rsT (.int .i64 4) (some [])) h96 (l97 ++ (l87 ++ [])))
 (j98 [x0,v0] h96 (l97 ++ (l87 ++ []))))))

--
noncomputable def F_k51_L64102 (call:CallF) (lp:LoopF) : List Value → H → Option LOut := fun s57 h58 =>
 ob (bI .lss (nt s57 9) (nt s57 8)) fun v59 =>
 jn3 (fun s61 h62 l63 =>
 jn3 (fun s65 h66 l67 =>
 ob (bI .add (nt s65 9) (.int .i64 1)) fun v68 =>
 some ⟨.normal,[nt s65 0,nt s65 1,nt s65 2,nt s65 3,nt s65 4,nt s65 5,nt s65 6,nt s65 7,nt s65 8,v68],h66,l67⟩) fun j64 =>
 hv (call (.fn N_k94) [nt s61 4,nt s61 9] h62) fun v69 h70 l71 =>
 ob (rExtract 0 v69) fun v72 =>
 ob (rExtract 1 v69) fun v73 =>
 al (aNew h70.n T_api_Value [(.int .i64 0),(.int .i64 0),(.string ⟨#[]⟩)]) h70 fun v74 h75 =>
 hv (rStore h75 3 v74 v72) fun v76 h77 l78 =>
 ob (rNil (nt s61 2)) fun v79 =>
 ob (rFld 4 v79) fun v80 =>
 ob (rLd1 h77.get v80) fun v81 =>
 ob (rIdxS 1 v81 (nt s61 3)) fun v82 =>
 ob (rLd1 h77.get v82) fun v83 =>
 ob (rLdA h77.get 3 v74) fun v84 =>
 hv (call (.fn N_k74) [v83,v84] h77) fun v85 h86 l87 =>
 dr [0,1,3,7,0,31,63,0,255] [mP h77,mP h77,mP h77,mR h77 (rdP v80),mP h77,mP h77,mR h77 (rdP v82),mR h77 (rdP v74),mH h77 (rdL [v83,v84]) l87 h86] fun l88 =>
 j64 [nt s61 0,nt s61 1,nt s61 2,nt s61 3,nt s61 4,nt s61 5,nt s61 6,nt s61 7,nt s61 8,nt s61 9] h86 (l88 ++ (l78 ++ (l71 ++ l63)))) fun j60 => fork v59
 (j60 [nt s57 0,nt s57 1,nt s57 2,nt s57 3,nt s57 4,nt s57 5,nt s57 6,nt s57 7,nt s57 8,nt s57 9] h58 [])
 (some ⟨(.exit 2),[nt s57 0,nt s57 1,nt s57 2,nt s57 3,nt s57 4,nt s57 5,nt s57 6,nt s57 7,nt s57 8,nt s57 9],h58,[]⟩)
noncomputable def F_k51_L250 (call:CallF) (lp:LoopF) : List Value → H → Option LOut := fun s36 h37 =>
 ob (bI .lss (nt s36 5) (nt s36 4)) fun v38 =>
 jn3 (fun s40 h41 l42 =>
 jn3 (fun s44 h45 l46 =>
 ob (bI .add (nt s44 5) (.int .i64 1)) fun v47 =>
 some ⟨.normal,[nt s44 0,nt s44 1,nt s44 2,nt s44 3,nt s44 4,v47],h45,l46⟩) fun j43 =>
 ob (rIdxS 1 (nt s40 3) (nt s40 5)) fun v48 =>
 ob (rLd1 h41.get v48) fun v49 =>
 hv (call (.fn N_k93) [v49] h41) fun v50 h51 l52 =>
 jn3 (fun s54 h55 l56 =>
 j43 [nt s54 0,nt s54 1,nt s54 2,nt s54 3,nt s54 4,nt s54 5] h55 l56) fun j53 =>
 ob (lp (F_k51_L64102 call lp) [nt s40 0,nt s40 1,nt s40 2,nt s40 5,v49,nt s40 3,nt s40 4,nt s40 5,v50,(.int .i64 0)] h51) fun o89 =>
 onEx o89.ex (j53 [(nt o89.vs 0),(nt o89.vs 1),(nt o89.vs 2),(nt o89.vs 5),(nt o89.vs 6),(nt o89.vs 7)] o89.h (o89.lg ++ (l52 ++ l42))) (fun i90 => bif Nat.beq i90 2 then j53 [(nt o89.vs 0),(nt o89.vs 1),(nt o89.vs 2),(nt o89.vs 5),(nt o89.vs 6),(nt o89.vs 7)] o89.h (o89.lg ++ (l52 ++ l42)) else bif Nat.beq i90 1 then j43 [(nt o89.vs 0),(nt o89.vs 1),(nt o89.vs 2),(nt o89.vs 5),(nt o89.vs 6),(nt o89.vs 7)] o89.h (o89.lg ++ (l52 ++ l42)) else some ⟨(.exit i90),[(nt o89.vs 0),(nt o89.vs 1),(nt o89.vs 2),(nt o89.vs 5),(nt o89.vs 6),(nt o89.vs 7)],o89.h,(o89.lg ++ (l52 ++ l42))⟩) (some ⟨.ret,[(nt o89.vs 0),(nt o89.vs 1),(nt o89.vs 2),(nt o89.vs 5),(nt o89.vs 6),(nt o89.vs 7)],o89.h,(o89.lg ++ (l52 ++ l42))⟩)) fun j39 => fork v38
 (j39 [nt s36 0,nt s36 1,nt s36 2,nt s36 3,nt s36 4,nt s36 5] h37 [])
 (some ⟨(.exit 0),[nt s36 0,nt s36 1,nt s36 2,nt s36 3,nt s36 4,nt s36 5],h37,[]⟩)
noncomputable def F_k51 (call:CallF) (lp:LoopF) (x0:Value) (h:H) : Option R3 :=
 ob (binV pgB.ty (tyD (.pointer 0)) .eql x0 (.pointer none)) fun v0 =>
 jn3 (fun s2 h3 l4 =>
 hv (call (.fn N_k52) [nt s2 0] h3) fun v5 h6 l7 =>
 hv (call (.fn N_k78) [v5] h6) fun v8 h9 l10 =>
 ob (rNil (nt s2 0)) fun v11 =>
 ob (rFld 4 v11) fun v12 =>
 ob (rLd1 h9.get v12) fun v13 =>
 ob (rLenL v13) fun v14 =>
 jn3 (fun s16 h17 l18 =>
 ob (rNil (nt s16 0)) fun v19 =>
 ob (rFld 5 v19) fun v20 =>
 ob (rLdA h17.get 1 v20) fun v21 =>
 ob (rNil (nt s16 0)) fun v22 =>
 ob (rFld 6 v22) fun v23 =>
 ob (rLd1 h17.get v23) fun v24 =>
 ob (rNil (nt s16 1)) fun v25 =>
 ob (rFld 5 v25) fun v26 =>
 hv (rStore h17 1 v26 v21) fun v27 h28 l29 =>
 ob (rNil (nt s16 1)) fun v30 =>
 ob (rFld 6 v30) fun v31 =>
 hv (rStore h28 1 v31 v24) fun v32 h33 l34 =>
 dr [0,0,0,4,12,28,0,64,192,448,1021,2045,4093,8191,16383,32767] [mP h17,mP h17,mP h17,mP h17,mP h17,mR h17 (rdP v20),mP h17,mP h17,mP h17,mR h17 (rdP v23),mP h17,mP h17,mH h17 [] l29 h28,mP h28,mP h28,mH h28 [] l34 h33] fun l35 =>
 fin h (rsT (nt s16 1) (some [])) h33 (l35 ++ l18)) fun j15 =>
 ob (lp (F_k51_L250 call lp) [nt s2 0,nt s2 1,v8,v13,v14,(.int .i64 0)] h9) fun o91 =>
 onEx o91.ex (j15 [(nt o91.vs 0),(nt o91.vs 2)] o91.h (o91.lg ++ (l10 ++ (l7 ++ l4)))) (fun i92 => bif Nat.beq i92 0 then j15 [(nt o91.vs 0),(nt o91.vs 2)] o91.h (o91.lg ++ (l10 ++ (l7 ++ l4))) else none) (fin h (rsT (nt o91.vs 1) (some [])) o91.h (o91.lg ++ (l10 ++ (l7 ++ l4))))) fun j1 => fork v0
 (fin h (rsT (.pointer none) (some [])) h [])
 (j1 [x0,(.pointer none)] h [])

--
noncomputable def F_k52_L1018 (call:CallF) (lp:LoopF) : List Value → H → Option LOut := fun s44 h45 =>
 ob (bI .lss (nt s44 3) (nt s44 2)) fun v46 =>
 jn3 (fun s48 h49 l50 =>
 jn3 (fun s52 h53 l54 =>
 ob (bI .add (nt s52 3) (.int .i64 1)) fun v55 =>
 some ⟨.normal,[nt s52 0,nt s52 1,nt s52 2,v55],h53,l54⟩) fun j51 =>
 ob (rFld 3 (nt s48 1)) fun v56 =>
 ob (rLd1 h49.get v56) fun v57 =>
 ob (rFld 3 (nt s48 1)) fun v58 =>
 ob (rLd1 h49.get v58) fun v59 =>
 ob (rIdxS 2 v59 (nt s48 3)) fun v60 =>
 ob (rFld 0 v60) fun v61 =>
 ob (rLd1 h49.get v61) fun v62 =>
 hv (call (.fn N_k97) [v62] h49) fun v63 h64 l65 =>
 ob (rIdxS 2 v57 (nt s48 3)) fun v66 =>
 ob (rFld 0 v66) fun v67 =>
 hv (rStore h64 1 v67 v63) fun v68 h69 l70 =>
 dr [0,1,0,0,8,0,56,120,248,504,1023,2047,4095] [mP h49,mR h49 (rdP v56),mP h49,mP h49,mR h49 (rdP v58),mP h49,mP h49,mP h49,mR h49 (rdP v61),mH h49 (rdL [v62]) l65 h64,mP h64,mP h64,mH h64 [] l70 h69] fun l71 =>
 j51 [nt s48 0,nt s48 1,nt s48 2,nt s48 3] h69 (l71 ++ l50)) fun j47 => fork v46
 (j47 [nt s44 0,nt s44 1,nt s44 2,nt s44 3] h45 [])
 (some ⟨(.exit 0),[nt s44 0,nt s44 1,nt s44 2,nt s44 3],h45,[]⟩)
noncomputable def F_k52 (call:CallF) (lp:LoopF) (x0:Value) (h:H) : Option R3 :=
 al (aNew h.n T_api_Table [(.string ⟨#[]⟩),(.slice none 0 0),(.string ⟨#[]⟩),(.slice none 0 0)]) h fun v0 h1 =>
 ob (binV pgB.ty (tyD (.pointer 0)) .eql x0 (.pointer none)) fun v2 =>
 jn3 (fun s4 h5 l6 =>
 ob (rNil (nt s4 0)) fun v7 =>
 ob (rFld 0 v7) fun v8 =>
 ob (rLdA h5.get 4 v8) fun v9 =>
 al (aNew h5.n T_api_Table [(.string ⟨#[]⟩),(.slice none 0 0),(.string ⟨#[]⟩),(.slice none 0 0)]) h5 fun v10 h11 =>
 hv (rStore h11 4 v10 v9) fun v12 h13 l14 =>
 ob (rFld 1 v10) fun v15 =>
 ob (rLd1 h13.get v15) fun v16 =>
 hv (call (.fn N_k95) [v16] h13) fun v17 h18 l19 =>
 ob (rFld 1 v10) fun v20 =>
 hv (rStore h18 1 v20 v17) fun v21 h22 l23 =>
 ob (rFld 3 v10) fun v24 =>
 ob (rLd1 h22.get v24) fun v25 =>
 hv (call (.fn N_k96) [v25] h22) fun v26 h27 l28 =>
 ob (rFld 3 v10) fun v29 =>
 hv (rStore h27 1 v29 v26) fun v30 h31 l32 =>
 ob (rFld 3 v10) fun v33 =>
 ob (rLd1 h31.get v33) fun v34 =>
 ob (rLenL v34) fun v35 =>
 jn3 (fun s37 h38 l39 =>
 ob (rLdA h38.get 4 (nt s37 1)) fun v40 =>
 hv (rStore h38 4 (nt s37 0) v40) fun v41 h42 l43 =>
 fin h (rsK (rLdA h42.get 4 (nt s37 0)) (some [])) h42 (l43 ++ l39)) fun j36 =>
 ob (lp (F_k52_L1018 call lp) [nt s4 1,v10,v35,(.int .i64 0)] h31) fun o72 =>
 onEx o72.ex (j36 [(nt o72.vs 0),(nt o72.vs 1)] o72.h (o72.lg ++ (l32 ++ (l28 ++ (l23 ++ (l19 ++ (l14 ++ l6))))))) (fun i73 => bif Nat.beq i73 0 then j36 [(nt o72.vs 0),(nt o72.vs 1)] o72.h (o72.lg ++ (l32 ++ (l28 ++ (l23 ++ (l19 ++ (l14 ++ l6)))))) else none) (fin h (rsK (rLdA o72.h.get 4 (nt o72.vs 0)) (some [])) o72.h (o72.lg ++ (l32 ++ (l28 ++ (l23 ++ (l19 ++ (l14 ++ l6)))))))) fun j3 => fork v2
 (ob (oBuild pgB T_api_Table []) fun v74 =>
 hv (rStore h1 4 v0 v74) fun v75 h76 l77 =>
 fin h (rsK (rLdA h76.get 4 v0) (some [])) h76 (l77 ++ []))
 (j3 [x0,v0] h1 [])

--
noncomputable def F_k53 (call:CallF) (lp:LoopF) (x0:Value) (h:H) : Option R3 :=
 al (aNew h.n T_bitmap_Map [(.slice none 0 0)]) h fun v0 h1 =>
 ob (binV pgB.ty (tyD (.pointer 0)) .eql x0 (.pointer none)) fun v2 =>
 jn3 (fun s4 h5 l6 =>
 ob (rNil (nt s4 0)) fun v7 =>
 ob (rFld 5 v7) fun v8 =>
 ob (rLdA h5.get 1 v8) fun v9 =>
 hv (rStore h5 1 (nt s4 1) v9) fun v10 h11 l12 =>
 fin h (rsK (rLdA h11.get 1 (nt s4 1)) (some [])) h11 (l12 ++ l6)) fun j3 => fork v2
 (ob (oBuild pgB T_bitmap_Map []) fun v13 =>
 hv (rStore h1 1 v0 v13) fun v14 h15 l16 =>
 fin h (rsK (rLdA h15.get 1 v0) (some [])) h15 (l16 ++ []))
 (j3 [x0,v0] h1 [])

--
noncomputable def F_k54 (call:CallF) (lp:LoopF) (x0:Value) (h:H) : Option R3 :=
 al (aBx h.n T_bitmap_Map 1 x0) h fun v0 h1 =>
 ob (oFunc N_k98 #[] #[v0]) fun v2 =>
 fin h (rsT v2 (some [])) h1 []

--
noncomputable def F_k55 (call:CallF) (lp:LoopF) (x0:Value) (x1:Value) (x2:Value) (h:H) : Option R3 :=
 al (aNew h.n T_api_Value [(.int .i64 0),(.int .i64 0),(.string ⟨#[]⟩)]) h fun v0 h1 =>
 hv (call (.fn N_k84) [x0,x2] h1) fun v2 h3 l4 =>
 ob (bI .lss v2 (.int .i64 0)) fun v5 =>
 gP (gd v5 false) (some x0) fun v6 =>
 gP (gd v5 false) (rNil v6) fun v7 =>
 gP (gd v5 false) (rFld 5 v7) fun v8 =>
 gP (gd v5 false) (rLdA h3.get 1 v8) fun v9 =>
 gP (gd v5 false) (some x1) fun v10 =>
 hv (gV (gd v5 false) (call (.fn N_k59) [v9,v10] h3) h3) fun v11 h12 l13 =>
 gP (gd v5 false) (unV .not v11) fun v14 =>
 ob (rPick v5 (.bool true) v14) fun v15 =>
 jn3 (fun s17 h18 l19 =>
 ob (rNil (nt s17 0)) fun v20 =>
 ob (rFld 4 v20) fun v21 =>
 ob (rLd1 h18.get v21) fun v22 =>
 ob (rIdxS 1 v22 (nt s17 3)) fun v23 =>
 ob (rLd1 h18.get v23) fun v24 =>
 hv (call (.fn N_k94) [v24,nt s17 1] h18) fun v25 h26 l27 =>
 ob (rExtract 0 v25) fun v28 =>
 ob (rExtract 1 v25) fun v29 =>
 hv (rStore h26 3 (nt s17 2) v28) fun v30 h31 l32 =>
 fin h (rsK (rLdA h31.get 3 (nt s17 2)) (rsT v29 (some []))) h31 (l32 ++ (l27 ++ l19))) fun j16 => fork v15
 (ob (oBuild pgB T_api_Value []) fun v33 =>
 hv (rStore h12 3 v0 v33) fun v34 h35 l36 =>
 fin h (rsK (rLdA h35.get 3 v0) (rsT (.bool false) (some []))) h35 (l36 ++ (l13 ++ (l4 ++ []))))
 (j16 [x0,x1,v0,v2] h12 (l13 ++ (l4 ++ [])))

--
noncomputable def F_k56 (call:CallF) (lp:LoopF) (x0:Value) (x1:Value) (h:H) : Option R3 :=
 al (aBx h.n T_api_Value 3 x0) h fun v0 h1 =>
 al (aBx h1.n T_api_Value 3 x1) h1 fun v2 h3 =>
 ob (rLdA h3.get 3 v0) fun v4 =>
 ob (rLdA h3.get 3 v2) fun v5 =>
 hv (call (.fn N_k99) [v4,v5] h3) fun v6 h7 l8 =>
 ob (bI .eql v6 (.int .i64 0)) fun v9 =>
 fin h (rsT v9 (some [])) h7 (l8 ++ [])

--
noncomputable def F_k57_L58 (call:CallF) (lp:LoopF) : List Value → H → Option LOut := fun s6 h7 =>
 ob (rFld 1 (nt s6 1)) fun v8 =>
 ob (rLd1 h7.get v8) fun v9 =>
 ob (rLenL v9) fun v10 =>
 ob (bI .lss (nt s6 3) v10) fun v11 =>
 jn3 (fun s13 h14 l15 =>
 jn3 (fun s17 h18 l19 =>
 ob (bI .add (nt s17 3) (.int .i64 1)) fun v20 =>
 some ⟨.normal,[nt s17 0,nt s17 1,nt s17 2,v20],h18,l19⟩) fun j16 =>
 ob (rFld 1 (nt s13 1)) fun v21 =>
 ob (rLd1 h14.get v21) fun v22 =>
 ob (rIdxS 4 v22 (nt s13 3)) fun v23 =>
 ob (rFld 0 v23) fun v24 =>
 ob (rLd1 h14.get v24) fun v25 =>
 ob (binV pgB.ty (tyD .string) .eql v25 (nt s13 0)) fun v26 =>
 jn3 (fun s28 h29 l30 =>
 j16 [nt s28 0,nt s28 1,nt s28 2,nt s28 3] h29 l30) fun j27 => fork v26
 (some ⟨.ret,[nt s13 0,nt s13 1,nt s13 3,nt s13 3],h14,l15⟩)
 (j27 [nt s13 0,nt s13 1,nt s13 2,nt s13 3] h14 l15)) fun j12 => fork v11
 (j12 [nt s6 0,nt s6 1,nt s6 2,nt s6 3] h7 [])
 (some ⟨(.exit 0),[nt s6 0,nt s6 1,nt s6 2,nt s6 3],h7,[]⟩)
noncomputable def F_k57 (call:CallF) (lp:LoopF) (x0:Value) (x1:Value) (h:H) : Option R3 :=
 al (aBx h.n T_api_Table 4 x0) h fun v0 h1 =>
 jn3 (fun s3 h4 l5 =>
 fin h (rsT (.int .i64 (-1)) (some [])) h4 l5) fun j2 =>
 ob (lp (F_k57_L58 call lp) [x1,v0,(.int .i64 0),(.int .i64 0)] h1) fun o31 =>
 onEx o31.ex (j2 [] o31.h (o31.lg ++ [])) (fun i32 => bif Nat.beq i32 0 then j2 [] o31.h (o31.lg ++ []) else none) (fin h (rsT (nt o31.vs 2) (some [])) o31.h (o31.lg ++ []))

--
noncomputable def F_k58_L122 (call:CallF) (lp:LoopF) : List Value → H → Option LOut := fun s21 h22 =>
 ob (bI .lss (nt s21 8) (nt s21 7)) fun v23 =>
 jn3 (fun s25 h26 l27 =>
 jn3 (fun s29 h30 l31 =>
 ob (bI .add (nt s29 8) (.int .i64 1)) fun v32 =>
 some ⟨.normal,[nt s29 0,nt s29 1,nt s29 2,nt s29 3,nt s29 4,nt s29 5,nt s29 6,nt s29 7,v32],h30,l31⟩) fun j28 =>
 ob (rIdxS 1 (nt s25 6) (nt s25 8)) fun v33 =>
 ob (rLd1 h26.get v33) fun v34 =>
 hv (call (.fn N_k60) [nt s25 0,nt s25 1,v34] h26) fun v35 h36 l37 =>
 ob (rExtract 0 v35) fun v38 =>
 ob (rExtract 1 v35) fun v39 =>
 al (aNew h36.n T_api_Col [(.string ⟨#[]⟩),(.int .i64 0),(.bool false),(.string ⟨#[]⟩)]) h36 fun v40 h41 =>
 hv (rStore h41 4 v40 v38) fun v42 h43 l44 =>
 jn3 (fun s46 h47 l48 =>
 ob (rFld 3 (nt s46 5)) fun v49 =>
 ob (rLd1 h47.get v49) fun v50 =>
 j28 [nt s46 0,v50,nt s46 1,nt s46 2,nt s46 3,nt s46 4,nt s46 6,nt s46 7,nt s46 8] h47 l48) fun j45 =>
 ob (unV .not v39) fun v51 =>
 jn3 (fun s53 h54 l55 =>
 j45 [nt s53 0,nt s53 1,nt s53 2,nt s53 3,nt s53 4,nt s53 5,nt s53 6,nt s53 7,nt s53 8] h54 l55) fun j52 => fork v51
 (ob (oBuild pgB T_api_Col []) fun v56 =>
 hv (rStore h43 4 (nt s25 3) v56) fun v57 h58 l59 =>
 some ⟨.ret,[nt s25 0,nt s25 1,nt s25 2,nt s25 3,(.string ⟨#[]⟩),(.int .i64 3),nt s25 6,nt s25 7,nt s25 8],h58,(l59 ++ (l44 ++ (l37 ++ l27)))⟩)
 (ob (rLenL (nt s25 2)) fun v60 =>
 ob (bI .sub v60 (.int .i64 1)) fun v61 =>
 ob (bI .eql (nt s25 8) v61) fun v62 =>
 jn3 (fun s64 h65 l66 =>
 j52 [nt s64 0,nt s64 1,nt s64 2,nt s64 3,nt s64 4,nt s64 5,nt s64 6,nt s64 7,nt s64 8] h65 l66) fun j63 => fork v62
 (ob (rLdA h43.get 4 v40) fun v67 =>
 hv (rStore h43 4 (nt s25 3) v67) fun v68 h69 l70 =>
 some ⟨.ret,[nt s25 0,nt s25 1,nt s25 2,nt s25 3,nt s25 1,(.int .i64 0),nt s25 6,nt s25 7,nt s25 8],h69,(l70 ++ (l44 ++ (l37 ++ l27)))⟩)
 (ob (rFld 3 v40) fun v71 =>
 ob (rLd1 h43.get v71) fun v72 =>
 ob (binV pgB.ty (tyD .string) .eql v72 (.string ⟨#[]⟩)) fun v73 =>
 jn3 (fun s75 h76 l77 =>
 j63 [nt s75 0,nt s75 1,nt s75 2,nt s75 3,nt s75 4,nt s75 5,nt s75 6,nt s75 7,nt s75 8] h76 l77) fun j74 => fork v73
 (ob (oBuild pgB T_api_Col []) fun v78 =>
 hv (rStore h43 4 (nt s25 3) v78) fun v79 h80 l81 =>
 some ⟨.ret,[nt s25 0,nt s25 1,nt s25 2,nt s25 3,(.string ⟨#[]⟩),(.int .i64 9),nt s25 6,nt s25 7,nt s25 8],h80,(l81 ++ (l44 ++ (l37 ++ l27)))⟩)
 (j74 [nt s25 0,nt s25 2,nt s25 3,nt s25 4,nt s25 5,v40,nt s25 6,nt s25 7,nt s25 8] h43 (l44 ++ (l37 ++ l27)))))) fun j24 => fork v23
 (j24 [nt s21 0,nt s21 1,nt s21 2,nt s21 3,nt s21 4,nt s21 5,nt s21 6,nt s21 7,nt s21 8] h22 [])
 (some ⟨(.exit 0),[nt s21 0,nt s21 1,nt s21 2,nt s21 3,nt s21 4,nt s21 5,nt s21 6,nt s21 7,nt s21 8],h22,[]⟩)
noncomputable def F_k58 (call:CallF) (lp:LoopF) (x0:Value) (x1:Value) (x2:Value) (h:H) : Option R3 :=
 al (aNew h.n T_api_Col [(.string ⟨#[]⟩),(.int .i64 0),(.bool false),(.string ⟨#[]⟩)]) h fun v0 h1 =>
 ob (rLenL x2) fun v2 =>
 ob (bI .eql v2 (.int .i64 0)) fun v3 =>
 gP (gd v3 false) (some x2) fun v4 =>
 gP (gd v3 false) (rLenL v4) fun v5 =>
 gP (gd v3 false) (bI .gtr v5 (.int .i64 4)) fun v6 =>
 ob (rPick v3 (.bool true) v6) fun v7 =>
 jn3 (fun s9 h10 l11 =>
 ob (rLenL (nt s9 2)) fun v12 =>
 jn3 (fun s14 h15 l16 =>
 ob (oBuild pgB T_api_Col []) fun v17 =>
 hv (rStore h15 4 (nt s14 0) v17) fun v18 h19 l20 =>
 fin h (rsK (rLdA h19.get 4 (nt s14 0)) (rsT (.string ⟨#[]⟩) (rsT (.int .i64 3) (some [])))) h19 (l20 ++ l16)) fun j13 =>
 ob (lp (F_k58_L122 call lp) [nt s9 0,nt s9 1,nt s9 2,nt s9 3,nt s9 4,nt s9 5,nt s9 2,v12,(.int .i64 0)] h10) fun o82 =>
 onEx o82.ex (j13 [(nt o82.vs 3)] o82.h (o82.lg ++ l11)) (fun i83 => bif Nat.beq i83 0 then j13 [(nt o82.vs 3)] o82.h (o82.lg ++ l11) else none) (fin h (rsK (rLdA o82.h.get 4 (nt o82.vs 3)) (rsT (nt o82.vs 4) (rsT (nt o82.vs 5) (some [])))) o82.h (o82.lg ++ l11))) fun j8 => fork v7
 (ob (oBuild pgB T_api_Col []) fun v84 =>
 hv (rStore h1 4 v0 v84) fun v85 h86 l87 =>
 fin h (rsK (rLdA h86.get 4 v0) (rsT (.string ⟨#[]⟩) (rsT (.int .i64 5) (some [])))) h86 (l87 ++ []))
 (j8 [x0,x1,x2,v0,(.string ⟨#[]⟩),(.int .i64 0)] h1 [])

--
noncomputable def F_k59 (call:CallF) (lp:LoopF) (x0:Value) (x1:Value) (h:H) : Option R3 :=
 al (aBx h.n T_bitmap_Map 1 x0) h fun v0 h1 =>
 al (aBx h1.n T_i64_b 1 x1) h1 fun v2 h3 =>
 ob (rFld 0 v0) fun v4 =>
 ob (rLd1 h3.get v4) fun v5 =>
 ob (oFunc N_k101 #[] #[v2]) fun v6 =>
 hv (call (.fn N_k100) [v5,v6] h3) fun v7 h8 l9 =>
 fin h (rsT v7 (some [])) h8 (l9 ++ [])

--
noncomputable def F_k60 (call:CallF) (lp:LoopF) (x0:Value) (x1:Value) (x2:Value) (h:H) : Option R3 :=
 al (aNew h.n T_api_Col [(.string ⟨#[]⟩),(.int .i64 0),(.bool false),(.string ⟨#[]⟩)]) h fun v0 h1 =>
 hv (call (.fn N_k49) [x0,x1] h1) fun v2 h3 l4 =>
 ob (rExtract 0 v2) fun v5 =>
 ob (rExtract 1 v2) fun v6 =>
 al (aNew h3.n T_api_Table [(.string ⟨#[]⟩),(.slice none 0 0),(.string ⟨#[]⟩),(.slice none 0 0)]) h3 fun v7 h8 =>
 hv (rStore h8 4 v7 v5) fun v9 h10 l11 =>
 ob (rLdA h10.get 4 v7) fun v12 =>
 hv (call (.fn N_k92) [v12,x2] h10) fun v13 h14 l15 =>
 ob (bI .lss v13 (.int .i64 0)) fun v16 =>
 jn3 (fun s18 h19 l20 =>
 ob (rFld 1 (nt s18 1)) fun v21 =>
 ob (rLd1 h19.get v21) fun v22 =>
 ob (rIdxS 4 v22 (nt s18 2)) fun v23 =>
 ob (rLdA h19.get 4 v23) fun v24 =>
 hv (rStore h19 4 (nt s18 0) v24) fun v25 h26 l27 =>
 fin h (rsK (rLdA h26.get 4 (nt s18 0)) (rsT (.bool true) (some []))) h26 (l27 ++ l20)) fun j17 => fork v16
 (ob (oBuild pgB T_api_Col []) fun v28 =>
 hv (rStore h14 4 v0 v28) fun v29 h30 l31 =>
 fin h (rsK (rLdA h30.get 4 v0) (rsT (.bool false) (some []))) h30 (l31 ++ (l15 ++ (l11 ++ (l4 ++ [])))))
 (j17 [v0,v7,v13] h14 (l15 ++ (l11 ++ (l4 ++ []))))

--
noncomputable def F_k65 (call:CallF) (lp:LoopF) (x0:Value) (h:H) : Option R3 :=
 al (aBx h.n T_bitmap_Map 1 x0) h fun v0 h1 =>
 ob (rLdA h1.get 1 v0) fun v2 =>
 hv (call (.fn N_k104) [v2,(.int .i64 65536)] h1) fun v3 h4 l5 =>
 fin h (rsT v3 (some [])) h4 (l5 ++ [])

--
noncomputable def F_k66 (call:CallF) (lp:LoopF) (x0:Value) (h:H) : Option R3 :=
 ob (binV pgB.ty (tyD (.pointer 0)) .eql x0 (.pointer none)) fun v0 =>
 jn3 (fun s2 h3 l4 =>
 ob (rNil (nt s2 0)) fun v5 =>
 ob (rFld 6 v5) fun v6 =>
 ob (rLd1 h3.get v6) fun v7 =>
 fin h (rsT v7 (some [])) h3 l4) fun j1 => fork v0
 (fin h (rsT (.int .i64 0) (some [])) h [])
 (j1 [x0] h [])

--
noncomputable def F_k67_L250 (call:CallF) (lp:LoopF) : List Value → H → Option LOut := fun s23 h24 =>
 ob (bI .lss (nt s23 6) (nt s23 5)) fun v25 =>
 jn3 (fun s27 h28 l29 =>
 jn3 (fun s31 h32 l33 =>
 ob (bI .add (nt s31 6) (.int .i64 1)) fun v34 =>
 some ⟨.normal,[nt s31 0,nt s31 1,nt s31 2,nt s31 3,nt s31 4,nt s31 5,v34],h32,l33⟩) fun j30 =>
 ob (rIdxS 1 (nt s27 4) (nt s27 6)) fun v35 =>
 ob (rLd1 h28.get v35) fun v36 =>
 hv (call (.fn N_k94) [v36,nt s27 0] h28) fun v37 h38 l39 =>
 ob (rExtract 0 v37) fun v40 =>
 ob (rExtract 1 v37) fun v41 =>
 al (aNew h38.n T_api_Value [(.int .i64 0),(.int .i64 0),(.string ⟨#[]⟩)]) h38 fun v42 h43 =>
 hv (rStore h43 3 v42 v40) fun v44 h45 l46 =>
 ob (rLdA h45.get 3 v42) fun v47 =>
 al (aBuildS pgB h45.n T_Lapi_Value 1 [(0,v47)]) h45 fun v48 h49 =>
 hv (rApp h49 T_api_Value 3 32 [(.int .i64 0),(.int .i64 0),(.string ⟨#[]⟩)] (nt s27 3) v48) fun v50 h51 l52 =>
 j30 [nt s27 0,nt s27 1,nt s27 2,v50,nt s27 4,nt s27 5,nt s27 6] h51 (l52 ++ (l46 ++ (l39 ++ l29)))) fun j26 => fork v25
 (j26 [nt s23 0,nt s23 1,nt s23 2,nt s23 3,nt s23 4,nt s23 5,nt s23 6] h24 [])
 (some ⟨(.exit 0),[nt s23 0,nt s23 1,nt s23 2,nt s23 3,nt s23 4,nt s23 5,nt s23 6],h24,[]⟩)
noncomputable def F_k67 (call:CallF) (lp:LoopF) (x0:Value) (x1:Value) (h:H) : Option R3 :=
 ob (binV pgB.ty (tyD (.pointer 0)) .eql x0 (.pointer none)) fun v0 =>
 gP (gd v0 false) (some x0) fun v1 =>
 gP (gd v0 false) (rNil v1) fun v2 =>
 gP (gd v0 false) (rFld 5 v2) fun v3 =>
 gP (gd v0 false) (rLdA h.get 1 v3) fun v4 =>
 gP (gd v0 false) (some x1) fun v5 =>
 hv (gV (gd v0 false) (call (.fn N_k59) [v4,v5] h) h) fun v6 h7 l8 =>
 gP (gd v0 false) (unV .not v6) fun v9 =>
 ob (rPick v0 (.bool true) v9) fun v10 =>
 jn3 (fun s12 h13 l14 =>
 ob (rNil (nt s12 0)) fun v15 =>
 ob (rFld 4 v15) fun v16 =>
 ob (rLd1 h13.get v16) fun v17 =>
 ob (rLenL v17) fun v18 =>
 jn3 (fun s20 h21 l22 =>
 fin h (rsT (nt s20 0) (rsT (.bool true) (some []))) h21 l22) fun j19 =>
 ob (lp (F_k67_L250 call lp) [nt s12 1,nt s12 2,nt s12 3,(.slice none 0 0),v17,v18,(.int .i64 0)] h13) fun o53 =>
 onEx o53.ex (j19 [(nt o53.vs 3)] o53.h (o53.lg ++ l14)) (fun i54 => bif Nat.beq i54 0 then j19 [(nt o53.vs 3)] o53.h (o53.lg ++ l14) else none) (fin h (rsT (nt o53.vs 1) (rsT (nt o53.vs 2) (some []))) o53.h (o53.lg ++ l14))) fun j11 => fork v10
 (fin h (rsT (.slice none 0 0) (rsT (.bool false) (some []))) h7 (l8 ++ []))
 (j11 [x0,x1,(.slice none 0 0),(.bool false)] h7 (l8 ++ []))

--
noncomputable def F_k68_L58 (call:CallF) (lp:LoopF) : List Value → H → Option LOut := fun s22 h23 =>
 ob (rLenL (nt s22 0)) fun v24 =>
 ob (bI .lss (nt s22 3) v24) fun v25 =>
 gP (gd v25 true) (some (nt s22 3)) fun v26 =>
 gP (gd v25 true) (some (nt s22 1)) fun v27 =>
 gP (gd v25 true) (rLenL v27) fun v28 =>
 gP (gd v25 true) (bI .lss v26 v28) fun v29 =>
 ob (rPick v25 v29 (.bool false)) fun v30 =>
 jn3 (fun s32 h33 l34 =>
 jn3 (fun s36 h37 l38 =>
 ob (bI .add (nt s36 3) (.int .i64 1)) fun v39 =>
 some ⟨.normal,[nt s36 0,nt s36 1,nt s36 2,v39,nt s36 4,nt s36 5,nt s36 6,nt s36 7],h37,l38⟩) fun j35 =>
 ob (rIdxS 3 (nt s32 0) (nt s32 3)) fun v40 =>
 ob (rLdA h33.get 3 v40) fun v41 =>
 ob (rIdxS 3 (nt s32 1) (nt s32 3)) fun v42 =>
 ob (rLdA h33.get 3 v42) fun v43 =>
 hv (call (.fn N_k105) [v41,v43] h33) fun v44 h45 l46 =>
 dr [0,0,3,7,0,0,48,112,255,511] [mP h33,mP h33,mP h33,mR h33 (rdP v40),mP h33,mP h33,mP h33,mR h33 (rdP v42),mH h33 (rdL [v41,v43]) l46 h45,mP h45] fun l47 =>
 ob (bI .neq v44 (.int .i64 0)) fun v48 =>
 jn3 (fun s50 h51 l52 =>
 j35 [nt s50 0,nt s50 1,nt s50 2,nt s50 3,nt s50 4,nt s50 5,nt s50 6,nt s50 7] h51 l52) fun j49 => fork v48
 (some ⟨.ret,[nt s32 0,nt s32 1,v44,nt s32 3,nt s32 4,nt s32 5,nt s32 6,nt s32 7],h45,(l47 ++ l34)⟩)
 (j49 [nt s32 0,nt s32 1,nt s32 2,nt s32 3,nt s32 4,nt s32 5,nt s32 6,nt s32 7] h45 (l47 ++ l34))) fun j31 => fork v30
 (j31 [nt s22 0,nt s22 1,nt s22 2,nt s22 3,v26,v27,v28,v29] h23 [])
 (some ⟨(.exit 0),[nt s22 0,nt s22 1,nt s22 2,nt s22 3,v26,v27,v28,v29],h23,[]⟩)
noncomputable def F_k68 (call:CallF) (lp:LoopF) (x0:Value) (x1:Value) (h:H) : Option R3 :=
 jn3 (fun s1 h2 l3 =>
 jn3 (fun s5 h6 l7 =>
 fin h (rsT (.int .i64 0) (some [])) h6 l7) fun j4 =>
 ob (rLenL (nt s1 0)) fun v8 =>
 ob (rLenL (nt s1 1)) fun v9 =>
 ob (bI .lss v8 v9) fun v10 =>
 jn3 (fun s12 h13 l14 =>
 j4 [] h13 l14) fun j11 => fork v10
 (fin h (rsT (.int .i64 (-1)) (some [])) h2 l3)
 (ob (rLenL (nt s1 0)) fun v15 =>
 ob (rLenL (nt s1 1)) fun v16 =>
 ob (bI .gtr v15 v16) fun v17 =>
 jn3 (fun s19 h20 l21 =>
 j11 [] h20 l21) fun j18 => fork v17
 (fin h (rsT (.int .i64 1) (some [])) h2 l3)
 (j18 [] h2 l3))) fun j0 =>
 ob (lp (F_k68_L58 call lp) [x0,x1,(.int .i64 0),(.int .i64 0),poison,poison,poison,poison] h) fun o53 =>
 onEx o53.ex (j0 [(nt o53.vs 0),(nt o53.vs 1)] o53.h (o53.lg ++ [])) (fun i54 => bif Nat.beq i54 0 then j0 [(nt o53.vs 0),(nt o53.vs 1)] o53.h (o53.lg ++ []) else none) (fin h (rsT (nt o53.vs 2) (some [])) o53.h (o53.lg ++ []))

--
noncomputable def F_k69 (call:CallF) (lp:LoopF) (h:H) : Option R3 :=
 hv (call (.fn N_k9) [] h) fun v0 h1 l2 =>
 fin h (rsT v0 (some [])) h1 (l2 ++ [])

--
noncomputable def F_k70 (call:CallF) (lp:LoopF) (x0:Value) (x1:Value) (h:H) : Option R3 :=
 al (aBx h.n T_api_Op 5 x1) h fun v0 h1 =>
 ob (rFld 1 v0) fun v2 =>
 ob (rLd1 h1.get v2) fun v3 =>
 hv (call (.fn N_k33) [x0,v3] h1) fun v4 h5 l6 =>
 jn3 (fun s8 h9 l10 =>
 fin h (rsT (.int .i64 (-1)) (rsT (.int .i64 0) (some []))) h9 l10) fun j7 =>
 ob (rFld 0 v0) fun v11 =>
 ob (rLd1 h5.get v11) fun v12 =>
 ob (bI .neq v12 (.int .i64 1)) fun v13 =>
 gP (gd v13 true) (rFld 0 v0) fun v14 =>
 gP (gd v13 true) (rLd1 h5.get v14) fun v15 =>
 gP (gd v13 true) (bI .neq v15 (.int .i64 2)) fun v16 =>
 ob (rPick v13 v16 (.bool false)) fun v17 =>
 gP (gd v17 true) (rFld 0 v0) fun v18 =>
 gP (gd v17 true) (rLd1 h5.get v18) fun v19 =>
 gP (gd v17 true) (bI .neq v19 (.int .i64 3)) fun v20 =>
 ob (rPick v17 v20 (.bool false)) fun v21 =>
 jn3 (fun s23 h24 l25 =>
 jn3 (fun s27 h28 l29 =>
 j7 [] h28 l29) fun j26 => fork (nt s23 2)
 (fin h (rsT (.int .i64 (-1)) (rsT (.int .i64 1) (some []))) h24 l25)
 (ob (binV pgB.ty (tyD (.pointer 0)) .eql (nt s23 1) (.pointer none)) fun v30 =>
 jn3 (fun s32 h33 l34 =>
 j26 [] h33 l34) fun j31 => fork v30
 (fin h (rsT (.int .i64 (-1)) (rsT (.int .i64 3) (some []))) h24 l25)
 (ob (rFld 0 (nt s23 0)) fun v35 =>
 ob (rLd1 h24.get v35) fun v36 =>
 ob (bI .eql v36 (.int .i64 1)) fun v37 =>
 jn3 (fun s39 h40 l41 =>
 j31 [] h40 l41) fun j38 => fork v37
 (ob (rFld 4 (nt s23 0)) fun v42 =>
 ob (rLd1 h24.get v42) fun v43 =>
 hv (call (.fn N_k35) [nt s23 1,v43] h24) fun v44 h45 l46 =>
 ob (rExtract 0 v44) fun v47 =>
 ob (rExtract 1 v44) fun v48 =>
 fin h (rsT v47 (rsT v48 (some []))) h45 (l46 ++ l25))
 (ob (rFld 0 (nt s23 0)) fun v49 =>
 ob (rLd1 h24.get v49) fun v50 =>
 ob (bI .eql v50 (.int .i64 3)) fun v51 =>
 jn3 (fun s53 h54 l55 =>
 j38 [] h54 l55) fun j52 => fork v51
 (ob (rFld 2 (nt s23 0)) fun v56 =>
 ob (rLd1 h24.get v56) fun v57 =>
 ob (rFld 3 (nt s23 0)) fun v58 =>
 ob (rLd1 h24.get v58) fun v59 =>
 ob (rFld 4 (nt s23 0)) fun v60 =>
 ob (rLd1 h24.get v60) fun v61 =>
 ob (rIdxS 3 v61 (.int .i64 0)) fun v62 =>
 ob (rLdA h24.get 3 v62) fun v63 =>
 hv (call (.fn N_k45) [nt s23 1,v57,v59,v63] h24) fun v64 h65 l66 =>
 dr [0,0,2,0,8,0,32,96,224,511,1023,2047] [mP h24,mP h24,mR h24 (rdP v56),mP h24,mR h24 (rdP v58),mP h24,mR h24 (rdP v60),mP h24,mR h24 (rdP v62),mH h24 (rdL [nt s23 1,v57,v59,v63]) l66 h65,mP h65,mP h65] fun l67 =>
 fin h (rsT (.int .i64 (-1)) (rsT v64 (some []))) h65 (l67 ++ l25))
 (ob (rFld 2 (nt s23 0)) fun v68 =>
 ob (rLd1 h24.get v68) fun v69 =>
 hv (call (.fn N_k43) [nt s23 1,v69] h24) fun v70 h71 l72 =>
 ob (unV .not v70) fun v73 =>
 jn3 (fun s75 h76 l77 =>
 j52 [] h76 l77) fun j74 => fork v73
 (fin h (rsT (.int .i64 (-1)) (rsT (.int .i64 6) (some []))) h71 (l72 ++ l25))
 (j74 [] h71 (l72 ++ l25))))))) fun j22 => fork v21
 (j22 [v0,v4,v21] h5 (l6 ++ []))
 (ob (rFld 0 v0) fun v78 =>
 ob (rLd1 h5.get v78) fun v79 =>
 ob (bI .eql v79 (.int .i64 3)) fun v80 =>
 gP (gd v80 true) (rFld 4 v0) fun v81 =>
 gP (gd v80 true) (rLd1 h5.get v81) fun v82 =>
 gP (gd v80 true) (rLenL v82) fun v83 =>
 gP (gd v80 true) (bI .neq v83 (.int .i64 1)) fun v84 =>
 ob (rPick v80 v84 (.bool false)) fun v85 =>
 j22 [v0,v4,v85] h5 (l6 ++ []))

--
noncomputable def F_k71 (call:CallF) (lp:LoopF) (x0:Value) (x1:Value) (h:H) : Option R3 :=
 al (aBx h.n T_api_Op 5 x1) h fun v0 h1 =>
 ob (rFld 0 v0) fun v2 =>
 ob (rLd1 h1.get v2) fun v3 =>
 ob (bI .lss v3 (.int .i64 1)) fun v4 =>
 gP (gd v4 false) (rFld 0 v0) fun v5 =>
 gP (gd v4 false) (rLd1 h1.get v5) fun v6 =>
 gP (gd v4 false) (bI .gtr v6 (.int .i64 3)) fun v7 =>
 ob (rPick v4 (.bool true) v7) fun v8 =>
 gP (gd v8 false) (rFld 0 v0) fun v9 =>
 gP (gd v8 false) (rLd1 h1.get v9) fun v10 =>
 gP (gd v8 false) (bI .eql v10 (.int .i64 3)) fun v11 =>
 gP (gd v8 false) (some v11) fun v12 =>
 gP (gd v12 true) (rFld 4 v0) fun v13 =>
 gP (gd v12 true) (rLd1 h1.get v13) fun v14 =>
 gP (gd v12 true) (rLenL v14) fun v15 =>
 gP (gd v12 true) (bI .neq v15 (.int .i64 1)) fun v16 =>
 gP (gd v8 false) (rPick v12 v16 (.bool false)) fun v17 =>
 ob (rPick v8 (.bool true) v17) fun v18 =>
 jn3 (fun s20 h21 l22 =>
 ob (rNil (nt s20 0)) fun v23 =>
 ob (rFld 0 v23) fun v24 =>
 ob (rLd1 h21.get v24) fun v25 =>
 ob (rFld 1 (nt s20 1)) fun v26 =>
 ob (rLd1 h21.get v26) fun v27 =>
 hv (call (.fn N_k41) [v25,v27] h21) fun v28 h29 l30 =>
 dr [0,1,3,7,0,16,63,127] [mP h21,mP h21,mP h21,mR h21 (rdP v24),mP h21,mR h21 (rdP v26),mH h21 (rdL [v25,v27]) l30 h29,mP h29] fun l31 =>
 ob (bI .lss v28 (.int .i64 0)) fun v32 =>
 jn3 (fun s34 h35 l36 =>
 ob (rFld 0 (nt s34 1)) fun v37 =>
 ob (rLd1 h35.get v37) fun v38 =>
 jn3 (fun s40 h41 l42 =>
 ob (rFld 2 (nt s40 1)) fun v43 =>
 ob (rLd1 h41.get v43) fun v44 =>
 ob (rFld 3 (nt s40 1)) fun v45 =>
 ob (rLd1 h41.get v45) fun v46 =>
 ob (rFld 4 (nt s40 1)) fun v47 =>
 ob (rLd1 h41.get v47) fun v48 =>
 ob (rIdxS 3 v48 (.int .i64 0)) fun v49 =>
 ob (rLdA h41.get 3 v49) fun v50 =>
 hv (call (.fn N_k46) [nt s40 0,nt s40 2,v44,v46,v50] h41) fun v51 h52 l53 =>
 dr [0,0,0,4,0,16,0,64,192,448,1023,2047,4095] [mP h41,mP h41,mP h41,mR h41 (rdP v43),mP h41,mR h41 (rdP v45),mP h41,mR h41 (rdP v47),mP h41,mR h41 (rdP v49),mH h41 (rdL [nt s40 0,nt s40 2,v44,v46,v50]) l53 h52,mP h52,mP h52] fun l54 =>
 fin h (rsT (.int .i64 0) (rsT v51 (some []))) h52 (l54 ++ l42)) fun j39 =>
 ob (bI .eql v38 (.int .i64 1)) fun v55 =>
 jn3 (fun s57 h58 l59 =>
 j39 [nt s57 0,nt s57 1,nt s57 2] h58 l59) fun j56 => fork v55
 (ob (rFld 4 (nt s34 1)) fun v60 =>
 ob (rLd1 h35.get v60) fun v61 =>
 hv (call (.fn N_k42) [nt s34 0,nt s34 2,v61] h35) fun v62 h63 l64 =>
 ob (rExtract 0 v62) fun v65 =>
 ob (rExtract 1 v62) fun v66 =>
 fin h (rsT v65 (rsT v66 (some []))) h63 (l64 ++ l36))
 (ob (bI .eql v38 (.int .i64 2)) fun v67 =>
 jn3 (fun s69 h70 l71 =>
 j56 [nt s69 0,nt s69 1,nt s69 2] h70 l71) fun j68 => fork v67
 (ob (rFld 2 (nt s34 1)) fun v72 =>
 ob (rLd1 h35.get v72) fun v73 =>
 hv (call (.fn N_k44) [nt s34 0,nt s34 2,v73] h35) fun v74 h75 l76 =>
 ob (unV .not v74) fun v77 =>
 jn3 (fun s79 h80 l81 =>
 fin h (rsT (.int .i64 0) (rsT (.int .i64 0) (some []))) h80 l81) fun j78 => fork v77
 (fin h (rsT (.int .i64 0) (rsT (.int .i64 6) (some []))) h75 (l76 ++ l36))
 (j78 [] h75 (l76 ++ l36)))
 (j68 [nt s34 0,nt s34 1,nt s34 2] h35 l36))) fun j33 => fork v32
 (fin h (rsT (.int .i64 0) (rsT (.int .i64 3) (some []))) h29 (l31 ++ l22))
 (j33 [nt s20 0,nt s20 1,v28] h29 (l31 ++ l22))) fun j19 => fork v18
 (fin h (rsT (.int .i64 0) (rsT (.int .i64 1) (some []))) h1 [])
 (j19 [x0,v0] h1 [])

--
noncomputable def F_k72 (call:CallF) (lp:LoopF) (h:H) : Option R3 :=
 ob (oBuild pgB T_schema_Schema []) fun v0 =>
 al (aBx h.n T_schema_Schema 1 v0) h fun v1 h2 =>
 fin h (rsT v1 (some [])) h2 []

--
noncomputable def F_k73 (call:CallF) (lp:LoopF) (x0:Value) (x1:Value) (x2:Value) (h:H) : Option R3 :=
 al (aBx h.n T_api_Value 3 x2) h fun v0 h1 =>
 ob (rFld 0 v0) fun v2 =>
 ob (rLd1 h1.get v2) fun v3 =>
 ob (bI .eql v3 (.int .i64 0)) fun v4 =>
 gP (gd v4 false) (rFld 0 v0) fun v5 =>
 gP (gd v4 false) (rLd1 h1.get v5) fun v6 =>
 gP (gd v4 false) (some x0) fun v7 =>
 gP (gd v4 false) (rNil v7) fun v8 =>
 gP (gd v4 false) (rFld 0 v8) fun v9 =>
 gP (gd v4 false) (rFld 1 v9) fun v10 =>
 gP (gd v4 false) (rLd1 h1.get v10) fun v11 =>
 gP (gd v4 false) (some x1) fun v12 =>
 gP (gd v4 false) (rIdxS 4 v11 v12) fun v13 =>
 gP (gd v4 false) (rFld 1 v13) fun v14 =>
 gP (gd v4 false) (rLd1 h1.get v14) fun v15 =>
 gP (gd v4 false) (bI .eql v6 v15) fun v16 =>
 ob (rPick v4 (.bool true) v16) fun v17 =>
 gP (gd v17 true) (rLdA h1.get 3 v0) fun v18 =>
 hv (gV (gd v17 true) (call (.fn N_k106) [v18] h1) h1) fun v19 h20 l21 =>
 ob (rPick v17 v19 (.bool false)) fun v22 =>
 dr [0,1,3,7,15,31,15,79,207,463,975,15,4047,8143,16335,32767,65535,131071,262143,524287,1048575,2097151] [mP h1,mR h1 (rdP v2),mP h1,mP h1,mG (gd v4 false) .pure [] h1 h1 [],mG (gd v4 false) .pure (rdP v5) h1 h1 [],mG (gd v4 false) .pure [] h1 h1 [],mG (gd v4 false) .pure [] h1 h1 [],mG (gd v4 false) .pure [] h1 h1 [],mG (gd v4 false) .pure [] h1 h1 [],mG (gd v4 false) .pure (rdP v10) h1 h1 [],mG (gd v4 false) .pure [] h1 h1 [],mG (gd v4 false) .pure [] h1 h1 [],mG (gd v4 false) .pure [] h1 h1 [],mG (gd v4 false) .pure (rdP v14) h1 h1 [],mG (gd v4 false) .pure [] h1 h1 [],mP h1,mP h1,mG (gd v17 true) .pure (rdP v0) h1 h1 [],mG (gd v17 true) .heavy (rdL [v18]) h1 h20 l21,mP h20,mP h20] fun l23 =>
 fin h (rsT v22 (some [])) h20 (l23 ++ [])

--
noncomputable def F_k74 (call:CallF) (lp:LoopF) (x0:Value) (x1:Value) (h:H) : Option R3 :=
 al (aBx h.n T_api_Value 3 x1) h fun v0 h1 =>
 ob (rLdA h1.get 3 v0) fun v2 =>
 hv (call (.fn N_k107) [x0,v2] h1) fun v3 h4 l5 =>
 ob (unV .not v3) fun v6 =>
 jn3 (fun s8 h9 l10 =>
 ob (rNil (nt s8 0)) fun v11 =>
 ob (rFld 1 v11) fun v12 =>
 ob (rLd1 h9.get v12) fun v13 =>
 ob (rLdA h9.get 3 (nt s8 1)) fun v14 =>
 al (aBuildS pgB h9.n T_Lapi_Value 1 [(0,v14)]) h9 fun v15 h16 =>
 hv (rApp h16 T_api_Value 3 32 [(.int .i64 0),(.int .i64 0),(.string ⟨#[]⟩)] v13 v15) fun v17 h18 l19 =>
 ob (rNil (nt s8 0)) fun v20 =>
 ob (rFld 1 v20) fun v21 =>
 hv (rStore h18 1 v21 v17) fun v22 h23 l24 =>
 dr [0,0,2,6,14,0,32,126,255,511,1023] [mP h9,mP h9,mP h9,mP h9,mR h9 (rdP v12),mR h9 (rdP (nt s8 1)),mA h9 [],mH h16 (rdL [v13,v15]) l19 h18,mP h18,mP h18,mH h18 [] l24 h23] fun l25 =>
 ob (rLdA h23.get 3 (nt s8 1)) fun v26 =>
 hv (call (.fn N_k108) [nt s8 0,v26] h23) fun v27 h28 l29 =>
 fin h (rsT (.bool true) (some [])) h28 (l29 ++ (l25 ++ l10))) fun j7 => fork v6
 (fin h (rsT (.bool false) (some [])) h4 (l5 ++ []))
 (j7 [x0,v0] h4 (l5 ++ []))

--
noncomputable def F_k75_L506 (call:CallF) (lp:LoopF) : List Value → H → Option LOut := fun s29 h30 =>
 ob (bI .lss (nt s29 4) (nt s29 3)) fun v31 =>
 jn3 (fun s33 h34 l35 =>
 jn3 (fun s37 h38 l39 =>
 ob (bI .add (nt s37 4) (.int .i64 1)) fun v40 =>
 some ⟨.normal,[nt s37 0,nt s37 1,nt s37 2,nt s37 3,v40],h38,l39⟩) fun j36 =>
 ob (rIdxS 2 (nt s33 2) (nt s33 4)) fun v41 =>
 ob (rLdA h34.get 2 v41) fun v42 =>
 al (aNew h34.n T_A2i64 [(.int .i64 0),(.int .i64 0)]) h34 fun v43 h44 =>
 hv (rStore h44 2 v43 v42) fun v45 h46 l47 =>
 ob (rIdxA 2 1 v43 (.int .i64 0)) fun v48 =>
 ob (rLd1 h46.get v48) fun v49 =>
 ob (rIdxA 2 1 v43 (.int .i64 1)) fun v50 =>
 ob (rLd1 h46.get v50) fun v51 =>
 hv (call (.fn N_k112) [nt s33 1,v49,v51] h46) fun v52 h53 l54 =>
 j36 [nt s33 0,nt s33 1,nt s33 2,nt s33 3,nt s33 4] h53 (l54 ++ (l47 ++ l35))) fun j32 => fork v31
 (j32 [nt s29 0,nt s29 1,nt s29 2,nt s29 3,nt s29 4] h30 [])
 (some ⟨(.exit 0),[nt s29 0,nt s29 1,nt s29 2,nt s29 3,nt s29 4],h30,[]⟩)
noncomputable def F_k75 (call:CallF) (lp:LoopF) (x0:Value) (x1:Value) (h:H) : Option R3 :=
 al (aBx h.n T_bitmap_Map 1 x0) h fun v0 h1 =>
 al (aBx h1.n T_bitmap_Map 1 x1) h1 fun v2 h3 =>
 al (aNew h3.n T_bitmap_Map [(.slice none 0 0)]) h3 fun v4 h5 =>
 ob (rFld 0 v0) fun v6 =>
 ob (rLd1 h5.get v6) fun v7 =>
 ob (rFld 0 v2) fun v8 =>
 ob (rLd1 h5.get v8) fun v9 =>
 al (aBuildS pgB h5.n T_LLA2i64 2 [(0,v7),(1,v9)]) h5 fun v10 h11 =>
 hv (call (.fn N_k109) [v10] h11) fun v12 h13 l14 =>
 hv (call (.fn N_k110) [v12,(.func (.func N_k111) #[] #[])] h13) fun v15 h16 l17 =>
 al (aNew h16.n T_bitmap_Map [(.slice none 0 0)]) h16 fun v18 h19 =>
 ob (rLenL v12) fun v20 =>
 jn3 (fun s22 h23 l24 =>
 ob (rLdA h23.get 1 (nt s22 1)) fun v25 =>
 hv (rStore h23 1 (nt s22 0) v25) fun v26 h27 l28 =>
 fin h (rsK (rLdA h27.get 1 (nt s22 0)) (some [])) h27 (l28 ++ l24)) fun j21 =>
 ob (lp (F_k75_L506 call lp) [v4,v18,v12,v20,(.int .i64 0)] h19) fun o55 =>
 onEx o55.ex (j21 [(nt o55.vs 0),(nt o55.vs 1)] o55.h (o55.lg ++ (l17 ++ (l14 ++ [])))) (fun i56 => bif Nat.beq i56 0 then j21 [(nt o55.vs 0),(nt o55.vs 1)] o55.h (o55.lg ++ (l17 ++ (l14 ++ []))) else none) (fin h (rsK (rLdA o55.h.get 1 (nt o55.vs 0)) (some [])) o55.h (o55.lg ++ (l17 ++ (l14 ++ []))))

--
noncomputable def F_k76_L506 (call:CallF) (lp:LoopF) : List Value → H → Option LOut := fun s19 h20 =>
 ob (bI .lss (nt s19 4) (nt s19 3)) fun v21 =>
 jn3 (fun s23 h24 l25 =>
 jn3 (fun s27 h28 l29 =>
 ob (bI .add (nt s27 4) (.int .i64 1)) fun v30 =>
 some ⟨.normal,[nt s27 0,nt s27 1,nt s27 2,nt s27 3,v30,nt s27 5,nt s27 6],h28,l29⟩) fun j26 =>
 ob (rIdxS 1 (nt s23 2) (nt s23 4)) fun v31 =>
 ob (rLd1 h24.get v31) fun v32 =>
 ob (bI .geq v32 (.int .i64 0)) fun v33 =>
 gP (gd v33 true) (some v32) fun v34 =>
 gP (gd v33 true) (bI .lss v34 (.int .i64 65536)) fun v35 =>
 ob (rPick v33 v35 (.bool false)) fun v36 =>
 jn3 (fun s38 h39 l40 =>
 j26 [nt s38 0,nt s38 1,nt s38 2,nt s38 3,nt s38 4,nt s38 5,nt s38 6] h39 l40) fun j37 => fork v36
 (ob (bI .add v32 (.int .i64 1)) fun v41 =>
 hv (call (.fn N_k112) [nt s23 1,v32,v41] h24) fun v42 h43 l44 =>
 j37 [nt s23 0,nt s23 1,nt s23 2,nt s23 3,nt s23 4,v34,v35] h43 (l44 ++ l25))
 (j37 [nt s23 0,nt s23 1,nt s23 2,nt s23 3,nt s23 4,v34,v35] h24 l25)) fun j22 => fork v21
 (j22 [nt s19 0,nt s19 1,nt s19 2,nt s19 3,nt s19 4,nt s19 5,nt s19 6] h20 [])
 (some ⟨(.exit 0),[nt s19 0,nt s19 1,nt s19 2,nt s19 3,nt s19 4,nt s19 5,nt s19 6],h20,[]⟩)
noncomputable def F_k76 (call:CallF) (lp:LoopF) (x0:Value) (h:H) : Option R3 :=
 al (aNew h.n T_bitmap_Map [(.slice none 0 0)]) h fun v0 h1 =>
 hv (call (.fn N_k113) [x0] h1) fun v2 h3 l4 =>
 hv (call (.fn N_k114) [v2] h3) fun v5 h6 l7 =>
 al (aNew h6.n T_bitmap_Map [(.slice none 0 0)]) h6 fun v8 h9 =>
 ob (rLenL v2) fun v10 =>
 jn3 (fun s12 h13 l14 =>
 ob (rLdA h13.get 1 (nt s12 1)) fun v15 =>
 hv (rStore h13 1 (nt s12 0) v15) fun v16 h17 l18 =>
 fin h (rsK (rLdA h17.get 1 (nt s12 0)) (some [])) h17 (l18 ++ l14)) fun j11 =>
 ob (lp (F_k76_L506 call lp) [v0,v8,v2,v10,(.int .i64 0),poison,poison] h9) fun o45 =>
 onEx o45.ex (j11 [(nt o45.vs 0),(nt o45.vs 1)] o45.h (o45.lg ++ (l7 ++ (l4 ++ [])))) (fun i46 => bif Nat.beq i46 0 then j11 [(nt o45.vs 0),(nt o45.vs 1)] o45.h (o45.lg ++ (l7 ++ (l4 ++ []))) else none) (fin h (rsK (rLdA o45.h.get 1 (nt o45.vs 0)) (some [])) o45.h (o45.lg ++ (l7 ++ (l4 ++ []))))

--
noncomputable def F_k77 (call:CallF) (lp:LoopF) (h:H) : Option R3 :=
 hv (call (.fn N_k115) [] h) fun v0 h1 l2 =>
 hv (call (.fn N_k78) [v0] h1) fun v3 h4 l5 =>
 ob (binV pgB.ty (tyD (.pointer 0)) .eql v3 (.pointer none)) fun v6 =>
 jn3 (fun s8 h9 l10 =>
 hv (call (.fn N_k116) [(.int .i64 7),(.string ⟨#[120]⟩)] h9) fun v11 h12 l13 =>
 hv (call (.fn N_k35) [nt s8 0,v11] h12) fun v14 h15 l16 =>
 ob (rExtract 0 v14) fun v17 =>
 ob (rExtract 1 v14) fun v18 =>
 hv (call (.fn N_k116) [(.int .i64 8),(.string ⟨#[121]⟩)] h15) fun v19 h20 l21 =>
 hv (call (.fn N_k35) [nt s8 0,v19] h20) fun v22 h23 l24 =>
 ob (rExtract 0 v22) fun v25 =>
 ob (rExtract 1 v22) fun v26 =>
 hv (call (.fn N_k35) [nt s8 0,(.slice none 0 0)] h23) fun v27 h28 l29 =>
 ob (rExtract 0 v27) fun v30 =>
 ob (rExtract 1 v27) fun v31 =>
 hv (call (.fn N_k43) [nt s8 0,v17] h28) fun v32 h33 l34 =>
 ob (oBuild pgB T_api_Value [(0,(.int .i64 2)),(2,(.string ⟨#[122]⟩))]) fun v35 =>
 hv (call (.fn N_k45) [nt s8 0,v25,(.string ⟨#[122,111,110,101]⟩),v35] h33) fun v36 h37 l38 =>
 hv (call (.fn N_k67) [nt s8 0,v25] h37) fun v39 h40 l41 =>
 ob (rExtract 0 v39) fun v42 =>
 ob (rExtract 1 v39) fun v43 =>
 hv (call (.fn N_k55) [nt s8 0,v25,(.string ⟨#[122,111,110,101]⟩)] h40) fun v44 h45 l46 =>
 ob (rExtract 0 v44) fun v47 =>
 ob (rExtract 1 v44) fun v48 =>
 al (aNew h45.n T_api_Value [(.int .i64 0),(.int .i64 0),(.string ⟨#[]⟩)]) h45 fun v49 h50 =>
 hv (rStore h50 3 v49 v47) fun v51 h52 l53 =>
 hv (call (.fn N_k51) [nt s8 0] h52) fun v54 h55 l56 =>
 ob (bI .eql v18 (.int .i64 0)) fun v57 =>
 gP (gd v57 true) (some v26) fun v58 =>
 gP (gd v57 true) (bI .eql v58 (.int .i64 0)) fun v59 =>
 ob (rPick v57 v59 (.bool false)) fun v60 =>
 gP (gd v60 true) (some v31) fun v61 =>
 gP (gd v60 true) (bI .eql v61 (.int .i64 1)) fun v62 =>
 ob (rPick v60 v62 (.bool false)) fun v63 =>
 gP (gd v63 true) (some v17) fun v64 =>
 gP (gd v63 true) (bI .eql v64 (.int .i64 0)) fun v65 =>
 ob (rPick v63 v65 (.bool false)) fun v66 =>
 gP (gd v66 true) (some v25) fun v67 =>
 gP (gd v66 true) (bI .eql v67 (.int .i64 1)) fun v68 =>
 ob (rPick v66 v68 (.bool false)) fun v69 =>
 gP (gd v69 true) (some v32) fun v70 =>
 ob (rPick v69 v70 (.bool false)) fun v71 =>
 gP (gd v71 true) (some v36) fun v72 =>
 gP (gd v71 true) (bI .eql v72 (.int .i64 0)) fun v73 =>
 ob (rPick v71 v73 (.bool false)) fun v74 =>
 gP (gd v74 true) (some v43) fun v75 =>
 ob (rPick v74 v75 (.bool false)) fun v76 =>
 gP (gd v76 true) (some v42) fun v77 =>
 gP (gd v76 true) (rLenL v77) fun v78 =>
 gP (gd v76 true) (bI .eql v78 (.int .i64 4)) fun v79 =>
 ob (rPick v76 v79 (.bool false)) fun v80 =>
 gP (gd v80 true) (rFld 2 v49) fun v81 =>
 gP (gd v80 true) (rLd1 h55.get v81) fun v82 =>
 gP (gd v80 true) (binV pgB.ty (tyD .string) .eql v82 (.string ⟨#[122]⟩)) fun v83 =>
 ob (rPick v80 v83 (.bool false)) fun v84 =>
 gP (gd v84 true) (some v48) fun v85 =>
 ob (rPick v84 v85 (.bool false)) fun v86 =>
 gP (gd v86 true) (some (nt s8 0)) fun v87 =>
 hv (gV (gd v86 true) (call (.fn N_k66) [v87] h55) h55) fun v88 h89 l90 =>
 gP (gd v86 true) (bI .eql v88 (.int .i64 2)) fun v91 =>
 ob (rPick v86 v91 (.bool false)) fun v92 =>
 gP (gd v92 true) (some (nt s8 0)) fun v93 =>
 hv (gV (gd v92 true) (call (.fn N_k53) [v93] h89) h89) fun v94 h95 l96 =>
 hv (gV (gd v92 true) (call (.fn N_k65) [v94] h95) h95) fun v97 h98 l99 =>
 gP (gd v92 true) (bI .eql v97 (.int .i64 1)) fun v100 =>
 ob (rPick v92 v100 (.bool false)) fun v101 =>
 gP (gd v101 true) (some (nt s8 0)) fun v102 =>
 hv (gV (gd v101 true) (call (.fn N_k117) [v102,(.string ⟨#[99,105,116,121]⟩)] h98) h98) fun v103 h104 l105 =>
 gP (gd v101 true) (bI .eql v103 (.int .i64 1)) fun v106 =>
 ob (rPick v101 v106 (.bool false)) fun v107 =>
 gP (gd v107 true) (some v54) fun v108 =>
 gP (gd v107 true) (binV pgB.ty (tyD (.pointer 0)) .neq v108 (.pointer none)) fun v109 =>
 ob (rPick v107 v109 (.bool false)) fun v110 =>
 gP (gd v110 true) (some v54) fun v111 =>
 hv (gV (gd v110 true) (call (.fn N_k66) [v111] h104) h104) fun v112 h113 l114 =>
 gP (gd v110 true) (bI .eql v112 (.int .i64 2)) fun v115 =>
 ob (rPick v110 v115 (.bool false)) fun v116 =>
 gP (gd v116 true) (some (nt s8 0)) fun v117 =>
 hv (gV (gd v116 true) (call (.fn N_k52) [v117] h113) h113) fun v118 h119 l120 =>
 gP (gd v116 true) (rPart1 0 v118) fun v121 =>
 gP (gd v116 true) (binV pgB.ty (tyD .string) .eql v121 (.string ⟨#[115,104,111,112]⟩)) fun v122 =>
 ob (rPick v116 v122 (.bool false)) fun v123 =>
 fin h (rsT v123 (some [])) h119 (l120 ++ (l114 ++ (l105 ++ (l99 ++ (l96 ++ (l90 ++ (l56 ++ (l53 ++ (l46 ++ (l41 ++ (l38 ++ (l34 ++ (l29 ++ (l24 ++ (l21 ++ (l16 ++ (l13 ++ l10)))))))))))))))))) fun j7 => fork v6
 (fin h (rsT (.bool false) (some [])) h4 (l5 ++ (l2 ++ [])))
 (j7 [v3,poison,poison,poison,poison,poison,poison,poison,poison,poison,poison,poison,poison,poison,poison,poison,poison,poison,poison,poison,poison,poison,poison,poison,poison,poison,poison,poison,poison,poison,poison,poison,poison,poison,poison,poison,poison,poison,poison] h4 (l5 ++ (l2 ++ [])))

--
noncomputable def F_k78_L122 (call:CallF) (lp:LoopF) : List Value → H → Option LOut := fun s13 h14 =>
 ob (bI .lss (nt s13 4) (nt s13 3)) fun v15 =>
 jn3 (fun s17 h18 l19 =>
 jn3 (fun s21 h22 l23 =>
 ob (bI .add (nt s21 4) (.int .i64 1)) fun v24 =>
 some ⟨.normal,[nt s21 0,nt s21 1,nt s21 2,nt s21 3,v24],h22,l23⟩) fun j20 =>
 ob (rIdxS 4 (nt s17 2) (nt s17 4)) fun v25 =>
 ob (rLdA h18.get 4 v25) fun v26 =>
 al (aNew h18.n T_api_Col [(.string ⟨#[]⟩),(.int .i64 0),(.bool false),(.string ⟨#[]⟩)]) h18 fun v27 h28 =>
 hv (rStore h28 4 v27 v26) fun v29 h30 l31 =>
 ob (rNil (nt s17 1)) fun v32 =>
 ob (rFld 4 v32) fun v33 =>
 ob (rLd1 h30.get v33) fun v34 =>
 ob (rFld 1 v27) fun v35 =>
 ob (rLd1 h30.get v35) fun v36 =>
 hv (call (.fn N_k118) [v36] h30) fun v37 h38 l39 =>
 al (aBuildS pgB h38.n T_LPcolumn_Column 1 [(0,v37)]) h38 fun v40 h41 =>
 hv (rApp h41 T_Pcolumn_Column 1 8 [(.pointer none)] v34 v40) fun v42 h43 l44 =>
 ob (rNil (nt s17 1)) fun v45 =>
 ob (rFld 4 v45) fun v46 =>
 hv (rStore h43 1 v46 v42) fun v47 h48 l49 =>
 dr [0,0,2,6,14,0,32,96,224,510,1023,2047,4095] [mP h30,mP h30,mP h30,mP h30,mR h30 (rdP v33),mP h30,mR h30 (rdP v35),mH h30 (rdL [v36]) l39 h38,mA h38 [],mH h41 (rdL [v34,v40]) l44 h43,mP h43,mP h43,mH h43 [] l49 h48] fun l50 =>
 j20 [nt s17 0,nt s17 1,nt s17 2,nt s17 3,nt s17 4] h48 (l50 ++ (l31 ++ l19))) fun j16 => fork v15
 (j16 [nt s13 0,nt s13 1,nt s13 2,nt s13 3,nt s13 4] h14 [])
 (some ⟨(.exit 0),[nt s13 0,nt s13 1,nt s13 2,nt s13 3,nt s13 4],h14,[]⟩)
noncomputable def F_k78 (call:CallF) (lp:LoopF) (x0:Value) (h:H) : Option R3 :=
 al (aBx h.n T_api_Table 4 x0) h fun v0 h1 =>
 ob (rLdA h1.get 4 v0) fun v2 =>
 ob (oBuild pgB T_table_Table [(0,v2)]) fun v3 =>
 al (aBx h1.n T_table_Table 7 v3) h1 fun v4 h5 =>
 ob (rFld 1 v0) fun v6 =>
 ob (rLd1 h5.get v6) fun v7 =>
 ob (rLenL v7) fun v8 =>
 jn3 (fun s10 h11 l12 =>
 fin h (rsT (nt s10 0) (some [])) h11 l12) fun j9 =>
 ob (lp (F_k78_L122 call lp) [(.pointer none),v4,v7,v8,(.int .i64 0)] h5) fun o51 =>
 onEx o51.ex (j9 [(nt o51.vs 1)] o51.h (o51.lg ++ [])) (fun i52 => bif Nat.beq i52 0 then j9 [(nt o51.vs 1)] o51.h (o51.lg ++ []) else none) (fin h (rsT (nt o51.vs 0) (some [])) o51.h (o51.lg ++ []))

--
noncomputable def F_k79_L506 (call:CallF) (lp:LoopF) : List Value → H → Option LOut := fun s40 h41 =>
 ob (rFld 1 (nt s40 1)) fun v42 =>
 ob (rLd1 h41.get v42) fun v43 =>
 ob (rLenL v43) fun v44 =>
 ob (bI .lss (nt s40 3) v44) fun v45 =>
 jn3 (fun s47 h48 l49 =>
 jn3 (fun s51 h52 l53 =>
 ob (bI .add (nt s51 3) (.int .i64 1)) fun v54 =>
 some ⟨.normal,[nt s51 0,nt s51 1,nt s51 2,v54],h52,l53⟩) fun j50 =>
 ob (rFld 1 (nt s47 1)) fun v55 =>
 ob (rLd1 h48.get v55) fun v56 =>
 ob (rIdxS 4 v56 (nt s47 3)) fun v57 =>
 ob (rFld 3 v57) fun v58 =>
 ob (rLd1 h48.get v58) fun v59 =>
 ob (binV pgB.ty (tyD .string) .eql v59 (.string ⟨#[]⟩)) fun v60 =>
 jn3 (fun s62 h63 l64 =>
 ob (rFld 1 (nt s62 1)) fun v65 =>
 ob (rLd1 h63.get v65) fun v66 =>
 ob (rIdxS 4 v66 (nt s62 3)) fun v67 =>
 ob (rFld 3 v67) fun v68 =>
 ob (rLd1 h63.get v68) fun v69 =>
 hv (call (.fn N_k41) [nt s62 0,v69] h63) fun v70 h71 l72 =>
 ob (bI .lss v70 (.int .i64 0)) fun v73 =>
 jn3 (fun s75 h76 l77 =>
 ob (rIdxS 4 (nt s75 0) (nt s75 4)) fun v78 =>
 ob (rFld 2 v78) fun v79 =>
 ob (rLd1 h76.get v79) fun v80 =>
 ob (binV pgB.ty (tyD .string) .eql v80 (.string ⟨#[]⟩)) fun v81 =>
 jn3 (fun s83 h84 l85 =>
 ob (rIdxS 4 (nt s83 0) (nt s83 4)) fun v86 =>
 ob (rFld 1 v86) fun v87 =>
 ob (rLd1 h84.get v87) fun v88 =>
 ob (rIdxS 4 (nt s83 0) (nt s83 4)) fun v89 =>
 ob (rLdA h84.get 4 v89) fun v90 =>
 ob (rIdxS 4 (nt s83 0) (nt s83 4)) fun v91 =>
 ob (rFld 2 v91) fun v92 =>
 ob (rLd1 h84.get v92) fun v93 =>
 hv (call (.fn N_k57) [v90,v93] h84) fun v94 h95 l96 =>
 ob (rIdxS 4 v88 v94) fun v97 =>
 ob (rFld 1 v97) fun v98 =>
 ob (rLd1 h95.get v98) fun v99 =>
 ob (rFld 1 (nt s83 1)) fun v100 =>
 ob (rLd1 h95.get v100) fun v101 =>
 ob (rIdxS 4 v101 (nt s83 3)) fun v102 =>
 ob (rFld 1 v102) fun v103 =>
 ob (rLd1 h95.get v103) fun v104 =>
 ob (bI .neq v99 v104) fun v105 =>
 dr [0,0,3,7,15,0,0,96,224,0,0,1536,3584,7680,16352,32767,65535,131071,0,262144,0,1835008,3932160,8126464,16777215] [mP h84,mP h84,mP h84,mP h84,mR h84 (rdP v87),mP h84,mP h84,mP h84,mR h84 (rdP v89),mP h84,mP h84,mP h84,mP h84,mR h84 (rdP v92),mH h84 (rdL [v90,v93]) l96 h95,mP h95,mP h95,mR h95 (rdP v98),mP h95,mR h95 (rdP v100),mP h95,mP h95,mP h95,mR h95 (rdP v103),mP h95] fun l106 =>
 jn3 (fun s108 h109 l110 =>
 j50 [nt s108 0,nt s108 1,nt s108 2,nt s108 3] h109 l110) fun j107 => fork v105
 (some ⟨.ret,[nt s83 0,nt s83 1,(.int .i64 4),nt s83 3],h95,(l106 ++ l85)⟩)
 (j107 [nt s83 0,nt s83 1,nt s83 2,nt s83 3] h95 (l106 ++ l85))) fun j82 => fork v81
 (some ⟨.ret,[nt s75 0,nt s75 1,(.int .i64 9),nt s75 3],h76,l77⟩)
 (j82 [nt s75 0,nt s75 1,nt s75 2,nt s75 3,nt s75 4] h76 l77)) fun j74 => fork v73
 (some ⟨.ret,[nt s62 0,nt s62 1,(.int .i64 3),nt s62 3],h71,(l72 ++ l64)⟩)
 (j74 [nt s62 0,nt s62 1,nt s62 2,nt s62 3,v70] h71 (l72 ++ l64))) fun j61 => fork v60
 (j50 [nt s47 0,nt s47 1,nt s47 2,nt s47 3] h48 l49)
 (j61 [nt s47 0,nt s47 1,nt s47 2,nt s47 3] h48 l49)) fun j46 => fork v45
 (j46 [nt s40 0,nt s40 1,nt s40 2,nt s40 3] h41 [])
 (some ⟨(.exit 2),[nt s40 0,nt s40 1,nt s40 2,nt s40 3],h41,[]⟩)
noncomputable def F_k79_L250 (call:CallF) (lp:LoopF) : List Value → H → Option LOut := fun s113 h114 =>
 ob (rFld 1 (nt s113 1)) fun v115 =>
 ob (rLd1 h114.get v115) fun v116 =>
 ob (rLenL v116) fun v117 =>
 ob (bI .lss (nt s113 3) v117) fun v118 =>
 jn3 (fun s120 h121 l122 =>
 jn3 (fun s124 h125 l126 =>
 ob (bI .add (nt s124 3) (.int .i64 1)) fun v127 =>
 some ⟨.normal,[nt s124 0,nt s124 1,nt s124 2,v127,nt s124 4,nt s124 5,nt s124 6,nt s124 7,nt s124 8,nt s124 9,nt s124 10],h125,l126⟩) fun j123 =>
 ob (rFld 1 (nt s120 1)) fun v128 =>
 ob (rLd1 h121.get v128) fun v129 =>
 ob (rIdxS 4 v129 (nt s120 3)) fun v130 =>
 ob (rFld 1 v130) fun v131 =>
 ob (rLd1 h121.get v131) fun v132 =>
 ob (bI .neq v132 (.int .i64 1)) fun v133 =>
 gP (gd v133 true) (rFld 1 (nt s120 1)) fun v134 =>
 gP (gd v133 true) (rLd1 h121.get v134) fun v135 =>
 gP (gd v133 true) (some (nt s120 3)) fun v136 =>
 gP (gd v133 true) (rIdxS 4 v135 v136) fun v137 =>
 gP (gd v133 true) (rFld 1 v137) fun v138 =>
 gP (gd v133 true) (rLd1 h121.get v138) fun v139 =>
 gP (gd v133 true) (bI .neq v139 (.int .i64 2)) fun v140 =>
 ob (rPick v133 v140 (.bool false)) fun v141 =>
 jn3 (fun s143 h144 l145 =>
 j123 [nt s143 0,nt s143 1,nt s143 2,nt s143 3,nt s143 4,nt s143 5,nt s143 6,nt s143 7,nt s143 8,nt s143 9,nt s143 10] h144 l145) fun j142 => fork v141
 (some ⟨.ret,[nt s120 0,nt s120 1,(.int .i64 4),nt s120 3,v134,v135,v136,v137,v138,v139,v140],h121,l122⟩)
 (j142 [nt s120 0,nt s120 1,nt s120 2,nt s120 3,v134,v135,v136,v137,v138,v139,v140] h121 l122)) fun j119 => fork v118
 (j119 [nt s113 0,nt s113 1,nt s113 2,nt s113 3,nt s113 4,nt s113 5,nt s113 6,nt s113 7,nt s113 8,nt s113 9,nt s113 10] h114 [])
 (some ⟨(.exit 0),[nt s113 0,nt s113 1,nt s113 2,nt s113 3,nt s113 4,nt s113 5,nt s113 6,nt s113 7,nt s113 8,nt s113 9,nt s113 10],h114,[]⟩)
noncomputable def F_k79 (call:CallF) (lp:LoopF) (x0:Value) (x1:Value) (h:H) : Option R3 :=
 al (aBx h.n T_api_Table 4 x1) h fun v0 h1 =>
 ob (rLenL x0) fun v2 =>
 ob (bI .geq v2 (.int .i64 8)) fun v3 =>
 gP (gd v3 false) (rFld 1 v0) fun v4 =>
 gP (gd v3 false) (rLd1 h1.get v4) fun v5 =>
 gP (gd v3 false) (rLenL v5) fun v6 =>
 gP (gd v3 false) (bI .lss v6 (.int .i64 1)) fun v7 =>
 ob (rPick v3 (.bool true) v7) fun v8 =>
 gP (gd v8 false) (rFld 1 v0) fun v9 =>
 gP (gd v8 false) (rLd1 h1.get v9) fun v10 =>
 gP (gd v8 false) (rLenL v10) fun v11 =>
 gP (gd v8 false) (bI .gtr v11 (.int .i64 6)) fun v12 =>
 ob (rPick v8 (.bool true) v12) fun v13 =>
 gP (gd v13 false) (rFld 3 v0) fun v14 =>
 gP (gd v13 false) (rLd1 h1.get v14) fun v15 =>
 gP (gd v13 false) (rLenL v15) fun v16 =>
 gP (gd v13 false) (bI .gtr v16 (.int .i64 3)) fun v17 =>
 ob (rPick v13 (.bool true) v17) fun v18 =>
 jn3 (fun s20 h21 l22 =>
 ob (rLdA h21.get 4 (nt s20 1)) fun v23 =>
 hv (call (.fn N_k119) [nt s20 0,v23] h21) fun v24 h25 l26 =>
 ob (unV .not v24) fun v27 =>
 jn3 (fun s29 h30 l31 =>
 jn3 (fun s33 h34 l35 =>
 jn3 (fun s37 h38 l39 =>
 fin h (rsT (.int .i64 0) (some [])) h38 l39) fun j36 =>
 ob (lp (F_k79_L506 call lp) [nt s33 0,nt s33 1,nt s33 2,(.int .i64 0)] h34) fun o111 =>
 onEx o111.ex (j36 [] o111.h (o111.lg ++ l35)) (fun i112 => bif Nat.beq i112 2 then j36 [] o111.h (o111.lg ++ l35) else none) (fin h (rsT (nt o111.vs 2) (some [])) o111.h (o111.lg ++ l35))) fun j32 =>
 ob (lp (F_k79_L250 call lp) [nt s29 0,nt s29 1,nt s29 2,(.int .i64 0),nt s29 3,nt s29 4,nt s29 5,nt s29 6,nt s29 7,nt s29 8,nt s29 9] h30) fun o146 =>
 onEx o146.ex (j32 [(nt o146.vs 0),(nt o146.vs 1),(nt o146.vs 2)] o146.h (o146.lg ++ l31)) (fun i147 => bif Nat.beq i147 0 then j32 [(nt o146.vs 0),(nt o146.vs 1),(nt o146.vs 2)] o146.h (o146.lg ++ l31) else none) (fin h (rsT (nt o146.vs 2) (some [])) o146.h (o146.lg ++ l31))) fun j28 => fork v27
 (fin h (rsT (.int .i64 3) (some [])) h25 (l26 ++ l22))
 (j28 [nt s20 0,nt s20 1,nt s20 2,nt s20 3,nt s20 4,nt s20 5,nt s20 6,nt s20 7,nt s20 8,nt s20 9] h25 (l26 ++ l22))) fun j19 => fork v18
 (fin h (rsT (.int .i64 5) (some [])) h1 [])
 (j19 [x0,v0,(.int .i64 0),poison,poison,poison,poison,poison,poison,poison] h1 [])

--
noncomputable def F_k80_L122 (call:CallF) (lp:LoopF) : List Value → H → Option LOut := fun s21 h22 =>
 ob (rFld 1 (nt s21 0)) fun v23 =>
 ob (rLd1 h22.get v23) fun v24 =>
 ob (rLenL v24) fun v25 =>
 ob (bI .lss (nt s21 2) v25) fun v26 =>
 jn3 (fun s28 h29 l30 =>
 jn3 (fun s32 h33 l34 =>
 ob (bI .add (nt s32 2) (.int .i64 1)) fun v35 =>
 some ⟨.normal,[nt s32 0,nt s32 1,v35],h33,l34⟩) fun j31 =>
 ob (rFld 1 (nt s28 0)) fun v36 =>
 ob (rLd1 h29.get v36) fun v37 =>
 ob (rIdxS 4 v37 (nt s28 2)) fun v38 =>
 ob (rFld 0 v38) fun v39 =>
 ob (rLd1 h29.get v39) fun v40 =>
 ob (rFld 2 (nt s28 0)) fun v41 =>
 ob (rLd1 h29.get v41) fun v42 =>
 ob (binV pgB.ty (tyD .string) .eql v40 v42) fun v43 =>
 dr [0,1,0,7,15,31,0,64,255] [mP h29,mR h29 (rdP v36),mP h29,mP h29,mP h29,mR h29 (rdP v39),mP h29,mR h29 (rdP v41),mP h29] fun l44 =>
 jn3 (fun s46 h47 l48 =>
 j31 [nt s46 0,nt s46 1,nt s46 2] h47 l48) fun j45 => fork v43
 (ob (rFld 1 (nt s28 0)) fun v49 =>
 ob (rLd1 h29.get v49) fun v50 =>
 ob (rIdxS 4 v50 (nt s28 2)) fun v51 =>
 ob (rFld 2 v51) fun v52 =>
 hv (rStore h29 1 v52 (.bool true)) fun v53 h54 l55 =>
 j45 [nt s28 0,nt s28 1,nt s28 2] h54 (l55 ++ (l44 ++ l30)))
 (j45 [nt s28 0,nt s28 1,nt s28 2] h29 (l44 ++ l30))) fun j27 => fork v26
 (j27 [nt s21 0,nt s21 1,nt s21 2] h22 [])
 (some ⟨(.exit 0),[nt s21 0,nt s21 1,nt s21 2],h22,[]⟩)
noncomputable def F_k80 (call:CallF) (lp:LoopF) (x0:Value) (h:H) : Option R3 :=
 al (aBx h.n T_api_Table 4 x0) h fun v0 h1 =>
 al (aNew h1.n T_api_Table [(.string ⟨#[]⟩),(.slice none 0 0),(.string ⟨#[]⟩),(.slice none 0 0)]) h1 fun v2 h3 =>
 ob (rFld 1 v0) fun v4 =>
 ob (rLd1 h3.get v4) fun v5 =>
 hv (rApp h3 T_api_Col 4 48 [(.string ⟨#[]⟩),(.int .i64 0),(.bool false),(.string ⟨#[]⟩)] (.slice none 0 0) v5) fun v6 h7 l8 =>
 ob (rFld 1 v0) fun v9 =>
 hv (rStore h7 1 v9 v6) fun v10 h11 l12 =>
 jn3 (fun s14 h15 l16 =>
 ob (rLdA h15.get 4 (nt s14 0)) fun v17 =>
 hv (rStore h15 4 (nt s14 1) v17) fun v18 h19 l20 =>
 fin h (rsK (rLdA h19.get 4 (nt s14 1)) (some [])) h19 (l20 ++ l16)) fun j13 =>
 ob (lp (F_k80_L122 call lp) [v0,v2,(.int .i64 0)] h11) fun o56 =>
 onEx o56.ex (j13 [(nt o56.vs 0),(nt o56.vs 1)] o56.h (o56.lg ++ (l12 ++ (l8 ++ [])))) (fun i57 => bif Nat.beq i57 0 then j13 [(nt o56.vs 0),(nt o56.vs 1)] o56.h (o56.lg ++ (l12 ++ (l8 ++ []))) else none) (fin h (rsK (rLdA o56.h.get 4 (nt o56.vs 1)) (some [])) o56.h (o56.lg ++ (l12 ++ (l8 ++ []))))

--
noncomputable def F_k81 (call:CallF) (lp:LoopF) (x0:Value) (x1:Value) (h:H) : Option R3 :=
 al (aBx h.n T_api_Value 3 x0) h fun v0 h1 =>
 al (aBx h1.n T_api_Col 4 x1) h1 fun v2 h3 =>
 ob (rLdA h3.get 3 v0) fun v4 =>
 hv (call (.fn N_k120) [v4] h3) fun v5 h6 l7 =>
 gP (gd v5 true) (rFld 0 v0) fun v8 =>
 gP (gd v5 true) (rLd1 h6.get v8) fun v9 =>
 gP (gd v5 true) (bI .eql v9 (.int .i64 0)) fun v10 =>
 gP (gd v5 true) (some v10) fun v11 =>
 gP (gd v11 false) (rFld 0 v0) fun v12 =>
 gP (gd v11 false) (rLd1 h6.get v12) fun v13 =>
 gP (gd v11 false) (rFld 1 v2) fun v14 =>
 gP (gd v11 false) (rLd1 h6.get v14) fun v15 =>
 gP (gd v11 false) (bI .eql v13 v15) fun v16 =>
 gP (gd v5 true) (rPick v11 (.bool true) v16) fun v17 =>
 ob (rPick v5 v17 (.bool false)) fun v18 =>
 fin h (rsT v18 (some [])) h6 (l7 ++ [])

--
noncomputable def F_k82 (call:CallF) (lp:LoopF) (x0:Value) (x1:Value) (h:H) : Option R3 :=
 al (aBx h.n T_bitmap_Map 1 x0) h fun v0 h1 =>
 al (aBx h1.n T_bitmap_Map 1 x1) h1 fun v2 h3 =>
 al (aNew h3.n T_bitmap_Map [(.slice none 0 0)]) h3 fun v4 h5 =>
 ob (rLdA h5.get 1 v0) fun v6 =>
 ob (rLdA h5.get 1 v2) fun v7 =>
 hv (call (.fn N_k122) [v7,(.int .i64 65536)] h5) fun v8 h9 l10 =>
 hv (call (.fn N_k121) [v6,v8] h9) fun v11 h12 l13 =>
 hv (rStore h12 1 v4 v11) fun v14 h15 l16 =>
 dr [0,0,2,7,15] [mR h5 (rdP v0),mR h5 (rdP v2),mH h5 (rdL [v7,(.int .i64 65536)]) l10 h9,mH h9 (rdL [v6,v8]) l13 h12,mH h12 [] l16 h15] fun l17 =>
 fin h (rsK (rLdA h15.get 1 v4) (some [])) h15 (l17 ++ [])

--
noncomputable def F_k83 (call:CallF) (lp:LoopF) (x0:Value) (x1:Value) (x2:Value) (h:H) : Option R3 :=
 al (aBx h.n T_api_Value 3 x2) h fun v0 h1 =>
 ob (rLdA h1.get 3 v0) fun v2 =>
 hv (call (.fn N_k107) [x0,v2] h1) fun v3 h4 l5 =>
 ob (unV .not v3) fun v6 =>
 gP (gd v6 false) (some x1) fun v7 =>
 gP (gd v6 false) (bI .lss v7 (.int .i64 0)) fun v8 =>
 ob (rPick v6 (.bool true) v8) fun v9 =>
 gP (gd v9 false) (some x1) fun v10 =>
 gP (gd v9 false) (some x0) fun v11 =>
 gP (gd v9 false) (rNil v11) fun v12 =>
 gP (gd v9 false) (rFld 1 v12) fun v13 =>
 gP (gd v9 false) (rLd1 h4.get v13) fun v14 =>
 gP (gd v9 false) (rLenL v14) fun v15 =>
 gP (gd v9 false) (bI .geq v10 v15) fun v16 =>
 ob (rPick v9 (.bool true) v16) fun v17 =>
 jn3 (fun s19 h20 l21 =>
 ob (rNil (nt s19 0)) fun v22 =>
 ob (rFld 1 v22) fun v23 =>
 ob (rLd1 h20.get v23) fun v24 =>
 ob (rIdxS 3 v24 (nt s19 1)) fun v25 =>
 ob (rLdA h20.get 3 v25) fun v26 =>
 al (aNew h20.n T_api_Value [(.int .i64 0),(.int .i64 0),(.string ⟨#[]⟩)]) h20 fun v27 h28 =>
 hv (rStore h28 3 v27 v26) fun v29 h30 l31 =>
 ob (rFld 0 v27) fun v32 =>
 ob (rLd1 h30.get v32) fun v33 =>
 jn3 (fun s35 h36 l37 =>
 ob (rNil (nt s35 0)) fun v38 =>
 ob (rFld 1 v38) fun v39 =>
 ob (rLd1 h36.get v39) fun v40 =>
 ob (rLdA h36.get 3 (nt s35 2)) fun v41 =>
 ob (rIdxS 3 v40 (nt s35 1)) fun v42 =>
 hv (rStore h36 3 v42 v41) fun v43 h44 l45 =>
 dr [0,1,3,7,0,0,63,127] [mP h36,mP h36,mP h36,mR h36 (rdP v39),mP h36,mR h36 (rdP (nt s35 2)),mP h36,mH h36 [] l45 h44] fun l46 =>
 ob (rLdA h44.get 3 (nt s35 2)) fun v47 =>
 hv (call (.fn N_k108) [nt s35 0,v47] h44) fun v48 h49 l50 =>
 fin h (rsT (.bool true) (some [])) h49 (l50 ++ (l46 ++ l37))) fun j34 =>
 ob (bI .eql v33 (.int .i64 0)) fun v51 =>
 jn3 (fun s53 h54 l55 =>
 j34 [nt s53 0,nt s53 1,nt s53 2] h54 l55) fun j52 => fork v51
 (ob (rNil (nt s19 0)) fun v56 =>
 ob (rFld 3 v56) fun v57 =>
 ob (rLd1 h30.get v57) fun v58 =>
 ob (bI .sub v58 (.int .i64 1)) fun v59 =>
 ob (rNil (nt s19 0)) fun v60 =>
 ob (rFld 3 v60) fun v61 =>
 hv (rStore h30 1 v61 v59) fun v62 h63 l64 =>
 j52 [nt s19 0,nt s19 1,nt s19 2] h63 (l64 ++ (l31 ++ l21)))
 (ob (bI .eql v33 (.int .i64 2)) fun v65 =>
 jn3 (fun s67 h68 l69 =>
 j52 [nt s67 0,nt s67 1,nt s67 2] h68 l69) fun j66 => fork v65
 (ob (rNil (nt s19 0)) fun v70 =>
 ob (rFld 2 v70) fun v71 =>
 ob (rFld 2 v27) fun v72 =>
 ob (rLd1 h30.get v72) fun v73 =>
 hv (call (.fn N_k123) [v71,v73] h30) fun v74 h75 l76 =>
 dr [0,1,3,0,8,31] [mP h30,mP h30,mP h30,mP h30,mR h30 (rdP v72),mH h30 (rdL [v71,v73]) l76 h75] fun l77 =>
 j66 [nt s19 0,nt s19 1,nt s19 2] h75 (l77 ++ (l31 ++ l21)))
 (j66 [nt s19 0,nt s19 1,nt s19 2] h30 (l31 ++ l21)))) fun j18 => fork v17
 (fin h (rsT (.bool false) (some [])) h4 (l5 ++ []))
 (j18 [x0,x1,v0] h4 (l5 ++ []))

--
noncomputable def F_k84 (call:CallF) (lp:LoopF) (x0:Value) (x1:Value) (h:H) : Option R3 :=
 al (aBx h.n T_string 1 x1) h fun v0 h1 =>
 ob (binV pgB.ty (tyD (.pointer 0)) .eql x0 (.pointer none)) fun v2 =>
 jn3 (fun s4 h5 l6 =>
 ob (rNil (nt s4 0)) fun v7 =>
 ob (rFld 0 v7) fun v8 =>
 ob (rFld 1 v8) fun v9 =>
 ob (rLd1 h5.get v9) fun v10 =>
 ob (oFunc N_k125 #[] #[nt s4 1]) fun v11 =>
 hv (call (.fn N_k124) [v10,v11] h5) fun v12 h13 l14 =>
 fin h (rsT v12 (some [])) h13 (l14 ++ l6)) fun j3 => fork v2
 (fin h (rsT (.int .i64 (-1)) (some [])) h1 [])
 (j3 [x0,v0] h1 [])

--
noncomputable def F_k85_L58 (call:CallF) (lp:LoopF) : List Value → H → Option LOut := fun s5 h6 =>
 ob (bI .lss (nt s5 4) (nt s5 3)) fun v7 =>
 jn3 (fun s9 h10 l11 =>
 jn3 (fun s13 h14 l15 =>
 ob (bI .add (nt s13 4) (.int .i64 1)) fun v16 =>
 some ⟨.normal,[nt s13 0,nt s13 1,nt s13 2,nt s13 3,v16],h14,l15⟩) fun j12 =>
 ob (rIdxS 4 (nt s9 0) (nt s9 4)) fun v17 =>
 ob (rLdA h10.get 4 v17) fun v18 =>
 hv (callV call h10 (nt s9 1) [v18]) fun v19 h20 l21 =>
 jn3 (fun s23 h24 l25 =>
 j12 [nt s23 0,nt s23 1,nt s23 2,nt s23 3,nt s23 4] h24 l25) fun j22 => fork v19
 (some ⟨.ret,[nt s9 0,nt s9 1,nt s9 4,nt s9 3,nt s9 4],h20,(l21 ++ l11)⟩)
 (j22 [nt s9 0,nt s9 1,nt s9 2,nt s9 3,nt s9 4] h20 (l21 ++ l11))) fun j8 => fork v7
 (j8 [nt s5 0,nt s5 1,nt s5 2,nt s5 3,nt s5 4] h6 [])
 (some ⟨(.exit 0),[nt s5 0,nt s5 1,nt s5 2,nt s5 3,nt s5 4],h6,[]⟩)
noncomputable def F_k85 (call:CallF) (lp:LoopF) (x0:Value) (x1:Value) (h:H) : Option R3 :=
 ob (rLenL x0) fun v0 =>
 jn3 (fun s2 h3 l4 =>
 fin h (rsT (.int .i64 (-1)) (some [])) h3 l4) fun j1 =>
 ob (lp (F_k85_L58 call lp) [x0,x1,(.int .i64 0),v0,(.int .i64 0)] h) fun o26 =>
 onEx o26.ex (j1 [] o26.h (o26.lg ++ [])) (fun i27 => bif Nat.beq i27 0 then j1 [] o26.h (o26.lg ++ []) else none) (fin h (rsT (nt o26.vs 2) (some [])) o26.h (o26.lg ++ []))

--
noncomputable def F_k86 (call:CallF) (lp:LoopF) (x0:Value) (x1:Value) (h:H) : Option R3 :=
 al (aBx h.n T_api_Table 4 x0) h fun v0 h1 =>
 ob (rFld 0 v0) fun v2 =>
 ob (rLd1 h1.get v2) fun v3 =>
 ob (rLd1 h1.get x1) fun v4 =>
 ob (binV pgB.ty (tyD .string) .eql v3 v4) fun v5 =>
 fin h (rsT v5 (some [])) h1 []

--
noncomputable def F_k87_L250 (call:CallF) (lp:LoopF) : List Value → H → Option LOut := fun s33 h34 =>
 ob (bI .lss (nt s33 3) (nt s33 2)) fun v35 =>
 jn3 (fun s37 h38 l39 =>
 jn3 (fun s41 h42 l43 =>
 ob (bI .add (nt s41 3) (.int .i64 1)) fun v44 =>
 some ⟨.normal,[nt s41 0,nt s41 1,nt s41 2,v44],h42,l43⟩) fun j40 =>
 ob (rFld 3 (nt s37 0)) fun v45 =>
 ob (rLd1 h38.get v45) fun v46 =>
 ob (rFld 3 (nt s37 0)) fun v47 =>
 ob (rLd1 h38.get v47) fun v48 =>
 ob (rIdxS 2 v48 (nt s37 3)) fun v49 =>
 ob (rFld 0 v49) fun v50 =>
 ob (rLd1 h38.get v50) fun v51 =>
 hv (call (.fn N_k97) [v51] h38) fun v52 h53 l54 =>
 ob (rIdxS 2 v46 (nt s37 3)) fun v55 =>
 ob (rFld 0 v55) fun v56 =>
 hv (rStore h53 1 v56 v52) fun v57 h58 l59 =>
 dr [0,1,0,0,8,0,56,120,248,504,1023,2047,4095] [mP h38,mR h38 (rdP v45),mP h38,mP h38,mR h38 (rdP v47),mP h38,mP h38,mP h38,mR h38 (rdP v50),mH h38 (rdL [v51]) l54 h53,mP h53,mP h53,mH h53 [] l59 h58] fun l60 =>
 j40 [nt s37 0,nt s37 1,nt s37 2,nt s37 3] h58 (l60 ++ l39)) fun j36 => fork v35
 (j36 [nt s33 0,nt s33 1,nt s33 2,nt s33 3] h34 [])
 (some ⟨(.exit 0),[nt s33 0,nt s33 1,nt s33 2,nt s33 3],h34,[]⟩)
noncomputable def F_k87 (call:CallF) (lp:LoopF) (x0:Value) (h:H) : Option R3 :=
 al (aBx h.n T_api_Table 4 x0) h fun v0 h1 =>
 al (aNew h1.n T_api_Table [(.string ⟨#[]⟩),(.slice none 0 0),(.string ⟨#[]⟩),(.slice none 0 0)]) h1 fun v2 h3 =>
 ob (rFld 1 v0) fun v4 =>
 ob (rLd1 h3.get v4) fun v5 =>
 hv (call (.fn N_k95) [v5] h3) fun v6 h7 l8 =>
 ob (rFld 1 v0) fun v9 =>
 hv (rStore h7 1 v9 v6) fun v10 h11 l12 =>
 ob (rFld 3 v0) fun v13 =>
 ob (rLd1 h11.get v13) fun v14 =>
 hv (call (.fn N_k96) [v14] h11) fun v15 h16 l17 =>
 ob (rFld 3 v0) fun v18 =>
 hv (rStore h16 1 v18 v15) fun v19 h20 l21 =>
 ob (rFld 3 v0) fun v22 =>
 ob (rLd1 h20.get v22) fun v23 =>
 ob (rLenL v23) fun v24 =>
 jn3 (fun s26 h27 l28 =>
 ob (rLdA h27.get 4 (nt s26 0)) fun v29 =>
 hv (rStore h27 4 (nt s26 1) v29) fun v30 h31 l32 =>
 fin h (rsK (rLdA h31.get 4 (nt s26 1)) (some [])) h31 (l32 ++ l28)) fun j25 =>
 ob (lp (F_k87_L250 call lp) [v0,v2,v24,(.int .i64 0)] h20) fun o61 =>
 onEx o61.ex (j25 [(nt o61.vs 0),(nt o61.vs 1)] o61.h (o61.lg ++ (l21 ++ (l17 ++ (l12 ++ (l8 ++ [])))))) (fun i62 => bif Nat.beq i62 0 then j25 [(nt o61.vs 0),(nt o61.vs 1)] o61.h (o61.lg ++ (l21 ++ (l17 ++ (l12 ++ (l8 ++ []))))) else none) (fin h (rsK (rLdA o61.h.get 4 (nt o61.vs 1)) (some [])) o61.h (o61.lg ++ (l21 ++ (l17 ++ (l12 ++ (l8 ++ []))))))

--
noncomputable def F_k88_L250 (call:CallF) (lp:LoopF) : List Value → H → Option LOut := fun s57 h58 =>
 ob (bI .lss (nt s57 5) (nt s57 4)) fun v59 =>
 jn3 (fun s61 h62 l63 =>
 jn3 (fun s65 h66 l67 =>
 ob (bI .add (nt s65 5) (.int .i64 1)) fun v68 =>
 some ⟨.normal,[nt s65 0,nt s65 1,nt s65 2,nt s65 3,nt s65 4,v68,nt s65 6,nt s65 7,nt s65 8,nt s65 9,nt s65 10],h66,l67⟩) fun j64 =>
 ob (rIdxS 4 (nt s61 3) (nt s61 5)) fun v69 =>
 ob (rLdA h62.get 4 v69) fun v70 =>
 al (aNew h62.n T_api_Col [(.string ⟨#[]⟩),(.int .i64 0),(.bool false),(.string ⟨#[]⟩)]) h62 fun v71 h72 =>
 hv (rStore h72 4 v71 v70) fun v73 h74 l75 =>
 ob (rFld 0 v71) fun v76 =>
 ob (rLd1 h74.get v76) fun v77 =>
 hv (call (.fn N_k126) [v77] h74) fun v78 h79 l80 =>
 ob (unV .not v78) fun v81 =>
 jn3 (fun s83 h84 l85 =>
 ob (rFld 0 (nt s83 3)) fun v86 =>
 ob (rLd1 h84.get v86) fun v87 =>
 al (aBuildS pgB h84.n T_Lstring 1 [(0,v87)]) h84 fun v88 h89 =>
 hv (rApp h89 T_string 1 16 [(.string ⟨#[]⟩)] (nt s83 2) v88) fun v90 h91 l92 =>
 j64 [nt s83 0,nt s83 1,v90,nt s83 4,nt s83 5,nt s83 6,nt s83 7,nt s83 8,nt s83 9,nt s83 10,nt s83 11] h91 (l92 ++ l85)) fun j82 => fork v81
 (some ⟨.ret,[nt s61 0,(.bool false),nt s61 2,nt s61 3,nt s61 4,nt s61 5,nt s61 6,nt s61 7,nt s61 8,nt s61 9,nt s61 10],h79,(l80 ++ (l75 ++ l63))⟩)
 (j82 [nt s61 0,nt s61 1,nt s61 2,v71,nt s61 3,nt s61 4,nt s61 5,nt s61 6,nt s61 7,nt s61 8,nt s61 9,nt s61 10] h79 (l80 ++ (l75 ++ l63)))) fun j60 => fork v59
 (j60 [nt s57 0,nt s57 1,nt s57 2,nt s57 3,nt s57 4,nt s57 5,nt s57 6,nt s57 7,nt s57 8,nt s57 9,nt s57 10] h58 [])
 (some ⟨(.exit 0),[nt s57 0,nt s57 1,nt s57 2,nt s57 3,nt s57 4,nt s57 5,nt s57 6,nt s57 7,nt s57 8,nt s57 9,nt s57 10],h58,[]⟩)
noncomputable def F_k88 (call:CallF) (lp:LoopF) (x0:Value) (x1:Value) (h:H) : Option R3 :=
 al (aBx h.n T_api_Table 4 x1) h fun v0 h1 =>
 ob (rFld 0 v0) fun v2 =>
 ob (rLd1 h1.get v2) fun v3 =>
 hv (call (.fn N_k49) [x0,v3] h1) fun v4 h5 l6 =>
 ob (rExtract 0 v4) fun v7 =>
 ob (rExtract 1 v4) fun v8 =>
 al (aNew h5.n T_api_Table [(.string ⟨#[]⟩),(.slice none 0 0),(.string ⟨#[]⟩),(.slice none 0 0)]) h5 fun v9 h10 =>
 hv (rStore h10 4 v9 v7) fun v11 h12 l13 =>
 gP (gd v8 false) (rFld 0 v0) fun v14 =>
 gP (gd v8 false) (rLd1 h12.get v14) fun v15 =>
 hv (gV (gd v8 false) (call (.fn N_k126) [v15] h12) h12) fun v16 h17 l18 =>
 gP (gd v8 false) (unV .not v16) fun v19 =>
 ob (rPick v8 (.bool true) v19) fun v20 =>
 gP (gd v20 false) (rFld 2 v0) fun v21 =>
 gP (gd v20 false) (rLd1 h17.get v21) fun v22 =>
 gP (gd v20 false) (binV pgB.ty (tyD .string) .neq v22 (.string ⟨#[]⟩)) fun v23 =>
 gP (gd v20 false) (some v23) fun v24 =>
 gP (gd v24 true) (rLdA h17.get 4 v0) fun v25 =>
 gP (gd v24 true) (rFld 2 v0) fun v26 =>
 gP (gd v24 true) (rLd1 h17.get v26) fun v27 =>
 hv (gV (gd v24 true) (call (.fn N_k92) [v25,v27] h17) h17) fun v28 h29 l30 =>
 gP (gd v24 true) (bI .lss v28 (.int .i64 0)) fun v31 =>
 gP (gd v20 false) (rPick v24 v31 (.bool false)) fun v32 =>
 ob (rPick v20 (.bool true) v32) fun v33 =>
 jn3 (fun s35 h36 l37 =>
 ob (rFld 1 (nt s35 0)) fun v38 =>
 ob (rLd1 h36.get v38) fun v39 =>
 ob (rLenL v39) fun v40 =>
 jn3 (fun s42 h43 l44 =>
 hv (call (.fn N_k127) [nt s42 1] h43) fun v45 h46 l47 =>
 ob (unV .not v45) fun v48 =>
 gP (gd v48 true) (rFld 3 (nt s42 0)) fun v49 =>
 gP (gd v48 true) (rLd1 h46.get v49) fun v50 =>
 gP (gd v48 true) (oFunc N_k129 #[] #[nt s42 0]) fun v51 =>
 hv (gV (gd v48 true) (call (.fn N_k128) [v50,v51] h46) h46) fun v52 h53 l54 =>
 gP (gd v48 true) (unV .not v52) fun v55 =>
 ob (rPick v48 v55 (.bool false)) fun v56 =>
 fin h (rsT v56 (some [])) h53 (l54 ++ (l47 ++ l44))) fun j41 =>
 ob (lp (F_k88_L250 call lp) [nt s35 0,nt s35 1,(.slice none 0 0),v39,v40,(.int .i64 0),nt s35 2,nt s35 3,nt s35 4,nt s35 5,nt s35 6] h36) fun o93 =>
 onEx o93.ex (j41 [(nt o93.vs 0),(nt o93.vs 2),(nt o93.vs 6),(nt o93.vs 7),(nt o93.vs 8),(nt o93.vs 9),(nt o93.vs 10)] o93.h (o93.lg ++ l37)) (fun i94 => bif Nat.beq i94 0 then j41 [(nt o93.vs 0),(nt o93.vs 2),(nt o93.vs 6),(nt o93.vs 7),(nt o93.vs 8),(nt o93.vs 9),(nt o93.vs 10)] o93.h (o93.lg ++ l37) else none) (fin h (rsT (nt o93.vs 1) (some [])) o93.h (o93.lg ++ l37))) fun j34 => fork v33
 (fin h (rsT (.bool false) (some [])) h29 (l30 ++ (l18 ++ (l13 ++ (l6 ++ [])))))
 (j34 [v0,(.bool false),poison,poison,poison,poison,poison] h29 (l30 ++ (l18 ++ (l13 ++ (l6 ++ [])))))

--
noncomputable def F_k89 (call:CallF) (lp:LoopF) (x0:Value) (x1:Value) (h:H) : Option R3 :=
 hv (call (.fn N_k124) [x0,x1] h) fun v0 h1 l2 =>
 ob (bI .geq v0 (.int .i64 0)) fun v3 =>
 fin h (rsT v3 (some [])) h1 (l2 ++ [])

--
noncomputable def F_k90 (call:CallF) (lp:LoopF) (x0:Value) (h:H) : Option R3 :=
 al (aBx h.n T_api_Col 4 x0) h fun v0 h1 =>
 ob (rFld 1 v0) fun v2 =>
 ob (rLd1 h1.get v2) fun v3 =>
 ob (bI .neq v3 (.int .i64 1)) fun v4 =>
 gP (gd v4 true) (rFld 1 v0) fun v5 =>
 gP (gd v4 true) (rLd1 h1.get v5) fun v6 =>
 gP (gd v4 true) (bI .neq v6 (.int .i64 2)) fun v7 =>
 ob (rPick v4 v7 (.bool false)) fun v8 =>
 fin h (rsT v8 (some [])) h1 []

--
noncomputable def F_k91_L58 (call:CallF) (lp:LoopF) : List Value → H → Option LOut := fun s9 h10 =>
 ob (bI .lss (nt s9 4) (nt s9 3)) fun v11 =>
 jn3 (fun s13 h14 l15 =>
 jn3 (fun s17 h18 l19 =>
 ob (bI .add (nt s17 4) (.int .i64 1)) fun v20 =>
 some ⟨.normal,[nt s17 0,nt s17 1,nt s17 2,nt s17 3,v20],h18,l19⟩) fun j16 =>
 ob (rIdxS 4 (nt s13 2) (nt s13 4)) fun v21 =>
 ob (rLdA h14.get 4 v21) fun v22 =>
 al (aNew h14.n T_api_Col [(.string ⟨#[]⟩),(.int .i64 0),(.bool false),(.string ⟨#[]⟩)]) h14 fun v23 h24 =>
 hv (rStore h24 4 v23 v22) fun v25 h26 l27 =>
 ob (rFld 3 v23) fun v28 =>
 ob (rLd1 h26.get v28) fun v29 =>
 ob (binV pgB.ty (tyD .string) .eql v29 (.string ⟨#[]⟩)) fun v30 =>
 jn3 (fun s32 h33 l34 =>
 ob (rFld 3 (nt s32 2)) fun v35 =>
 ob (rLd1 h33.get v35) fun v36 =>
 hv (call (.fn N_k49) [nt s32 0,v36] h33) fun v37 h38 l39 =>
 ob (rExtract 0 v37) fun v40 =>
 ob (rExtract 1 v37) fun v41 =>
 al (aNew h38.n T_api_Table [(.string ⟨#[]⟩),(.slice none 0 0),(.string ⟨#[]⟩),(.slice none 0 0)]) h38 fun v42 h43 =>
 hv (rStore h43 4 v42 v40) fun v44 h45 l46 =>
 jn3 (fun s48 h49 l50 =>
 j16 [nt s48 0,nt s48 1,nt s48 2,nt s48 3,nt s48 4] h49 l50) fun j47 =>
 ob (unV .not v41) fun v51 =>
 jn3 (fun s53 h54 l55 =>
 j47 [nt s53 0,nt s53 1,nt s53 2,nt s53 3,nt s53 4] h54 l55) fun j52 => fork v51
 (some ⟨.ret,[nt s32 0,(.int .i64 3),nt s32 3,nt s32 4,nt s32 5],h45,(l46 ++ (l39 ++ l34))⟩)
 (ob (rFld 2 v42) fun v56 =>
 ob (rLd1 h45.get v56) fun v57 =>
 ob (binV pgB.ty (tyD .string) .eql v57 (.string ⟨#[]⟩)) fun v58 =>
 jn3 (fun s60 h61 l62 =>
 j52 [nt s60 0,nt s60 1,nt s60 2,nt s60 3,nt s60 4] h61 l62) fun j59 => fork v58
 (some ⟨.ret,[nt s32 0,(.int .i64 9),nt s32 3,nt s32 4,nt s32 5],h45,(l46 ++ (l39 ++ l34))⟩)
 (ob (rFld 1 v42) fun v63 =>
 ob (rLd1 h45.get v63) fun v64 =>
 ob (rLdA h45.get 4 v42) fun v65 =>
 ob (rFld 2 v42) fun v66 =>
 ob (rLd1 h45.get v66) fun v67 =>
 hv (call (.fn N_k92) [v65,v67] h45) fun v68 h69 l70 =>
 ob (rIdxS 4 v64 v68) fun v71 =>
 ob (rFld 1 v71) fun v72 =>
 ob (rLd1 h69.get v72) fun v73 =>
 ob (rFld 1 (nt s32 2)) fun v74 =>
 ob (rLd1 h69.get v74) fun v75 =>
 ob (bI .neq v73 v75) fun v76 =>
 dr [0,1,0,0,8,28,63,127,255,0,512,2047,4095] [mP h45,mR h45 (rdP v63),mR h45 (rdP v42),mP h45,mR h45 (rdP v66),mH h45 (rdL [v65,v67]) l70 h69,mP h69,mP h69,mR h69 (rdP v72),mP h69,mR h69 (rdP v74),mP h69,mP h69] fun l77 =>
 jn3 (fun s79 h80 l81 =>
 j59 [nt s79 0,nt s79 1,nt s79 2,nt s79 3,nt s79 4] h80 l81) fun j78 => fork v76
 (some ⟨.ret,[nt s32 0,(.int .i64 4),nt s32 3,nt s32 4,nt s32 5],h69,(l77 ++ (l46 ++ (l39 ++ l34)))⟩)
 (j78 [nt s32 0,nt s32 1,nt s32 3,nt s32 4,nt s32 5] h69 (l77 ++ (l46 ++ (l39 ++ l34))))))) fun j31 => fork v30
 (j16 [nt s13 0,nt s13 1,nt s13 2,nt s13 3,nt s13 4] h26 (l27 ++ l15))
 (j31 [nt s13 0,nt s13 1,v23,nt s13 2,nt s13 3,nt s13 4] h26 (l27 ++ l15))) fun j12 => fork v11
 (j12 [nt s9 0,nt s9 1,nt s9 2,nt s9 3,nt s9 4] h10 [])
 (some ⟨(.exit 0),[nt s9 0,nt s9 1,nt s9 2,nt s9 3,nt s9 4],h10,[]⟩)
noncomputable def F_k91 (call:CallF) (lp:LoopF) (x0:Value) (x1:Value) (h:H) : Option R3 :=
 al (aBx h.n T_api_Table 4 x1) h fun v0 h1 =>
 ob (rFld 1 v0) fun v2 =>
 ob (rLd1 h1.get v2) fun v3 =>
 ob (rLenL v3) fun v4 =>
 jn3 (fun s6 h7 l8 =>
 fin h (rsT (.int .i64 0) (some [])) h7 l8) fun j5 =>
 ob (lp (F_k91_L58 call lp) [x0,(.int .i64 0),v3,v4,(.int .i64 0)] h1) fun o82 =>
 onEx o82.ex (j5 [] o82.h (o82.lg ++ [])) (fun i83 => bif Nat.beq i83 0 then j5 [] o82.h (o82.lg ++ []) else none) (fin h (rsT (nt o82.vs 1) (some [])) o82.h (o82.lg ++ []))

--
noncomputable def F_k92 (call:CallF) (lp:LoopF) (x0:Value) (x1:Value) (h:H) : Option R3 :=
 al (aBx h.n T_api_Table 4 x0) h fun v0 h1 =>
 al (aBx h1.n T_string 1 x1) h1 fun v2 h3 =>
 ob (rFld 1 v0) fun v4 =>
 ob (rLd1 h3.get v4) fun v5 =>
 ob (oFunc N_k131 #[] #[v2]) fun v6 =>
 hv (call (.fn N_k124) [v5,v6] h3) fun v7 h8 l9 =>
 fin h (rsT v7 (some [])) h8 (l9 ++ [])

--
noncomputable def F_k93 (call:CallF) (lp:LoopF) (x0:Value) (h:H) : Option R3 :=
 ob (binV pgB.ty (tyD (.pointer 0)) .eql x0 (.pointer none)) fun v0 =>
 jn3 (fun s2 h3 l4 =>
 ob (rNil (nt s2 0)) fun v5 =>
 ob (rFld 1 v5) fun v6 =>
 ob (rLd1 h3.get v6) fun v7 =>
 ob (rLenL v7) fun v8 =>
 fin h (rsT v8 (some [])) h3 l4) fun j1 => fork v0
 (fin h (rsT (.int .i64 0) (some [])) h [])
 (j1 [x0] h [])

--
noncomputable def F_k94 (call:CallF) (lp:LoopF) (x0:Value) (x1:Value) (h:H) : Option R3 :=
 al (aNew h.n T_api_Value [(.int .i64 0),(.int .i64 0),(.string ⟨#[]⟩)]) h fun v0 h1 =>
 ob (bI .lss x1 (.int .i64 0)) fun v2 =>
 gP (gd v2 false) (some x1) fun v3 =>
 gP (gd v2 false) (some x0) fun v4 =>
 hv (gV (gd v2 false) (call (.fn N_k93) [v4] h1) h1) fun v5 h6 l7 =>
 gP (gd v2 false) (bI .geq v3 v5) fun v8 =>
 ob (rPick v2 (.bool true) v8) fun v9 =>
 jn3 (fun s11 h12 l13 =>
 ob (rNil (nt s11 0)) fun v14 =>
 ob (rFld 1 v14) fun v15 =>
 ob (rLd1 h12.get v15) fun v16 =>
 ob (rIdxS 3 v16 (nt s11 1)) fun v17 =>
 ob (rLdA h12.get 3 v17) fun v18 =>
 hv (rStore h12 3 (nt s11 2) v18) fun v19 h20 l21 =>
 fin h (rsK (rLdA h20.get 3 (nt s11 2)) (rsT (.bool true) (some []))) h20 (l21 ++ l13)) fun j10 => fork v9
 (ob (oBuild pgB T_api_Value []) fun v22 =>
 hv (rStore h6 3 v0 v22) fun v23 h24 l25 =>
 fin h (rsK (rLdA h24.get 3 v0) (rsT (.bool false) (some []))) h24 (l25 ++ (l7 ++ [])))
 (j10 [x0,x1,v0] h6 (l7 ++ []))

--
noncomputable def F_k95 (call:CallF) (lp:LoopF) (x0:Value) (h:H) : Option R3 :=
 ob (binV pgB.ty (tyD (.slice 0)) .eql x0 (.slice none 0 0)) fun v0 =>
 jn3 (fun s2 h3 l4 =>
 al (aBuildS pgB h3.n T_Lapi_Col 0 []) h3 fun v5 h6 =>
 hv (rApp h6 T_api_Col 4 48 [(.string ⟨#[]⟩),(.int .i64 0),(.bool false),(.string ⟨#[]⟩)] v5 (nt s2 0)) fun v7 h8 l9 =>
 fin h (rsT v7 (some [])) h8 (l9 ++ l4)) fun j1 => fork v0
 (fin h (rsT (.slice none 0 0) (some [])) h [])
 (j1 [x0] h [])

--
noncomputable def F_k96 (call:CallF) (lp:LoopF) (x0:Value) (h:H) : Option R3 :=
 ob (binV pgB.ty (tyD (.slice 0)) .eql x0 (.slice none 0 0)) fun v0 =>
 jn3 (fun s2 h3 l4 =>
 al (aBuildS pgB h3.n T_Lapi_Dep 0 []) h3 fun v5 h6 =>
 hv (rApp h6 T_api_Dep 2 40 [(.slice none 0 0),(.string ⟨#[]⟩)] v5 (nt s2 0)) fun v7 h8 l9 =>
 fin h (rsT v7 (some [])) h8 (l9 ++ l4)) fun j1 => fork v0
 (fin h (rsT (.slice none 0 0) (some [])) h [])
 (j1 [x0] h [])

--
noncomputable def F_k97 (call:CallF) (lp:LoopF) (x0:Value) (h:H) : Option R3 :=
 ob (binV pgB.ty (tyD (.slice 0)) .eql x0 (.slice none 0 0)) fun v0 =>
 jn3 (fun s2 h3 l4 =>
 al (aBuildS pgB h3.n T_Lstring 0 []) h3 fun v5 h6 =>
 hv (rApp h6 T_string 1 16 [(.string ⟨#[]⟩)] v5 (nt s2 0)) fun v7 h8 l9 =>
 fin h (rsT v7 (some [])) h8 (l9 ++ l4)) fun j1 => fork v0
 (fin h (rsT (.slice none 0 0) (some [])) h [])
 (j1 [x0] h [])

--
noncomputable def F_k98_L3686 (call:CallF) (lp:LoopF) : List Value → H → Option LOut := fun s32 h33 =>
 ob (rIdxA 2 1 (nt s32 1) (.int .i64 1)) fun v34 =>
 ob (rLd1 h33.get v34) fun v35 =>
 ob (bI .lss (nt s32 2) v35) fun v36 =>
 jn3 (fun s38 h39 l40 =>
 jn3 (fun s42 h43 l44 =>
 ob (bI .add (nt s42 2) (.int .i64 1)) fun v45 =>
 some ⟨.normal,[nt s42 0,nt s42 1,v45,nt s42 3,nt s42 4,nt s42 5],h43,l44⟩) fun j41 =>
 hv (callV call h39 (nt s38 0) [nt s38 2]) fun v46 h47 l48 =>
 ob (unV .not v46) fun v49 =>
 jn3 (fun s51 h52 l53 =>
 j41 [nt s51 0,nt s51 1,nt s51 2,nt s51 3,nt s51 4,nt s51 5] h52 l53) fun j50 => fork v49
 (some ⟨.ret,[nt s38 0,nt s38 1,nt s38 2,nt s38 3,nt s38 4,nt s38 5],h47,(l48 ++ l40)⟩)
 (j50 [nt s38 0,nt s38 1,nt s38 2,nt s38 3,nt s38 4,nt s38 5] h47 (l48 ++ l40))) fun j37 => fork v36
 (j37 [nt s32 0,nt s32 1,nt s32 2,nt s32 3,nt s32 4,nt s32 5] h33 [])
 (some ⟨(.exit 2),[nt s32 0,nt s32 1,nt s32 2,nt s32 3,nt s32 4,nt s32 5],h33,[]⟩)
noncomputable def F_k98_L14 (call:CallF) (lp:LoopF) : List Value → H → Option LOut := fun s7 h8 =>
 ob (bI .lss (nt s7 3) (nt s7 2)) fun v9 =>
 jn3 (fun s11 h12 l13 =>
 jn3 (fun s15 h16 l17 =>
 ob (bI .add (nt s15 3) (.int .i64 1)) fun v18 =>
 some ⟨.normal,[nt s15 0,nt s15 1,nt s15 2,v18],h16,l17⟩) fun j14 =>
 ob (rIdxS 2 (nt s11 1) (nt s11 3)) fun v19 =>
 ob (rLdA h12.get 2 v19) fun v20 =>
 al (aNew h12.n T_A2i64 [(.int .i64 0),(.int .i64 0)]) h12 fun v21 h22 =>
 hv (rStore h22 2 v21 v20) fun v23 h24 l25 =>
 ob (rIdxA 2 1 v21 (.int .i64 0)) fun v26 =>
 ob (rLd1 h24.get v26) fun v27 =>
 jn3 (fun s29 h30 l31 =>
 j14 [nt s29 0,nt s29 1,nt s29 2,nt s29 3] h30 l31) fun j28 =>
 ob (lp (F_k98_L3686 call lp) [nt s11 0,v21,v27,nt s11 1,nt s11 2,nt s11 3] h24) fun o54 =>
 onEx o54.ex (j28 [(nt o54.vs 0),(nt o54.vs 3),(nt o54.vs 4),(nt o54.vs 5)] o54.h (o54.lg ++ (l25 ++ l13))) (fun i55 => bif Nat.beq i55 2 then j28 [(nt o54.vs 0),(nt o54.vs 3),(nt o54.vs 4),(nt o54.vs 5)] o54.h (o54.lg ++ (l25 ++ l13)) else bif Nat.beq i55 1 then j14 [(nt o54.vs 0),(nt o54.vs 3),(nt o54.vs 4),(nt o54.vs 5)] o54.h (o54.lg ++ (l25 ++ l13)) else some ⟨(.exit i55),[(nt o54.vs 0),(nt o54.vs 3),(nt o54.vs 4),(nt o54.vs 5)],o54.h,(o54.lg ++ (l25 ++ l13))⟩) (some ⟨.ret,[(nt o54.vs 0),(nt o54.vs 3),(nt o54.vs 4),(nt o54.vs 5)],o54.h,(o54.lg ++ (l25 ++ l13))⟩)) fun j10 => fork v9
 (j10 [nt s7 0,nt s7 1,nt s7 2,nt s7 3] h8 [])
 (some ⟨(.exit 0),[nt s7 0,nt s7 1,nt s7 2,nt s7 3],h8,[]⟩)
noncomputable def F_k98 (call:CallF) (lp:LoopF) (x0:Value) (x1:Value) (h:H) : Option R3 :=
 ob (rFld 0 x1) fun v0 =>
 ob (rLd1 h.get v0) fun v1 =>
 ob (rLenL v1) fun v2 =>
 jn3 (fun s4 h5 l6 =>
 fin h (some []) h5 l6) fun j3 =>
 ob (lp (F_k98_L14 call lp) [x0,v1,v2,(.int .i64 0)] h) fun o56 =>
 onEx o56.ex (j3 [] o56.h (o56.lg ++ [])) (fun i57 => bif Nat.beq i57 0 then j3 [] o56.h (o56.lg ++ []) else none) (fin h (some []) o56.h (o56.lg ++ []))

--
noncomputable def F_k99 (call:CallF) (lp:LoopF) (x0:Value) (x1:Value) (h:H) : Option R3 :=
 al (aBx h.n T_api_Value 3 x0) h fun v0 h1 =>
 al (aBx h1.n T_api_Value 3 x1) h1 fun v2 h3 =>
 ob (rFld 0 v0) fun v4 =>
 ob (rLd1 h3.get v4) fun v5 =>
 ob (rFld 0 v2) fun v6 =>
 ob (rLd1 h3.get v6) fun v7 =>
 hv (call (.fn N_k133) [v5,v7] h3) fun v8 h9 l10 =>
 ob (rFld 1 v0) fun v11 =>
 ob (rLd1 h9.get v11) fun v12 =>
 ob (rFld 1 v2) fun v13 =>
 ob (rLd1 h9.get v13) fun v14 =>
 hv (call (.fn N_k134) [v12,v14] h9) fun v15 h16 l17 =>
 ob (rFld 2 v0) fun v18 =>
 ob (rLd1 h16.get v18) fun v19 =>
 ob (rFld 2 v2) fun v20 =>
 ob (rLd1 h16.get v20) fun v21 =>
 hv (call (.fn N_k135) [v19,v21] h16) fun v22 h23 l24 =>
 al (aBuildS pgB h23.n T_Li64 3 [(0,v8),(1,v15),(2,v22)]) h23 fun v25 h26 =>
 hv (call (.fn N_k132) [v25] h26) fun v27 h28 l29 =>
 dr [0,1,0,4,15,0,32,0,128,511,0,1024,0,4096,16383,32767,65535,131071] [mP h3,mR h3 (rdP v4),mP h3,mR h3 (rdP v6),mH h3 (rdL [v5,v7]) l10 h9,mP h9,mR h9 (rdP v11),mP h9,mR h9 (rdP v13),mH h9 (rdL [v12,v14]) l17 h16,mP h16,mR h16 (rdP v18),mP h16,mR h16 (rdP v20),mH h16 (rdL [v19,v21]) l24 h23,mA h23 [],mH h26 (rdL [v25]) l29 h28,mP h28] fun l30 =>
 fin h (rsT v27 (some [])) h28 (l30 ++ [])

end Go.L1
