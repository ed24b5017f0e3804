/- Texts of a proof: no condition. -/
import Derived.Test.YtmhdgdehbkjhhaaGreatSeatFa
set_option autoImplicit true
set_option relaxedAutoImplicit true
set_option linter.all false
set_option linter.unusedVariables false
set_option linter.unusedSimpArgs false
set_option linter.unusedVariables false
namespace Go.L1
open Go Go.Proofs

--
noncomputable def F_k100 (call:CallF) (lp:LoopF) (x0:Value) (x1:Value) (h:H) : Option R3 :=
 hv (call (.fn N_k136) [x0,x1] h) fun v0 h1 l2 =>
 ob (bI .geq v0 (.int .i64 0)) fun v3 =>
 fin h (rsT v3 (some [])) h1 (l2 ++ [])

--
noncomputable def F_k101 (call:CallF) (lp:LoopF) (x0:Value) (x1:Value) (h:H) : Option R3 :=
 al (aBx h.n T_A2i64 2 x0) h fun v0 h1 =>
 ob (rLd1 h1.get x1) fun v2 =>
 ob (rIdxA 2 1 v0 (.int .i64 0)) fun v3 =>
 ob (rLd1 h1.get v3) fun v4 =>
 ob (bI .geq v2 v4) fun v5 =>
 gP (gd v5 true) (rLd1 h1.get x1) fun v6 =>
 gP (gd v5 true) (rIdxA 2 1 v0 (.int .i64 1)) fun v7 =>
 gP (gd v5 true) (rLd1 h1.get v7) fun v8 =>
 gP (gd v5 true) (bI .lss v6 v8) fun v9 =>
 ob (rPick v5 v9 (.bool false)) fun v10 =>
 fin h (rsT v10 (some [])) h1 []

--
noncomputable def F_k104_L122 (call:CallF) (lp:LoopF) : List Value → H → Option LOut := fun s9 h10 =>
 ob (bI .lss (nt s9 5) (nt s9 4)) fun v11 =>
 jn3 (fun s13 h14 l15 =>
 jn3 (fun s17 h18 l19 =>
 ob (bI .add (nt s17 5) (.int .i64 1)) fun v20 =>
 some ⟨.normal,[nt s17 0,nt s17 1,nt s17 2,nt s17 3,nt s17 4,v20],h18,l19⟩) fun j16 =>
 ob (rIdxS 2 (nt s13 3) (nt s13 5)) fun v21 =>
 ob (rLdA h14.get 2 v21) fun v22 =>
 al (aNew h14.n T_A2i64 [(.int .i64 0),(.int .i64 0)]) h14 fun v23 h24 =>
 hv (rStore h24 2 v23 v22) fun v25 h26 l27 =>
 ob (rIdxA 2 1 v23 (.int .i64 0)) fun v28 =>
 ob (rLd1 h26.get v28) fun v29 =>
 ob (bI .gtr (nt s13 0) v29) fun v30 =>
 jn3 (fun s32 h33 l34 =>
 j16 [nt s32 0,nt s32 1,nt s32 2,nt s32 3,nt s32 4,nt s32 5] h33 l34) fun j31 => fork v30
 (ob (rIdxA 2 1 v23 (.int .i64 1)) fun v35 =>
 ob (rLd1 h26.get v35) fun v36 =>
 ob (foldMM false (nt s13 0) [v36]) fun v37 =>
 ob (rIdxA 2 1 v23 (.int .i64 0)) fun v38 =>
 ob (rLd1 h26.get v38) fun v39 =>
 ob (bI .sub v37 v39) fun v40 =>
 ob (bI .add (nt s13 2) v40) fun v41 =>
 j31 [nt s13 0,nt s13 1,v41,nt s13 3,nt s13 4,nt s13 5] h26 (l27 ++ l15))
 (j31 [nt s13 0,nt s13 1,nt s13 2,nt s13 3,nt s13 4,nt s13 5] h26 (l27 ++ l15))) fun j12 => fork v11
 (j12 [nt s9 0,nt s9 1,nt s9 2,nt s9 3,nt s9 4,nt s9 5] h10 [])
 (some ⟨(.exit 0),[nt s9 0,nt s9 1,nt s9 2,nt s9 3,nt s9 4,nt s9 5],h10,[]⟩)
noncomputable def F_k104 (call:CallF) (lp:LoopF) (x0:Value) (x1:Value) (h:H) : Option R3 :=
 al (aBx h.n T_bitmap_Map 1 x0) h fun v0 h1 =>
 ob (rFld 0 v0) fun v2 =>
 ob (rLd1 h1.get v2) fun v3 =>
 ob (rLenL v3) fun v4 =>
 jn3 (fun s6 h7 l8 =>
 fin h (rsT (nt s6 0) (some [])) h7 l8) fun j5 =>
 ob (lp (F_k104_L122 call lp) [x1,(.int .i64 0),(.int .i64 0),v3,v4,(.int .i64 0)] h1) fun o42 =>
 onEx o42.ex (j5 [(nt o42.vs 2)] o42.h (o42.lg ++ [])) (fun i43 => bif Nat.beq i43 0 then j5 [(nt o42.vs 2)] o42.h (o42.lg ++ []) else none) (fin h (rsT (nt o42.vs 1) (some [])) o42.h (o42.lg ++ []))

--
noncomputable def F_k105 (call:CallF) (lp:LoopF) (x0:Value) (x1:Value) (h:H) : Option R3 :=
 al (aBx h.n T_api_Value 3 x0) h fun v0 h1 =>
 al (aBx h1.n T_api_Value 3 x1) h1 fun v2 h3 =>
 jn3 (fun s5 h6 l7 =>
 fin h (rsT (.int .i64 1) (some [])) h6 l7) fun j4 =>
 ob (rFld 0 v0) fun v8 =>
 ob (rLd1 h3.get v8) fun v9 =>
 ob (rFld 0 v2) fun v10 =>
 ob (rLd1 h3.get v10) fun v11 =>
 ob (bI .lss v9 v11) fun v12 =>
 jn3 (fun s14 h15 l16 =>
 jn3 (fun s18 h19 l20 =>
 j4 [] h19 l20) fun j17 => fork (nt s14 2)
 (fin h (rsT (.int .i64 (-1)) (some [])) h15 l16)
 (ob (rFld 0 (nt s14 0)) fun v21 =>
 ob (rLd1 h15.get v21) fun v22 =>
 ob (rFld 0 (nt s14 1)) fun v23 =>
 ob (rLd1 h15.get v23) fun v24 =>
 ob (bI .eql v22 v24) fun v25 =>
 gP (gd v25 true) (rFld 1 (nt s14 0)) fun v26 =>
 gP (gd v25 true) (rLd1 h15.get v26) fun v27 =>
 gP (gd v25 true) (rFld 1 (nt s14 1)) fun v28 =>
 gP (gd v25 true) (rLd1 h15.get v28) fun v29 =>
 gP (gd v25 true) (bI .eql v27 v29) fun v30 =>
 ob (rPick v25 v30 (.bool false)) fun v31 =>
 gP (gd v31 true) (rFld 2 (nt s14 0)) fun v32 =>
 gP (gd v31 true) (rLd1 h15.get v32) fun v33 =>
 gP (gd v31 true) (rFld 2 (nt s14 1)) fun v34 =>
 gP (gd v31 true) (rLd1 h15.get v34) fun v35 =>
 gP (gd v31 true) (binV pgB.ty (tyD .string) .eql v33 v35) fun v36 =>
 ob (rPick v31 v36 (.bool false)) fun v37 =>
 jn3 (fun s39 h40 l41 =>
 j17 [] h40 l41) fun j38 => fork v37
 (fin h (rsT (.int .i64 0) (some [])) h15 l16)
 (j38 [] h15 l16))) fun j13 => fork v12
 (j13 [v0,v2,v12,poison,poison,poison,poison,poison,poison,poison,poison,poison,poison] h3 [])
 (ob (rFld 0 v0) fun v42 =>
 ob (rLd1 h3.get v42) fun v43 =>
 ob (rFld 0 v2) fun v44 =>
 ob (rLd1 h3.get v44) fun v45 =>
 ob (bI .eql v43 v45) fun v46 =>
 gP (gd v46 true) (rFld 1 v0) fun v47 =>
 gP (gd v46 true) (rLd1 h3.get v47) fun v48 =>
 gP (gd v46 true) (rFld 1 v2) fun v49 =>
 gP (gd v46 true) (rLd1 h3.get v49) fun v50 =>
 gP (gd v46 true) (bI .lss v48 v50) fun v51 =>
 ob (rPick v46 v51 (.bool false)) fun v52 =>
 jn3 (fun s54 h55 l56 =>
 j13 [nt s54 0,nt s54 1,nt s54 2,nt s54 3,nt s54 4,nt s54 5,nt s54 6,nt s54 7,nt s54 8,nt s54 9,nt s54 10,nt s54 11,nt s54 12] h55 l56) fun j53 => fork v52
 (j53 [v0,v2,v52,poison,poison,poison,poison,poison,poison,poison,poison,poison,poison] h3 [])
 (ob (rFld 0 v0) fun v57 =>
 ob (rLd1 h3.get v57) fun v58 =>
 ob (rFld 0 v2) fun v59 =>
 ob (rLd1 h3.get v59) fun v60 =>
 ob (bI .eql v58 v60) fun v61 =>
 gP (gd v61 true) (rFld 1 v0) fun v62 =>
 gP (gd v61 true) (rLd1 h3.get v62) fun v63 =>
 gP (gd v61 true) (rFld 1 v2) fun v64 =>
 gP (gd v61 true) (rLd1 h3.get v64) fun v65 =>
 gP (gd v61 true) (bI .eql v63 v65) fun v66 =>
 ob (rPick v61 v66 (.bool false)) fun v67 =>
 gP (gd v67 true) (rFld 2 v0) fun v68 =>
 gP (gd v67 true) (rLd1 h3.get v68) fun v69 =>
 gP (gd v67 true) (rFld 2 v2) fun v70 =>
 gP (gd v67 true) (rLd1 h3.get v70) fun v71 =>
 gP (gd v67 true) (binV pgB.ty (tyD .string) .lss v69 v71) fun v72 =>
 ob (rPick v67 v72 (.bool false)) fun v73 =>
 j53 [v0,v2,v73,poison,poison,poison,poison,poison,poison,poison,poison,poison,poison] h3 []))

--
noncomputable def F_k106 (call:CallF) (lp:LoopF) (x0:Value) (h:H) : Option R3 :=
 al (aBx h.n T_api_Value 3 x0) h fun v0 h1 =>
 ob (rFld 0 v0) fun v2 =>
 ob (rLd1 h1.get v2) fun v3 =>
 jn3 (fun s5 h6 l7 =>
 fin h (rsT (.bool false) (some [])) h6 l7) fun j4 =>
 ob (bI .eql v3 (.int .i64 0)) fun v8 =>
 jn3 (fun s10 h11 l12 =>
 j4 [] h11 l12) fun j9 => fork v8
 (ob (rFld 1 v0) fun v13 =>
 ob (rLd1 h1.get v13) fun v14 =>
 ob (bI .eql v14 (.int .i64 0)) fun v15 =>
 gP (gd v15 true) (rFld 2 v0) fun v16 =>
 gP (gd v15 true) (rLd1 h1.get v16) fun v17 =>
 gP (gd v15 true) (binV pgB.ty (tyD .string) .eql v17 (.string ⟨#[]⟩)) fun v18 =>
 ob (rPick v15 v18 (.bool false)) fun v19 =>
 fin h (rsT v19 (some [])) h1 [])
 (ob (bI .eql v3 (.int .i64 1)) fun v20 =>
 jn3 (fun s22 h23 l24 =>
 j9 [] h23 l24) fun j21 => fork v20
 (ob (rFld 2 v0) fun v25 =>
 ob (rLd1 h1.get v25) fun v26 =>
 ob (binV pgB.ty (tyD .string) .eql v26 (.string ⟨#[]⟩)) fun v27 =>
 fin h (rsT v27 (some [])) h1 [])
 (ob (bI .eql v3 (.int .i64 2)) fun v28 =>
 jn3 (fun s30 h31 l32 =>
 j21 [] h31 l32) fun j29 => fork v28
 (ob (rFld 1 v0) fun v33 =>
 ob (rLd1 h1.get v33) fun v34 =>
 ob (bI .eql v34 (.int .i64 0)) fun v35 =>
 gP (gd v35 true) (rFld 2 v0) fun v36 =>
 gP (gd v35 true) (rLd1 h1.get v36) fun v37 =>
 hv (gV (gd v35 true) (call (.fn N_k137) [v37] h1) h1) fun v38 h39 l40 =>
 ob (rPick v35 v38 (.bool false)) fun v41 =>
 fin h (rsT v41 (some [])) h39 (l40 ++ []))
 (j29 [] h1 [])))

--
noncomputable def F_k107 (call:CallF) (lp:LoopF) (x0:Value) (x1:Value) (h:H) : Option R3 :=
 al (aBx h.n T_api_Value 3 x1) h fun v0 h1 =>
 ob (binV pgB.ty (tyD (.pointer 0)) .neq x0 (.pointer none)) fun v2 =>
 gP (gd v2 true) (rFld 0 v0) fun v3 =>
 gP (gd v2 true) (rLd1 h1.get v3) fun v4 =>
 gP (gd v2 true) (bI .eql v4 (.int .i64 0)) fun v5 =>
 gP (gd v2 true) (some v5) fun v6 =>
 gP (gd v6 false) (rFld 0 v0) fun v7 =>
 gP (gd v6 false) (rLd1 h1.get v7) fun v8 =>
 gP (gd v6 false) (some x0) fun v9 =>
 gP (gd v6 false) (rNil v9) fun v10 =>
 gP (gd v6 false) (rFld 0 v10) fun v11 =>
 gP (gd v6 false) (rLd1 h1.get v11) fun v12 =>
 gP (gd v6 false) (bI .eql v8 v12) fun v13 =>
 gP (gd v2 true) (rPick v6 (.bool true) v13) fun v14 =>
 ob (rPick v2 v14 (.bool false)) fun v15 =>
 gP (gd v15 true) (rLdA h1.get 3 v0) fun v16 =>
 hv (gV (gd v15 true) (call (.fn N_k106) [v16] h1) h1) fun v17 h18 l19 =>
 ob (rPick v15 v17 (.bool false)) fun v20 =>
 dr [0,1,3,7,15,31,63,127,255,127,639,1663,3711,8191,16383,32767,65535,131071,262143,524287,1048575] [mP h1,mP h1,mP h1,mG (gd v2 true) .pure [] h1 h1 [],mG (gd v2 true) .pure (rdP v3) h1 h1 [],mG (gd v2 true) .pure [] h1 h1 [],mG (gd v2 true) .pure [] h1 h1 [],mG (gd v6 false) .pure [] h1 h1 [],mG (gd v6 false) .pure (rdP v7) h1 h1 [],mG (gd v6 false) .pure [] h1 h1 [],mG (gd v6 false) .pure [] h1 h1 [],mG (gd v6 false) .pure [] h1 h1 [],mG (gd v6 false) .pure (rdP v11) h1 h1 [],mG (gd v6 false) .pure [] h1 h1 [],mG (gd v2 true) .pure [] h1 h1 [],mP h1,mP h1,mG (gd v15 true) .pure (rdP v0) h1 h1 [],mG (gd v15 true) .heavy (rdL [v16]) h1 h18 l19,mP h18,mP h18] fun l21 =>
 fin h (rsT v20 (some [])) h18 (l21 ++ [])

--
noncomputable def F_k108 (call:CallF) (lp:LoopF) (x0:Value) (x1:Value) (h:H) : Option R3 :=
 al (aBx h.n T_api_Value 3 x1) h fun v0 h1 =>
 ob (rFld 0 v0) fun v2 =>
 ob (rLd1 h1.get v2) fun v3 =>
 jn3 (fun s5 h6 l7 =>
 fin h (some []) h6 l7) fun j4 =>
 ob (bI .eql v3 (.int .i64 0)) fun v8 =>
 jn3 (fun s10 h11 l12 =>
 j4 [] h11 l12) fun j9 => fork v8
 (ob (rNil x0) fun v13 =>
 ob (rFld 3 v13) fun v14 =>
 ob (rLd1 h1.get v14) fun v15 =>
 ob (bI .add v15 (.int .i64 1)) fun v16 =>
 ob (rNil x0) fun v17 =>
 ob (rFld 3 v17) fun v18 =>
 hv (rStore h1 1 v18 v16) fun v19 h20 l21 =>
 j9 [] h20 (l21 ++ []))
 (ob (bI .eql v3 (.int .i64 2)) fun v22 =>
 jn3 (fun s24 h25 l26 =>
 j9 [] h25 l26) fun j23 => fork v22
 (ob (rNil x0) fun v27 =>
 ob (rFld 2 v27) fun v28 =>
 ob (rFld 2 v0) fun v29 =>
 ob (rLd1 h1.get v29) fun v30 =>
 hv (call (.fn N_k138) [v28,v30] h1) fun v31 h32 l33 =>
 dr [0,1,3,0,8,31] [mP h1,mP h1,mP h1,mP h1,mR h1 (rdP v29),mH h1 (rdL [v28,v30]) l33 h32] fun l34 =>
 j23 [] h32 (l34 ++ []))
 (j23 [] h1 []))

--
noncomputable def F_k109_L506 (call:CallF) (lp:LoopF) : List Value → H → Option LOut := fun s13 h14 =>
 ob (bI .lss (nt s13 4) (nt s13 3)) fun v15 =>
 jn3 (fun s17 h18 l19 =>
 jn3 (fun s21 h22 l23 =>
 ob (bI .add (nt s21 4) (.int .i64 1)) fun v24 =>
 some ⟨.normal,[nt s21 0,nt s21 1,nt s21 2,nt s21 3,v24],h22,l23⟩) fun j20 =>
 ob (rIdxS 1 (nt s17 2) (nt s17 4)) fun v25 =>
 ob (rLd1 h18.get v25) fun v26 =>
 hv (rApp h18 T_A2i64 2 16 [(.int .i64 0),(.int .i64 0)] (nt s17 1) v26) fun v27 h28 l29 =>
 j20 [nt s17 0,v27,nt s17 2,nt s17 3,nt s17 4] h28 (l29 ++ l19)) fun j16 => fork v15
 (j16 [nt s13 0,nt s13 1,nt s13 2,nt s13 3,nt s13 4] h14 [])
 (some ⟨(.exit 2),[nt s13 0,nt s13 1,nt s13 2,nt s13 3,nt s13 4],h14,[]⟩)
noncomputable def F_k109_L122 (call:CallF) (lp:LoopF) : List Value → H → Option LOut := fun s32 h33 =>
 ob (bI .lss (nt s32 5) (nt s32 4)) fun v34 =>
 jn3 (fun s36 h37 l38 =>
 jn3 (fun s40 h41 l42 =>
 ob (bI .add (nt s40 5) (.int .i64 1)) fun v43 =>
 some ⟨.normal,[nt s40 0,nt s40 1,nt s40 2,nt s40 3,nt s40 4,v43],h41,l42⟩) fun j39 =>
 ob (rIdxS 1 (nt s36 3) (nt s36 5)) fun v44 =>
 ob (rLd1 h37.get v44) fun v45 =>
 ob (rLenL v45) fun v46 =>
 ob (bI .add (nt s36 2) v46) fun v47 =>
 ob (bI .lss v47 (.int .i64 0)) fun v48 =>
 jn3 (fun s50 h51 l52 =>
 j39 [nt s50 0,nt s50 1,nt s50 2,nt s50 3,nt s50 4,nt s50 5] h51 l52) fun j49 => fork v48
 (hv (none) fun v53 h54 l55 =>
 hv (none) fun v56 h57 l58 =>
 j49 [nt s36 0,nt s36 1,v47,nt s36 3,nt s36 4,nt s36 5] h57 (l58 ++ (l55 ++ l38)))
 (j49 [nt s36 0,nt s36 1,v47,nt s36 3,nt s36 4,nt s36 5] h37 l38)) fun j35 => fork v34
 (j35 [nt s32 0,nt s32 1,nt s32 2,nt s32 3,nt s32 4,nt s32 5] h33 [])
 (some ⟨(.exit 0),[nt s32 0,nt s32 1,nt s32 2,nt s32 3,nt s32 4,nt s32 5],h33,[]⟩)
noncomputable def F_k109 (call:CallF) (lp:LoopF) (x0:Value) (h:H) : Option R3 :=
 ob (rLenL x0) fun v0 =>
 jn3 (fun s2 h3 l4 =>
 hv (call (.fn N_k139) [(.slice none 0 0),nt s2 2] h3) fun v5 h6 l7 =>
 ob (rLenL (nt s2 0)) fun v8 =>
 jn3 (fun s10 h11 l12 =>
 fin h (rsT (nt s10 0) (some [])) h11 l12) fun j9 =>
 ob (lp (F_k109_L506 call lp) [nt s2 1,v5,nt s2 0,v8,(.int .i64 0)] h6) fun o30 =>
 onEx o30.ex (j9 [(nt o30.vs 1)] o30.h (o30.lg ++ (l7 ++ l4))) (fun i31 => bif Nat.beq i31 2 then j9 [(nt o30.vs 1)] o30.h (o30.lg ++ (l7 ++ l4)) else none) (fin h (rsT (nt o30.vs 0) (some [])) o30.h (o30.lg ++ (l7 ++ l4)))) fun j1 =>
 ob (lp (F_k109_L122 call lp) [x0,(.slice none 0 0),(.int .i64 0),x0,v0,(.int .i64 0)] h) fun o59 =>
 onEx o59.ex (j1 [(nt o59.vs 0),(nt o59.vs 1),(nt o59.vs 2)] o59.h (o59.lg ++ [])) (fun i60 => bif Nat.beq i60 0 then j1 [(nt o59.vs 0),(nt o59.vs 1),(nt o59.vs 2)] o59.h (o59.lg ++ []) else none) (fin h (rsT (nt o59.vs 1) (some [])) o59.h (o59.lg ++ []))

--
noncomputable def F_k110 (call:CallF) (lp:LoopF) (x0:Value) (x1:Value) (h:H) : Option R3 :=
 ob (rLenL x0) fun v0 =>
 ob (rCvI .u64 v0) fun v1 =>
 hv (call (.fn N_k141) [v1] h) fun v2 h3 l4 =>
 hv (call (.fn N_k140) [x0,(.int .i64 0),v0,v2,x1] h3) fun v5 h6 l7 =>
 fin h (some []) h6 (l7 ++ (l4 ++ []))

--
noncomputable def F_k111 (call:CallF) (lp:LoopF) (x0:Value) (x1:Value) (h:H) : Option R3 :=
 al (aBx h.n T_A2i64 2 x0) h fun v0 h1 =>
 al (aBx h1.n T_A2i64 2 x1) h1 fun v2 h3 =>
 ob (rIdxA 2 1 v0 (.int .i64 0)) fun v4 =>
 ob (rLd1 h3.get v4) fun v5 =>
 ob (rIdxA 2 1 v2 (.int .i64 0)) fun v6 =>
 ob (rLd1 h3.get v6) fun v7 =>
 ob (bI .sub v5 v7) fun v8 =>
 fin h (rsT v8 (some [])) h3 []

--
noncomputable def F_k112 (call:CallF) (lp:LoopF) (x0:Value) (x1:Value) (x2:Value) (h:H) : Option R3 :=
 ob (rNil x0) fun v0 =>
 ob (rFld 0 v0) fun v1 =>
 ob (rLd1 h.get v1) fun v2 =>
 ob (rLenL v2) fun v3 =>
 ob (bI .gtr v3 (.int .i64 0)) fun v4 =>
 gP (gd v4 true) (some x1) fun v5 =>
 gP (gd v4 true) (some x0) fun v6 =>
 gP (gd v4 true) (rNil v6) fun v7 =>
 gP (gd v4 true) (rFld 0 v7) fun v8 =>
 gP (gd v4 true) (rLd1 h.get v8) fun v9 =>
 gP (gd v4 true) (some v3) fun v10 =>
 gP (gd v4 true) (bI .sub v10 (.int .i64 1)) fun v11 =>
 gP (gd v4 true) (rIdxS 2 v9 v11) fun v12 =>
 gP (gd v4 true) (rIdxA 2 1 v12 (.int .i64 1)) fun v13 =>
 gP (gd v4 true) (rLd1 h.get v13) fun v14 =>
 gP (gd v4 true) (bI .leq v5 v14) fun v15 =>
 ob (rPick v4 v15 (.bool false)) fun v16 =>
 jn3 (fun s18 h19 l20 =>
 fin h (some []) h19 l20) fun j17 => fork v16
 (ob (rNil x0) fun v21 =>
 ob (rFld 0 v21) fun v22 =>
 ob (rLd1 h.get v22) fun v23 =>
 ob (bI .sub v3 (.int .i64 1)) fun v24 =>
 ob (rNil x0) fun v25 =>
 ob (rFld 0 v25) fun v26 =>
 ob (rLd1 h.get v26) fun v27 =>
 ob (bI .sub v3 (.int .i64 1)) fun v28 =>
 ob (rIdxS 2 v27 v28) fun v29 =>
 ob (rIdxA 2 1 v29 (.int .i64 1)) fun v30 =>
 ob (rLd1 h.get v30) fun v31 =>
 ob (foldMM true v31 [x2]) fun v32 =>
 ob (rIdxS 2 v23 v24) fun v33 =>
 ob (rIdxA 2 1 v33 (.int .i64 1)) fun v34 =>
 hv (rStore h 1 v34 v32) fun v35 h36 l37 =>
 dr [0,1,3,7,0,16,0,64,192,448,0,1024,4032,8128,16320,0,65472,63,262143,524287] [mP h,mP h,mP h,mR h (rdP v22),mP h,mP h,mP h,mP h,mP h,mR h (rdP v26),mP h,mP h,mP h,mP h,mR h (rdP v30),mP h,mR h (rdL [v31,x2]),mP h,mP h,mH h [] l37 h36] fun l38 =>
 j17 [] h36 (l38 ++ []))
 (ob (bI .lss x1 x2) fun v39 =>
 jn3 (fun s41 h42 l43 =>
 j17 [] h42 l43) fun j40 => fork v39
 (ob (rNil x0) fun v44 =>
 ob (rFld 0 v44) fun v45 =>
 ob (rLd1 h.get v45) fun v46 =>
 ob (oBuild pgB T_A2i64 [(0,x1),(1,x2)]) fun v47 =>
 al (aBuildS pgB h.n T_LA2i64 1 [(0,v47)]) h fun v48 h49 =>
 hv (rApp h49 T_A2i64 2 16 [(.int .i64 0),(.int .i64 0)] v46 v48) fun v50 h51 l52 =>
 ob (rNil x0) fun v53 =>
 ob (rFld 0 v53) fun v54 =>
 hv (rStore h51 1 v54 v50) fun v55 h56 l57 =>
 j40 [] h56 (l57 ++ (l52 ++ [])))
 (j40 [] h []))

--
noncomputable def F_k113 (call:CallF) (lp:LoopF) (x0:Value) (h:H) : Option R3 :=
 ob (binV pgB.ty (tyD (.slice 0)) .eql x0 (.slice none 0 0)) fun v0 =>
 jn3 (fun s2 h3 l4 =>
 al (aBuildS pgB h3.n T_Li64 0 []) h3 fun v5 h6 =>
 hv (rApp h6 T_i64_b 1 8 [(.int .i64 0)] v5 (nt s2 0)) fun v7 h8 l9 =>
 fin h (rsT v7 (some [])) h8 (l9 ++ l4)) fun j1 => fork v0
 (fin h (rsT (.slice none 0 0) (some [])) h [])
 (j1 [x0] h [])

--
noncomputable def F_k114 (call:CallF) (lp:LoopF) (x0:Value) (h:H) : Option R3 :=
 ob (rLenL x0) fun v0 =>
 ob (rCvI .u64 v0) fun v1 =>
 hv (call (.fn N_k141) [v1] h) fun v2 h3 l4 =>
 hv (call (.fn N_k142) [x0,(.int .i64 0),v0,v2] h3) fun v5 h6 l7 =>
 fin h (some []) h6 (l7 ++ (l4 ++ []))

--
noncomputable def F_k115 (call:CallF) (lp:LoopF) (h:H) : Option R3 :=
 al (aNew h.n T_api_Table [(.string ⟨#[]⟩),(.slice none 0 0),(.string ⟨#[]⟩),(.slice none 0 0)]) h fun v0 h1 =>
 hv (call (.fn N_k38) [] h1) fun v2 h3 l4 =>
 ob (rIdxS 4 v2 (.int .i64 1)) fun v5 =>
 ob (rLdA h3.get 4 v5) fun v6 =>
 hv (call (.fn N_k80) [v6] h3) fun v7 h8 l9 =>
 hv (rStore h8 4 v0 v7) fun v10 h11 l12 =>
 fin h (rsK (rLdA h11.get 4 v0) (some [])) h11 (l12 ++ (l9 ++ (l4 ++ [])))

--
noncomputable def F_k116 (call:CallF) (lp:LoopF) (x0:Value) (x1:Value) (h:H) : Option R3 :=
 ob (oBuild pgB T_api_Value [(0,(.int .i64 1)),(1,x0)]) fun v0 =>
 ob (oBuild pgB T_api_Value [(0,(.int .i64 2)),(2,x1)]) fun v1 =>
 ob (oBuild pgB T_api_Value []) fun v2 =>
 ob (oBuild pgB T_api_Value []) fun v3 =>
 al (aBuildS pgB h.n T_Lapi_Value 4 [(0,v0),(1,v1),(2,v2),(3,v3)]) h fun v4 h5 =>
 fin h (rsT v4 (some [])) h5 []

--
noncomputable def F_k117 (call:CallF) (lp:LoopF) (x0:Value) (x1:Value) (h:H) : Option R3 :=
 hv (call (.fn N_k84) [x0,x1] h) fun v0 h1 l2 =>
 ob (bI .lss v0 (.int .i64 0)) fun v3 =>
 jn3 (fun s5 h6 l7 =>
 ob (rNil (nt s5 0)) fun v8 =>
 ob (rFld 4 v8) fun v9 =>
 ob (rLd1 h6.get v9) fun v10 =>
 ob (rIdxS 1 v10 (nt s5 1)) fun v11 =>
 ob (rLd1 h6.get v11) fun v12 =>
 hv (call (.fn N_k143) [v12] h6) fun v13 h14 l15 =>
 fin h (rsT v13 (some [])) h14 (l15 ++ l7)) fun j4 => fork v3
 (fin h (rsT (.int .i64 0) (some [])) h1 (l2 ++ []))
 (j4 [x0,v0] h1 (l2 ++ []))

--
noncomputable def F_k118 (call:CallF) (lp:LoopF) (x0:Value) (h:H) : Option R3 :=
 ob (bI .neq x0 (.int .i64 1)) fun v0 =>
 gP (gd v0 true) (some x0) fun v1 =>
 gP (gd v0 true) (bI .neq v1 (.int .i64 2)) fun v2 =>
 ob (rPick v0 v2 (.bool false)) fun v3 =>
 jn3 (fun s5 h6 l7 =>
 ob (oBuild pgB T_column_Column [(0,(nt s5 0))]) fun v8 =>
 al (aBx h6.n T_column_Column 4 v8) h6 fun v9 h10 =>
 fin h (rsT v9 (some [])) h10 l7) fun j4 => fork v3
 (fin h (rsT (.pointer none) (some [])) h [])
 (j4 [x0] h [])

--
noncomputable def F_k119_L16590630 (call:CallF) (lp:LoopF) : List Value → H → Option LOut := fun s134 h135 =>
 ob (bI .lss (nt s134 5) (nt s134 4)) fun v136 =>
 jn3 (fun s138 h139 l140 =>
 jn3 (fun s142 h143 l144 =>
 ob (bI .add (nt s142 5) (.int .i64 1)) fun v145 =>
 some ⟨.normal,[nt s142 0,nt s142 1,nt s142 2,nt s142 3,nt s142 4,v145,nt s142 6,nt s142 7,nt s142 8,nt s142 9,nt s142 10,nt s142 11,nt s142 12,nt s142 13,nt s142 14,nt s142 15,nt s142 16,nt s142 17,nt s142 18,nt s142 19,nt s142 20,nt s142 21,nt s142 22],h143,l144⟩) fun j141 =>
 ob (rFld 0 (nt s138 3)) fun v146 =>
 ob (rLd1 h139.get v146) fun v147 =>
 ob (rIdxS 1 v147 (nt s138 5)) fun v148 =>
 ob (rLd1 h139.get v148) fun v149 =>
 ob (rFld 0 (nt s138 3)) fun v150 =>
 ob (rLd1 h139.get v150) fun v151 =>
 ob (rIdxS 1 v151 (nt s138 4)) fun v152 =>
 ob (rLd1 h139.get v152) fun v153 =>
 ob (binV pgB.ty (tyD .string) .eql v149 v153) fun v154 =>
 dr [0,1,0,7,15,0,32,0,224,480,1023] [mP h139,mR h139 (rdP v146),mP h139,mP h139,mR h139 (rdP v148),mP h139,mR h139 (rdP v150),mP h139,mP h139,mR h139 (rdP v152),mP h139] fun l155 =>
 jn3 (fun s157 h158 l159 =>
 j141 [nt s157 0,nt s157 1,nt s157 2,nt s157 3,nt s157 4,nt s157 5,nt s157 6,nt s157 7,nt s157 8,nt s157 9,nt s157 10,nt s157 11,nt s157 12,nt s157 13,nt s157 14,nt s157 15,nt s157 16,nt s157 17,nt s157 18,nt s157 19,nt s157 20,nt s157 21,nt s157 22] h158 l159) fun j156 => fork v154
 (some ⟨.ret,[nt s138 0,(.bool false),nt s138 2,nt s138 3,nt s138 4,nt s138 5,nt s138 6,nt s138 7,nt s138 8,nt s138 9,nt s138 10,nt s138 11,nt s138 12,nt s138 13,nt s138 14,nt s138 15,nt s138 16,nt s138 17,nt s138 18,nt s138 19,nt s138 20,nt s138 21,nt s138 22],h139,(l155 ++ l140)⟩)
 (j156 [nt s138 0,nt s138 1,nt s138 2,nt s138 3,nt s138 4,nt s138 5,nt s138 6,nt s138 7,nt s138 8,nt s138 9,nt s138 10,nt s138 11,nt s138 12,nt s138 13,nt s138 14,nt s138 15,nt s138 16,nt s138 17,nt s138 18,nt s138 19,nt s138 20,nt s138 21,nt s138 22] h139 (l155 ++ l140))) fun j137 => fork v136
 (j137 [nt s134 0,nt s134 1,nt s134 2,nt s134 3,nt s134 4,nt s134 5,nt s134 6,nt s134 7,nt s134 8,nt s134 9,nt s134 10,nt s134 11,nt s134 12,nt s134 13,nt s134 14,nt s134 15,nt s134 16,nt s134 17,nt s134 18,nt s134 19,nt s134 20,nt s134 21,nt s134 22] h135 [])
 (some ⟨(.exit 6),[nt s134 0,nt s134 1,nt s134 2,nt s134 3,nt s134 4,nt s134 5,nt s134 6,nt s134 7,nt s134 8,nt s134 9,nt s134 10,nt s134 11,nt s134 12,nt s134 13,nt s134 14,nt s134 15,nt s134 16,nt s134 17,nt s134 18,nt s134 19,nt s134 20,nt s134 21,nt s134 22],h135,[]⟩)
noncomputable def F_k119_L129614 (call:CallF) (lp:LoopF) : List Value → H → Option LOut := fun s92 h93 =>
 ob (rFld 0 (nt s92 3)) fun v94 =>
 ob (rLd1 h93.get v94) fun v95 =>
 ob (rLenL v95) fun v96 =>
 ob (bI .lss (nt s92 4) v96) fun v97 =>
 jn3 (fun s99 h100 l101 =>
 jn3 (fun s103 h104 l105 =>
 ob (bI .add (nt s103 4) (.int .i64 1)) fun v106 =>
 some ⟨.normal,[nt s103 0,nt s103 1,nt s103 2,nt s103 3,v106,nt s103 5,nt s103 6,nt s103 7,nt s103 8,nt s103 9,nt s103 10,nt s103 11,nt s103 12,nt s103 13,nt s103 14,nt s103 15,nt s103 16,nt s103 17,nt s103 18,nt s103 19,nt s103 20,nt s103 21],h104,l105⟩) fun j102 =>
 ob (rLdA h100.get 4 (nt s99 0)) fun v107 =>
 ob (rFld 0 (nt s99 3)) fun v108 =>
 ob (rLd1 h100.get v108) fun v109 =>
 ob (rIdxS 1 v109 (nt s99 4)) fun v110 =>
 ob (rLd1 h100.get v110) fun v111 =>
 hv (call (.fn N_k57) [v107,v111] h100) fun v112 h113 l114 =>
 ob (bI .lss v112 (.int .i64 0)) fun v115 =>
 gP (gd v115 false) (rFld 0 (nt s99 3)) fun v116 =>
 gP (gd v115 false) (rLd1 h113.get v116) fun v117 =>
 gP (gd v115 false) (some (nt s99 4)) fun v118 =>
 gP (gd v115 false) (rIdxS 1 v117 v118) fun v119 =>
 gP (gd v115 false) (rLd1 h113.get v119) fun v120 =>
 gP (gd v115 false) (rFld 1 (nt s99 3)) fun v121 =>
 gP (gd v115 false) (rLd1 h113.get v121) fun v122 =>
 gP (gd v115 false) (binV pgB.ty (tyD .string) .eql v120 v122) fun v123 =>
 ob (rPick v115 (.bool true) v123) fun v124 =>
 dr [0,0,2,0,14,30,63,127,255,511,1023,511,4095,8191,511,16895,65535,131071] [mR h100 (rdP (nt s99 0)),mP h100,mR h100 (rdP v108),mP h100,mP h100,mR h100 (rdP v110),mH h100 (rdL [v107,v111]) l114 h113,mP h113,mP h113,mG (gd v115 false) .pure [] h113 h113 [],mG (gd v115 false) .pure (rdP v116) h113 h113 [],mG (gd v115 false) .pure [] h113 h113 [],mG (gd v115 false) .pure [] h113 h113 [],mG (gd v115 false) .pure (rdP v119) h113 h113 [],mG (gd v115 false) .pure [] h113 h113 [],mG (gd v115 false) .pure (rdP v121) h113 h113 [],mG (gd v115 false) .pure [] h113 h113 [],mP h113] fun l125 =>
 jn3 (fun s127 h128 l129 =>
 jn3 (fun s131 h132 l133 =>
 j102 [nt s131 0,nt s131 1,nt s131 2,nt s131 3,nt s131 4,nt s131 5,nt s131 6,nt s131 7,nt s131 8,nt s131 9,nt s131 10,nt s131 11,nt s131 12,nt s131 13,nt s131 14,nt s131 15,nt s131 16,nt s131 17,nt s131 18,nt s131 19,nt s131 20,nt s131 21] h132 l133) fun j130 =>
 ob (lp (F_k119_L16590630 call lp) [nt s127 0,nt s127 1,nt s127 2,nt s127 3,nt s127 4,(.int .i64 0),nt s127 5,nt s127 6,nt s127 7,nt s127 8,nt s127 9,nt s127 10,nt s127 11,nt s127 12,nt s127 13,nt s127 14,nt s127 15,nt s127 16,nt s127 17,nt s127 18,nt s127 19,nt s127 20,nt s127 21] h128) fun o160 =>
 onEx o160.ex (j130 [(nt o160.vs 0),(nt o160.vs 1),(nt o160.vs 2),(nt o160.vs 3),(nt o160.vs 4),(nt o160.vs 6),(nt o160.vs 7),(nt o160.vs 8),(nt o160.vs 9),(nt o160.vs 10),(nt o160.vs 11),(nt o160.vs 12),(nt o160.vs 13),(nt o160.vs 14),(nt o160.vs 15),(nt o160.vs 16),(nt o160.vs 17),(nt o160.vs 18),(nt o160.vs 19),(nt o160.vs 20),(nt o160.vs 21),(nt o160.vs 22)] o160.h (o160.lg ++ l129)) (fun i161 => bif Nat.beq i161 6 then j130 [(nt o160.vs 0),(nt o160.vs 1),(nt o160.vs 2),(nt o160.vs 3),(nt o160.vs 4),(nt o160.vs 6),(nt o160.vs 7),(nt o160.vs 8),(nt o160.vs 9),(nt o160.vs 10),(nt o160.vs 11),(nt o160.vs 12),(nt o160.vs 13),(nt o160.vs 14),(nt o160.vs 15),(nt o160.vs 16),(nt o160.vs 17),(nt o160.vs 18),(nt o160.vs 19),(nt o160.vs 20),(nt o160.vs 21),(nt o160.vs 22)] o160.h (o160.lg ++ l129) else bif Nat.beq i161 5 then j102 [(nt o160.vs 0),(nt o160.vs 1),(nt o160.vs 2),(nt o160.vs 3),(nt o160.vs 4),(nt o160.vs 6),(nt o160.vs 7),(nt o160.vs 8),(nt o160.vs 9),(nt o160.vs 10),(nt o160.vs 11),(nt o160.vs 12),(nt o160.vs 13),(nt o160.vs 14),(nt o160.vs 15),(nt o160.vs 16),(nt o160.vs 17),(nt o160.vs 18),(nt o160.vs 19),(nt o160.vs 20),(nt o160.vs 21),(nt o160.vs 22)] o160.h (o160.lg ++ l129) else some ⟨(.exit i161),[(nt o160.vs 0),(nt o160.vs 1),(nt o160.vs 2),(nt o160.vs 3),(nt o160.vs 4),(nt o160.vs 6),(nt o160.vs 7),(nt o160.vs 8),(nt o160.vs 9),(nt o160.vs 10),(nt o160.vs 11),(nt o160.vs 12),(nt o160.vs 13),(nt o160.vs 14),(nt o160.vs 15),(nt o160.vs 16),(nt o160.vs 17),(nt o160.vs 18),(nt o160.vs 19),(nt o160.vs 20),(nt o160.vs 21),(nt o160.vs 22)],o160.h,(o160.lg ++ l129)⟩) (some ⟨.ret,[(nt o160.vs 0),(nt o160.vs 1),(nt o160.vs 2),(nt o160.vs 3),(nt o160.vs 4),(nt o160.vs 6),(nt o160.vs 7),(nt o160.vs 8),(nt o160.vs 9),(nt o160.vs 10),(nt o160.vs 11),(nt o160.vs 12),(nt o160.vs 13),(nt o160.vs 14),(nt o160.vs 15),(nt o160.vs 16),(nt o160.vs 17),(nt o160.vs 18),(nt o160.vs 19),(nt o160.vs 20),(nt o160.vs 21),(nt o160.vs 22)],o160.h,(o160.lg ++ l129)⟩)) fun j126 => fork v124
 (some ⟨.ret,[nt s99 0,(.bool false),nt s99 2,nt s99 3,nt s99 4,nt s99 5,nt s99 6,nt s99 7,nt s99 8,nt s99 9,nt s99 10,nt s99 11,nt s99 12,nt s99 13,v116,v117,v118,v119,v120,v121,v122,v123],h113,(l125 ++ l101)⟩)
 (j126 [nt s99 0,nt s99 1,nt s99 2,nt s99 3,nt s99 4,nt s99 5,nt s99 6,nt s99 7,nt s99 8,nt s99 9,nt s99 10,nt s99 11,nt s99 12,nt s99 13,v116,v117,v118,v119,v120,v121,v122,v123] h113 (l125 ++ l101))) fun j98 => fork v97
 (j98 [nt s92 0,nt s92 1,nt s92 2,nt s92 3,nt s92 4,nt s92 5,nt s92 6,nt s92 7,nt s92 8,nt s92 9,nt s92 10,nt s92 11,nt s92 12,nt s92 13,nt s92 14,nt s92 15,nt s92 16,nt s92 17,nt s92 18,nt s92 19,nt s92 20,nt s92 21] h93 [])
 (some ⟨(.exit 4),[nt s92 0,nt s92 1,nt s92 2,nt s92 3,nt s92 4,nt s92 5,nt s92 6,nt s92 7,nt s92 8,nt s92 9,nt s92 10,nt s92 11,nt s92 12,nt s92 13,nt s92 14,nt s92 15,nt s92 16,nt s92 17,nt s92 18,nt s92 19,nt s92 20,nt s92 21],h93,[]⟩)
noncomputable def F_k119_L506 (call:CallF) (lp:LoopF) : List Value → H → Option LOut := fun s43 h44 =>
 ob (rFld 3 (nt s43 0)) fun v45 =>
 ob (rLd1 h44.get v45) fun v46 =>
 ob (rLenL v46) fun v47 =>
 ob (bI .lss (nt s43 2) v47) fun v48 =>
 jn3 (fun s50 h51 l52 =>
 jn3 (fun s54 h55 l56 =>
 ob (bI .add (nt s54 2) (.int .i64 1)) fun v57 =>
 some ⟨.normal,[nt s54 0,nt s54 1,v57,nt s54 3,nt s54 4,nt s54 5,nt s54 6,nt s54 7,nt s54 8,nt s54 9,nt s54 10,nt s54 11,nt s54 12,nt s54 13,nt s54 14,nt s54 15,nt s54 16,nt s54 17,nt s54 18,nt s54 19],h55,l56⟩) fun j53 =>
 ob (rFld 3 (nt s50 0)) fun v58 =>
 ob (rLd1 h51.get v58) fun v59 =>
 ob (rIdxS 2 v59 (nt s50 2)) fun v60 =>
 ob (rLdA h51.get 2 v60) fun v61 =>
 al (aNew h51.n T_api_Dep [(.slice none 0 0),(.string ⟨#[]⟩)]) h51 fun v62 h63 =>
 hv (rStore h63 2 v62 v61) fun v64 h65 l66 =>
 ob (rFld 0 v62) fun v67 =>
 ob (rLd1 h65.get v67) fun v68 =>
 ob (rLenL v68) fun v69 =>
 ob (bI .lss v69 (.int .i64 1)) fun v70 =>
 gP (gd v70 false) (rFld 0 v62) fun v71 =>
 gP (gd v70 false) (rLd1 h65.get v71) fun v72 =>
 gP (gd v70 false) (rLenL v72) fun v73 =>
 gP (gd v70 false) (bI .gtr v73 (.int .i64 3)) fun v74 =>
 ob (rPick v70 (.bool true) v74) fun v75 =>
 gP (gd v75 false) (rLdA h65.get 4 (nt s50 0)) fun v76 =>
 gP (gd v75 false) (rFld 1 v62) fun v77 =>
 gP (gd v75 false) (rLd1 h65.get v77) fun v78 =>
 hv (gV (gd v75 false) (call (.fn N_k57) [v76,v78] h65) h65) fun v79 h80 l81 =>
 gP (gd v75 false) (bI .lss v79 (.int .i64 0)) fun v82 =>
 ob (rPick v75 (.bool true) v82) fun v83 =>
 jn3 (fun s85 h86 l87 =>
 jn3 (fun s89 h90 l91 =>
 j53 [nt s89 0,nt s89 1,nt s89 2,nt s89 3,nt s89 4,nt s89 5,nt s89 6,nt s89 7,nt s89 8,nt s89 9,nt s89 10,nt s89 11,nt s89 12,nt s89 13,nt s89 14,nt s89 15,nt s89 16,nt s89 17,nt s89 18,nt s89 19] h90 l91) fun j88 =>
 ob (lp (F_k119_L129614 call lp) [nt s85 0,nt s85 1,nt s85 2,nt s85 3,(.int .i64 0),nt s85 4,nt s85 5,nt s85 6,nt s85 7,nt s85 8,nt s85 9,nt s85 10,nt s85 11,nt s85 12,nt s85 13,nt s85 14,nt s85 15,nt s85 16,nt s85 17,nt s85 18,nt s85 19,nt s85 20] h86) fun o162 =>
 onEx o162.ex (j88 [(nt o162.vs 0),(nt o162.vs 1),(nt o162.vs 2),(nt o162.vs 5),(nt o162.vs 6),(nt o162.vs 7),(nt o162.vs 8),(nt o162.vs 9),(nt o162.vs 10),(nt o162.vs 11),(nt o162.vs 12),(nt o162.vs 13),(nt o162.vs 14),(nt o162.vs 15),(nt o162.vs 16),(nt o162.vs 17),(nt o162.vs 18),(nt o162.vs 19),(nt o162.vs 20),(nt o162.vs 21)] o162.h (o162.lg ++ l87)) (fun i163 => bif Nat.beq i163 4 then j88 [(nt o162.vs 0),(nt o162.vs 1),(nt o162.vs 2),(nt o162.vs 5),(nt o162.vs 6),(nt o162.vs 7),(nt o162.vs 8),(nt o162.vs 9),(nt o162.vs 10),(nt o162.vs 11),(nt o162.vs 12),(nt o162.vs 13),(nt o162.vs 14),(nt o162.vs 15),(nt o162.vs 16),(nt o162.vs 17),(nt o162.vs 18),(nt o162.vs 19),(nt o162.vs 20),(nt o162.vs 21)] o162.h (o162.lg ++ l87) else bif Nat.beq i163 3 then j53 [(nt o162.vs 0),(nt o162.vs 1),(nt o162.vs 2),(nt o162.vs 5),(nt o162.vs 6),(nt o162.vs 7),(nt o162.vs 8),(nt o162.vs 9),(nt o162.vs 10),(nt o162.vs 11),(nt o162.vs 12),(nt o162.vs 13),(nt o162.vs 14),(nt o162.vs 15),(nt o162.vs 16),(nt o162.vs 17),(nt o162.vs 18),(nt o162.vs 19),(nt o162.vs 20),(nt o162.vs 21)] o162.h (o162.lg ++ l87) else some ⟨(.exit i163),[(nt o162.vs 0),(nt o162.vs 1),(nt o162.vs 2),(nt o162.vs 5),(nt o162.vs 6),(nt o162.vs 7),(nt o162.vs 8),(nt o162.vs 9),(nt o162.vs 10),(nt o162.vs 11),(nt o162.vs 12),(nt o162.vs 13),(nt o162.vs 14),(nt o162.vs 15),(nt o162.vs 16),(nt o162.vs 17),(nt o162.vs 18),(nt o162.vs 19),(nt o162.vs 20),(nt o162.vs 21)],o162.h,(o162.lg ++ l87)⟩) (some ⟨.ret,[(nt o162.vs 0),(nt o162.vs 1),(nt o162.vs 2),(nt o162.vs 5),(nt o162.vs 6),(nt o162.vs 7),(nt o162.vs 8),(nt o162.vs 9),(nt o162.vs 10),(nt o162.vs 11),(nt o162.vs 12),(nt o162.vs 13),(nt o162.vs 14),(nt o162.vs 15),(nt o162.vs 16),(nt o162.vs 17),(nt o162.vs 18),(nt o162.vs 19),(nt o162.vs 20),(nt o162.vs 21)],o162.h,(o162.lg ++ l87)⟩)) fun j84 => fork v83
 (some ⟨.ret,[nt s50 0,(.bool false),nt s50 2,v71,v72,v73,v74,v76,v77,v78,v79,v82,nt s50 12,nt s50 13,nt s50 14,nt s50 15,nt s50 16,nt s50 17,nt s50 18,nt s50 19],h80,(l81 ++ (l66 ++ l52))⟩)
 (j84 [nt s50 0,nt s50 1,nt s50 2,v62,v71,v72,v73,v74,v76,v77,v78,v79,v82,nt s50 12,nt s50 13,nt s50 14,nt s50 15,nt s50 16,nt s50 17,nt s50 18,nt s50 19] h80 (l81 ++ (l66 ++ l52)))) fun j49 => fork v48
 (j49 [nt s43 0,nt s43 1,nt s43 2,nt s43 3,nt s43 4,nt s43 5,nt s43 6,nt s43 7,nt s43 8,nt s43 9,nt s43 10,nt s43 11,nt s43 12,nt s43 13,nt s43 14,nt s43 15,nt s43 16,nt s43 17,nt s43 18,nt s43 19] h44 [])
 (some ⟨(.exit 2),[nt s43 0,nt s43 1,nt s43 2,nt s43 3,nt s43 4,nt s43 5,nt s43 6,nt s43 7,nt s43 8,nt s43 9,nt s43 10,nt s43 11,nt s43 12,nt s43 13,nt s43 14,nt s43 15,nt s43 16,nt s43 17,nt s43 18,nt s43 19],h44,[]⟩)
noncomputable def F_k119_L122 (call:CallF) (lp:LoopF) : List Value → H → Option LOut := fun s166 h167 =>
 ob (rFld 1 (nt s166 0)) fun v168 =>
 ob (rLd1 h167.get v168) fun v169 =>
 ob (rLenL v169) fun v170 =>
 ob (bI .lss (nt s166 2) v170) fun v171 =>
 jn3 (fun s173 h174 l175 =>
 jn3 (fun s177 h178 l179 =>
 ob (bI .add (nt s177 2) (.int .i64 1)) fun v180 =>
 some ⟨.normal,[nt s177 0,nt s177 1,v180,nt s177 3,nt s177 4,nt s177 5,nt s177 6,nt s177 7,nt s177 8,nt s177 9,nt s177 10,nt s177 11,nt s177 12,nt s177 13,nt s177 14,nt s177 15,nt s177 16,nt s177 17,nt s177 18,nt s177 19,nt s177 20,nt s177 21,nt s177 22,nt s177 23,nt s177 24,nt s177 25,nt s177 26,nt s177 27,nt s177 28,nt s177 29,nt s177 30,nt s177 31,nt s177 32,nt s177 33,nt s177 34],h178,l179⟩) fun j176 =>
 ob (rFld 1 (nt s173 0)) fun v181 =>
 ob (rLd1 h174.get v181) fun v182 =>
 ob (rIdxS 4 v182 (nt s173 2)) fun v183 =>
 ob (rFld 0 v183) fun v184 =>
 ob (rLd1 h174.get v184) fun v185 =>
 hv (call (.fn N_k144) [v185] h174) fun v186 h187 l188 =>
 ob (unV .not v186) fun v189 =>
 gP (gd v189 false) (rLdA h187.get 4 (nt s173 0)) fun v190 =>
 gP (gd v189 false) (rFld 1 (nt s173 0)) fun v191 =>
 gP (gd v189 false) (rLd1 h187.get v191) fun v192 =>
 gP (gd v189 false) (some (nt s173 2)) fun v193 =>
 gP (gd v189 false) (rIdxS 4 v192 v193) fun v194 =>
 gP (gd v189 false) (rFld 0 v194) fun v195 =>
 gP (gd v189 false) (rLd1 h187.get v195) fun v196 =>
 hv (gV (gd v189 false) (call (.fn N_k57) [v190,v196] h187) h187) fun v197 h198 l199 =>
 gP (gd v189 false) (some (nt s173 2)) fun v200 =>
 gP (gd v189 false) (bI .neq v197 v200) fun v201 =>
 ob (rPick v189 (.bool true) v201) fun v202 =>
 dr [0,1,0,7,15,31,63,127,255,511,511,1535,511,7679,15871,32255,65535,511,262143,524287] [mP h174,mR h174 (rdP v181),mP h174,mP h174,mP h174,mR h174 (rdP v184),mH h174 (rdL [v185]) l188 h187,mP h187,mP h187,mG (gd v189 false) .pure (rdP (nt s173 0)) h187 h187 [],mG (gd v189 false) .pure [] h187 h187 [],mG (gd v189 false) .pure (rdP v191) h187 h187 [],mG (gd v189 false) .pure [] h187 h187 [],mG (gd v189 false) .pure [] h187 h187 [],mG (gd v189 false) .pure [] h187 h187 [],mG (gd v189 false) .pure (rdP v195) h187 h187 [],mG (gd v189 false) .heavy (rdL [v190,v196]) h187 h198 l199,mG (gd v189 false) .pure [] h198 h198 [],mG (gd v189 false) .pure [] h198 h198 [],mP h198] fun l203 =>
 jn3 (fun s205 h206 l207 =>
 j176 [nt s205 0,nt s205 1,nt s205 2,nt s205 3,nt s205 4,nt s205 5,nt s205 6,nt s205 7,nt s205 8,nt s205 9,nt s205 10,nt s205 11,nt s205 12,nt s205 13,nt s205 14,nt s205 15,nt s205 16,nt s205 17,nt s205 18,nt s205 19,nt s205 20,nt s205 21,nt s205 22,nt s205 23,nt s205 24,nt s205 25,nt s205 26,nt s205 27,nt s205 28,nt s205 29,nt s205 30,nt s205 31,nt s205 32,nt s205 33,nt s205 34] h206 l207) fun j204 => fork v202
 (some ⟨.ret,[nt s173 0,(.bool false),nt s173 2,v190,v191,v192,v193,v194,v195,v196,v197,v200,v201,nt s173 13,nt s173 14,nt s173 15,nt s173 16,nt s173 17,nt s173 18,nt s173 19,nt s173 20,nt s173 21,nt s173 22,nt s173 23,nt s173 24,nt s173 25,nt s173 26,nt s173 27,nt s173 28,nt s173 29,nt s173 30,nt s173 31,nt s173 32,nt s173 33,nt s173 34],h198,(l203 ++ l175)⟩)
 (j204 [nt s173 0,nt s173 1,nt s173 2,v190,v191,v192,v193,v194,v195,v196,v197,v200,v201,nt s173 13,nt s173 14,nt s173 15,nt s173 16,nt s173 17,nt s173 18,nt s173 19,nt s173 20,nt s173 21,nt s173 22,nt s173 23,nt s173 24,nt s173 25,nt s173 26,nt s173 27,nt s173 28,nt s173 29,nt s173 30,nt s173 31,nt s173 32,nt s173 33,nt s173 34] h198 (l203 ++ l175))) fun j172 => fork v171
 (j172 [nt s166 0,nt s166 1,nt s166 2,nt s166 3,nt s166 4,nt s166 5,nt s166 6,nt s166 7,nt s166 8,nt s166 9,nt s166 10,nt s166 11,nt s166 12,nt s166 13,nt s166 14,nt s166 15,nt s166 16,nt s166 17,nt s166 18,nt s166 19,nt s166 20,nt s166 21,nt s166 22,nt s166 23,nt s166 24,nt s166 25,nt s166 26,nt s166 27,nt s166 28,nt s166 29,nt s166 30,nt s166 31,nt s166 32,nt s166 33,nt s166 34] h167 [])
 (some ⟨(.exit 0),[nt s166 0,nt s166 1,nt s166 2,nt s166 3,nt s166 4,nt s166 5,nt s166 6,nt s166 7,nt s166 8,nt s166 9,nt s166 10,nt s166 11,nt s166 12,nt s166 13,nt s166 14,nt s166 15,nt s166 16,nt s166 17,nt s166 18,nt s166 19,nt s166 20,nt s166 21,nt s166 22,nt s166 23,nt s166 24,nt s166 25,nt s166 26,nt s166 27,nt s166 28,nt s166 29,nt s166 30,nt s166 31,nt s166 32,nt s166 33,nt s166 34],h167,[]⟩)
noncomputable def F_k119 (call:CallF) (lp:LoopF) (x0:Value) (x1:Value) (h:H) : Option R3 :=
 al (aBx h.n T_api_Table 4 x1) h fun v0 h1 =>
 ob (rFld 0 v0) fun v2 =>
 ob (rLd1 h1.get v2) fun v3 =>
 hv (call (.fn N_k144) [v3] h1) fun v4 h5 l6 =>
 ob (unV .not v4) fun v7 =>
 gP (gd v7 false) (some x0) fun v8 =>
 gP (gd v7 false) (rFld 0 v0) fun v9 =>
 gP (gd v7 false) (rLd1 h5.get v9) fun v10 =>
 hv (gV (gd v7 false) (call (.fn N_k41) [v8,v10] h5) h5) fun v11 h12 l13 =>
 gP (gd v7 false) (bI .geq v11 (.int .i64 0)) fun v14 =>
 ob (rPick v7 (.bool true) v14) fun v15 =>
 jn3 (fun s17 h18 l19 =>
 jn3 (fun s21 h22 l23 =>
 ob (rFld 2 (nt s21 0)) fun v24 =>
 ob (rLd1 h22.get v24) fun v25 =>
 ob (binV pgB.ty (tyD .string) .neq v25 (.string ⟨#[]⟩)) fun v26 =>
 gP (gd v26 true) (rLdA h22.get 4 (nt s21 0)) fun v27 =>
 gP (gd v26 true) (rFld 2 (nt s21 0)) fun v28 =>
 gP (gd v26 true) (rLd1 h22.get v28) fun v29 =>
 hv (gV (gd v26 true) (call (.fn N_k57) [v27,v29] h22) h22) fun v30 h31 l32 =>
 gP (gd v26 true) (bI .lss v30 (.int .i64 0)) fun v33 =>
 ob (rPick v26 v33 (.bool false)) fun v34 =>
 jn3 (fun s36 h37 l38 =>
 jn3 (fun s40 h41 l42 =>
 fin h (rsT (.bool true) (some [])) h41 l42) fun j39 =>
 ob (lp (F_k119_L506 call lp) [nt s36 0,nt s36 1,(.int .i64 0),nt s36 2,nt s36 3,nt s36 4,nt s36 5,nt s36 6,nt s36 7,nt s36 8,nt s36 9,nt s36 10,nt s36 11,nt s36 12,nt s36 13,nt s36 14,nt s36 15,nt s36 16,nt s36 17,nt s36 18] h37) fun o164 =>
 onEx o164.ex (j39 [] o164.h (o164.lg ++ l38)) (fun i165 => bif Nat.beq i165 2 then j39 [] o164.h (o164.lg ++ l38) else none) (fin h (rsT (nt o164.vs 1) (some [])) o164.h (o164.lg ++ l38))) fun j35 => fork v34
 (fin h (rsT (.bool false) (some [])) h31 (l32 ++ l23))
 (j35 [nt s21 0,nt s21 1,nt s21 7,nt s21 8,nt s21 9,nt s21 10,nt s21 11,nt s21 12,nt s21 13,nt s21 14,nt s21 15,nt s21 16,nt s21 17,nt s21 18,nt s21 19,nt s21 20,nt s21 21,nt s21 22,nt s21 23] h31 (l32 ++ l23))) fun j20 =>
 ob (lp (F_k119_L122 call lp) [nt s17 0,nt s17 1,(.int .i64 0),nt s17 2,nt s17 3,nt s17 4,nt s17 5,nt s17 6,nt s17 7,nt s17 8,nt s17 9,nt s17 10,nt s17 11,nt s17 12,nt s17 13,nt s17 14,nt s17 15,nt s17 16,nt s17 17,nt s17 18,nt s17 19,nt s17 20,nt s17 21,nt s17 22,nt s17 23,nt s17 24,nt s17 25,nt s17 26,nt s17 27,nt s17 28,nt s17 29,nt s17 30,nt s17 31,nt s17 32,nt s17 33] h18) fun o208 =>
 onEx o208.ex (j20 [(nt o208.vs 0),(nt o208.vs 1),(nt o208.vs 13),(nt o208.vs 14),(nt o208.vs 15),(nt o208.vs 16),(nt o208.vs 17),(nt o208.vs 18),(nt o208.vs 19),(nt o208.vs 20),(nt o208.vs 21),(nt o208.vs 22),(nt o208.vs 23),(nt o208.vs 24),(nt o208.vs 25),(nt o208.vs 26),(nt o208.vs 27),(nt o208.vs 28),(nt o208.vs 29),(nt o208.vs 30),(nt o208.vs 31),(nt o208.vs 32),(nt o208.vs 33),(nt o208.vs 34)] o208.h (o208.lg ++ l19)) (fun i209 => bif Nat.beq i209 0 then j20 [(nt o208.vs 0),(nt o208.vs 1),(nt o208.vs 13),(nt o208.vs 14),(nt o208.vs 15),(nt o208.vs 16),(nt o208.vs 17),(nt o208.vs 18),(nt o208.vs 19),(nt o208.vs 20),(nt o208.vs 21),(nt o208.vs 22),(nt o208.vs 23),(nt o208.vs 24),(nt o208.vs 25),(nt o208.vs 26),(nt o208.vs 27),(nt o208.vs 28),(nt o208.vs 29),(nt o208.vs 30),(nt o208.vs 31),(nt o208.vs 32),(nt o208.vs 33),(nt o208.vs 34)] o208.h (o208.lg ++ l19) else none) (fin h (rsT (nt o208.vs 1) (some [])) o208.h (o208.lg ++ l19))) fun j16 => fork v15
 (fin h (rsT (.bool false) (some [])) h12 (l13 ++ (l6 ++ [])))
 (j16 [v0,(.bool false),poison,poison,poison,poison,poison,poison,poison,poison,poison,poison,poison,poison,poison,poison,poison,poison,poison,poison,poison,poison,poison,poison,poison,poison,poison,poison,poison,poison,poison,poison,poison,poison] h12 (l13 ++ (l6 ++ [])))

--
noncomputable def F_k120_L30194 (call:CallF) (lp:LoopF) : List Value → H → Option LOut := fun s45 h46 =>
 ob (rFld 2 (nt s45 0)) fun v47 =>
 ob (rLd1 h46.get v47) fun v48 =>
 ob (rLenS v48) fun v49 =>
 ob (bI .lss (nt s45 2) v49) fun v50 =>
 jn3 (fun s52 h53 l54 =>
 jn3 (fun s56 h57 l58 =>
 ob (bI .add (nt s56 2) (.int .i64 1)) fun v59 =>
 some ⟨.normal,[nt s56 0,nt s56 1,v59,nt s56 3,nt s56 4,nt s56 5,nt s56 6,nt s56 7,nt s56 8,nt s56 9,nt s56 10,nt s56 11,nt s56 12,nt s56 13,nt s56 14,nt s56 15,nt s56 16],h57,l58⟩) fun j55 =>
 ob (rFld 2 (nt s52 0)) fun v60 =>
 ob (rLd1 h53.get v60) fun v61 =>
 ob (rIxStr v61 (nt s52 2)) fun v62 =>
 ob (binV pgB.ty (tyD (.int .u8)) .lss v62 (.int .u8 32)) fun v63 =>
 gP (gd v63 false) (rFld 2 (nt s52 0)) fun v64 =>
 gP (gd v63 false) (rLd1 h53.get v64) fun v65 =>
 gP (gd v63 false) (some (nt s52 2)) fun v66 =>
 gP (gd v63 false) (rIxStr v65 v66) fun v67 =>
 gP (gd v63 false) (binV pgB.ty (tyD (.int .u8)) .gtr v67 (.int .u8 126)) fun v68 =>
 ob (rPick v63 (.bool true) v68) fun v69 =>
 gP (gd v69 false) (rFld 2 (nt s52 0)) fun v70 =>
 gP (gd v69 false) (rLd1 h53.get v70) fun v71 =>
 gP (gd v69 false) (some (nt s52 2)) fun v72 =>
 gP (gd v69 false) (rIxStr v71 v72) fun v73 =>
 gP (gd v69 false) (binV pgB.ty (tyD (.int .u8)) .eql v73 (.int .u8 39)) fun v74 =>
 ob (rPick v69 (.bool true) v74) fun v75 =>
 jn3 (fun s77 h78 l79 =>
 j55 [nt s77 0,nt s77 1,nt s77 2,nt s77 3,nt s77 4,nt s77 5,nt s77 6,nt s77 7,nt s77 8,nt s77 9,nt s77 10,nt s77 11,nt s77 12,nt s77 13,nt s77 14,nt s77 15,nt s77 16] h78 l79) fun j76 => fork v75
 (some ⟨.ret,[nt s52 0,(.bool false),nt s52 2,v64,v65,v66,v67,v68,v70,v71,v72,v73,v74,nt s52 13,nt s52 14,nt s52 15,nt s52 16],h53,l54⟩)
 (j76 [nt s52 0,nt s52 1,nt s52 2,v64,v65,v66,v67,v68,v70,v71,v72,v73,v74,nt s52 13,nt s52 14,nt s52 15,nt s52 16] h53 l54)) fun j51 => fork v50
 (j51 [nt s45 0,nt s45 1,nt s45 2,nt s45 3,nt s45 4,nt s45 5,nt s45 6,nt s45 7,nt s45 8,nt s45 9,nt s45 10,nt s45 11,nt s45 12,nt s45 13,nt s45 14,nt s45 15,nt s45 16] h46 [])
 (some ⟨(.exit 1),[nt s45 0,nt s45 1,nt s45 2,nt s45 3,nt s45 4,nt s45 5,nt s45 6,nt s45 7,nt s45 8,nt s45 9,nt s45 10,nt s45 11,nt s45 12,nt s45 13,nt s45 14,nt s45 15,nt s45 16],h46,[]⟩)
noncomputable def F_k120 (call:CallF) (lp:LoopF) (x0:Value) (h:H) : Option R3 :=
 al (aBx h.n T_api_Value 3 x0) h fun v0 h1 =>
 ob (rFld 0 v0) fun v2 =>
 ob (rLd1 h1.get v2) fun v3 =>
 jn3 (fun s5 h6 l7 =>
 fin h (rsT (.bool false) (some [])) h6 l7) fun j4 =>
 ob (bI .eql v3 (.int .i64 0)) fun v8 =>
 jn3 (fun s10 h11 l12 =>
 j4 [] h11 l12) fun j9 => fork v8
 (ob (rFld 1 v0) fun v13 =>
 ob (rLd1 h1.get v13) fun v14 =>
 ob (bI .eql v14 (.int .i64 0)) fun v15 =>
 gP (gd v15 true) (rFld 2 v0) fun v16 =>
 gP (gd v15 true) (rLd1 h1.get v16) fun v17 =>
 gP (gd v15 true) (binV pgB.ty (tyD .string) .eql v17 (.string ⟨#[]⟩)) fun v18 =>
 ob (rPick v15 v18 (.bool false)) fun v19 =>
 fin h (rsT v19 (some [])) h1 [])
 (ob (bI .eql v3 (.int .i64 1)) fun v20 =>
 jn3 (fun s22 h23 l24 =>
 j9 [] h23 l24) fun j21 => fork v20
 (ob (rFld 2 v0) fun v25 =>
 ob (rLd1 h1.get v25) fun v26 =>
 ob (binV pgB.ty (tyD .string) .eql v26 (.string ⟨#[]⟩)) fun v27 =>
 fin h (rsT v27 (some [])) h1 [])
 (ob (bI .eql v3 (.int .i64 2)) fun v28 =>
 jn3 (fun s30 h31 l32 =>
 j21 [] h31 l32) fun j29 => fork v28
 (jn3 (fun s34 h35 l36 =>
 ob (rFld 1 (nt s34 0)) fun v37 =>
 ob (rLd1 h35.get v37) fun v38 =>
 ob (bI .eql v38 (.int .i64 0)) fun v39 =>
 gP (gd v39 true) (rFld 2 (nt s34 0)) fun v40 =>
 gP (gd v39 true) (rLd1 h35.get v40) fun v41 =>
 gP (gd v39 true) (rLenS v41) fun v42 =>
 gP (gd v39 true) (bI .leq v42 (.int .i64 12)) fun v43 =>
 ob (rPick v39 v43 (.bool false)) fun v44 =>
 fin h (rsT v44 (some [])) h35 l36) fun j33 =>
 ob (lp (F_k120_L30194 call lp) [v0,(.bool false),(.int .i64 0),poison,poison,poison,poison,poison,poison,poison,poison,poison,poison,poison,poison,poison,poison] h1) fun o80 =>
 onEx o80.ex (j33 [(nt o80.vs 0),(nt o80.vs 13),(nt o80.vs 14),(nt o80.vs 15),(nt o80.vs 16)] o80.h (o80.lg ++ [])) (fun i81 => bif Nat.beq i81 1 then j33 [(nt o80.vs 0),(nt o80.vs 13),(nt o80.vs 14),(nt o80.vs 15),(nt o80.vs 16)] o80.h (o80.lg ++ []) else bif Nat.beq i81 0 then j4 [] o80.h (o80.lg ++ []) else none) (fin h (rsT (nt o80.vs 1) (some [])) o80.h (o80.lg ++ [])))
 (j29 [] h1 [])))

--
noncomputable def F_k121_L122 (call:CallF) (lp:LoopF) : List Value → H → Option LOut := fun s16 h17 =>
 ob (rFld 0 (nt s16 0)) fun v18 =>
 ob (rLd1 h17.get v18) fun v19 =>
 ob (rLenL v19) fun v20 =>
 ob (bI .lss (nt s16 4) v20) fun v21 =>
 gP (gd v21 true) (some (nt s16 5)) fun v22 =>
 gP (gd v21 true) (rFld 0 (nt s16 1)) fun v23 =>
 gP (gd v21 true) (rLd1 h17.get v23) fun v24 =>
 gP (gd v21 true) (rLenL v24) fun v25 =>
 gP (gd v21 true) (bI .lss v22 v25) fun v26 =>
 ob (rPick v21 v26 (.bool false)) fun v27 =>
 jn3 (fun s29 h30 l31 =>
 jn3 (fun s33 h34 l35 =>
 some ⟨.normal,[nt s33 0,nt s33 1,nt s33 2,nt s33 3,nt s33 4,nt s33 5,nt s33 6,nt s33 7,nt s33 8,nt s33 9,nt s33 10],h34,l35⟩) fun j32 =>
 ob (rFld 0 (nt s29 0)) fun v36 =>
 ob (rLd1 h30.get v36) fun v37 =>
 ob (rIdxS 2 v37 (nt s29 4)) fun v38 =>
 ob (rLdA h30.get 2 v38) fun v39 =>
 ob (rFld 0 (nt s29 1)) fun v40 =>
 ob (rLd1 h30.get v40) fun v41 =>
 ob (rIdxS 2 v41 (nt s29 5)) fun v42 =>
 ob (rLdA h30.get 2 v42) fun v43 =>
 al (aNew h30.n T_A2i64 [(.int .i64 0),(.int .i64 0)]) h30 fun v44 h45 =>
 al (aNew h45.n T_A2i64 [(.int .i64 0),(.int .i64 0)]) h45 fun v46 h47 =>
 hv (rStore h47 2 v44 v39) fun v48 h49 l50 =>
 hv (rStore h49 2 v46 v43) fun v51 h52 l53 =>
 dr [0,1,0,7,15,0,32,0,224,480,0,0,3103,8191] [mP h30,mR h30 (rdP v36),mP h30,mP h30,mR h30 (rdP v38),mP h30,mR h30 (rdP v40),mP h30,mP h30,mR h30 (rdP v42),mA h30 [],mA h45 [],mH h47 [] l50 h49,mH h49 [] l53 h52] fun l54 =>
 ob (rIdxA 2 1 v44 (.int .i64 0)) fun v55 =>
 ob (rLd1 h52.get v55) fun v56 =>
 ob (rIdxA 2 1 v46 (.int .i64 0)) fun v57 =>
 ob (rLd1 h52.get v57) fun v58 =>
 ob (foldMM true v56 [v58]) fun v59 =>
 ob (rIdxA 2 1 v44 (.int .i64 1)) fun v60 =>
 ob (rLd1 h52.get v60) fun v61 =>
 ob (rIdxA 2 1 v46 (.int .i64 1)) fun v62 =>
 ob (rLd1 h52.get v62) fun v63 =>
 ob (foldMM false v61 [v63]) fun v64 =>
 ob (bI .lss v59 v64) fun v65 =>
 jn3 (fun s67 h68 l69 =>
 ob (rIdxA 2 1 (nt s67 6) (.int .i64 1)) fun v70 =>
 ob (rLd1 h68.get v70) fun v71 =>
 ob (rIdxA 2 1 (nt s67 7) (.int .i64 1)) fun v72 =>
 ob (rLd1 h68.get v72) fun v73 =>
 ob (bI .lss v71 v73) fun v74 =>
 jn3 (fun s76 h77 l78 =>
 j32 [nt s76 0,nt s76 1,nt s76 2,nt s76 3,nt s76 4,nt s76 5,nt s76 6,nt s76 7,nt s76 8,nt s76 9,nt s76 10] h77 l78) fun j75 => fork v74
 (ob (bI .add (nt s67 4) (.int .i64 1)) fun v79 =>
 j75 [nt s67 0,nt s67 1,nt s67 2,nt s67 3,v79,nt s67 5,nt s67 8,nt s67 9,nt s67 10,nt s67 11,nt s67 12] h68 l69)
 (ob (bI .add (nt s67 5) (.int .i64 1)) fun v80 =>
 j75 [nt s67 0,nt s67 1,nt s67 2,nt s67 3,nt s67 4,v80,nt s67 8,nt s67 9,nt s67 10,nt s67 11,nt s67 12] h68 l69)) fun j66 => fork v65
 (hv (call (.fn N_k112) [nt s29 3,v59,v64] h52) fun v81 h82 l83 =>
 j66 [nt s29 0,nt s29 1,nt s29 2,nt s29 3,nt s29 4,nt s29 5,v44,v46,nt s29 6,nt s29 7,nt s29 8,nt s29 9,nt s29 10] h82 (l83 ++ (l54 ++ l31)))
 (j66 [nt s29 0,nt s29 1,nt s29 2,nt s29 3,nt s29 4,nt s29 5,v44,v46,nt s29 6,nt s29 7,nt s29 8,nt s29 9,nt s29 10] h52 (l54 ++ l31))) fun j28 => fork v27
 (j28 [nt s16 0,nt s16 1,nt s16 2,nt s16 3,nt s16 4,nt s16 5,v22,v23,v24,v25,v26] h17 [])
 (some ⟨(.exit 0),[nt s16 0,nt s16 1,nt s16 2,nt s16 3,nt s16 4,nt s16 5,v22,v23,v24,v25,v26],h17,[]⟩)
noncomputable def F_k121 (call:CallF) (lp:LoopF) (x0:Value) (x1:Value) (h:H) : Option R3 :=
 al (aBx h.n T_bitmap_Map 1 x0) h fun v0 h1 =>
 al (aBx h1.n T_bitmap_Map 1 x1) h1 fun v2 h3 =>
 al (aNew h3.n T_bitmap_Map [(.slice none 0 0)]) h3 fun v4 h5 =>
 al (aNew h5.n T_bitmap_Map [(.slice none 0 0)]) h5 fun v6 h7 =>
 jn3 (fun s9 h10 l11 =>
 ob (rLdA h10.get 1 (nt s9 1)) fun v12 =>
 hv (rStore h10 1 (nt s9 0) v12) fun v13 h14 l15 =>
 fin h (rsK (rLdA h14.get 1 (nt s9 0)) (some [])) h14 (l15 ++ l11)) fun j8 =>
 ob (lp (F_k121_L122 call lp) [v0,v2,v4,v6,(.int .i64 0),(.int .i64 0),poison,poison,poison,poison,poison] h7) fun o84 =>
 onEx o84.ex (j8 [(nt o84.vs 2),(nt o84.vs 3)] o84.h (o84.lg ++ [])) (fun i85 => bif Nat.beq i85 0 then j8 [(nt o84.vs 2),(nt o84.vs 3)] o84.h (o84.lg ++ []) else none) (fin h (rsK (rLdA o84.h.get 1 (nt o84.vs 2)) (some [])) o84.h (o84.lg ++ []))

--
noncomputable def F_k122_L506 (call:CallF) (lp:LoopF) : List Value → H → Option LOut := fun s26 h27 =>
 ob (bI .lss (nt s26 6) (nt s26 5)) fun v28 =>
 jn3 (fun s30 h31 l32 =>
 jn3 (fun s34 h35 l36 =>
 ob (bI .add (nt s34 6) (.int .i64 1)) fun v37 =>
 some ⟨.normal,[nt s34 0,nt s34 1,nt s34 2,nt s34 3,nt s34 4,nt s34 5,v37],h35,l36⟩) fun j33 =>
 ob (rIdxS 2 (nt s30 4) (nt s30 6)) fun v38 =>
 ob (rLdA h31.get 2 v38) fun v39 =>
 al (aNew h31.n T_A2i64 [(.int .i64 0),(.int .i64 0)]) h31 fun v40 h41 =>
 hv (rStore h41 2 v40 v39) fun v42 h43 l44 =>
 ob (rIdxA 2 1 v40 (.int .i64 0)) fun v45 =>
 ob (rLd1 h43.get v45) fun v46 =>
 ob (bI .geq v46 (nt s30 0)) fun v47 =>
 jn3 (fun s49 h50 l51 =>
 ob (rIdxA 2 1 (nt s49 4) (.int .i64 0)) fun v52 =>
 ob (rLd1 h50.get v52) fun v53 =>
 ob (bI .lss (nt s49 3) v53) fun v54 =>
 jn3 (fun s56 h57 l58 =>
 ob (rIdxA 2 1 (nt s56 3) (.int .i64 1)) fun v59 =>
 ob (rLd1 h57.get v59) fun v60 =>
 j33 [nt s56 0,nt s56 1,nt s56 2,v60,nt s56 4,nt s56 5,nt s56 6] h57 l58) fun j55 => fork v54
 (ob (rIdxA 2 1 (nt s49 4) (.int .i64 0)) fun v61 =>
 ob (rLd1 h50.get v61) fun v62 =>
 hv (call (.fn N_k112) [nt s49 2,nt s49 3,v62] h50) fun v63 h64 l65 =>
 j55 [nt s49 0,nt s49 1,nt s49 2,nt s49 4,nt s49 5,nt s49 6,nt s49 7] h64 (l65 ++ l51))
 (j55 [nt s49 0,nt s49 1,nt s49 2,nt s49 4,nt s49 5,nt s49 6,nt s49 7] h50 l51)) fun j48 => fork v47
 (some ⟨(.exit 0),[nt s30 0,nt s30 1,nt s30 2,nt s30 3,nt s30 4,nt s30 5,nt s30 6],h43,(l44 ++ l32)⟩)
 (j48 [nt s30 0,nt s30 1,nt s30 2,nt s30 3,v40,nt s30 4,nt s30 5,nt s30 6] h43 (l44 ++ l32))) fun j29 => fork v28
 (j29 [nt s26 0,nt s26 1,nt s26 2,nt s26 3,nt s26 4,nt s26 5,nt s26 6] h27 [])
 (some ⟨(.exit 0),[nt s26 0,nt s26 1,nt s26 2,nt s26 3,nt s26 4,nt s26 5,nt s26 6],h27,[]⟩)
noncomputable def F_k122 (call:CallF) (lp:LoopF) (x0:Value) (x1:Value) (h:H) : Option R3 :=
 al (aBx h.n T_bitmap_Map 1 x0) h fun v0 h1 =>
 al (aNew h1.n T_bitmap_Map [(.slice none 0 0)]) h1 fun v2 h3 =>
 ob (foldMM false x1 [(.int .i64 65536)]) fun v4 =>
 al (aNew h3.n T_bitmap_Map [(.slice none 0 0)]) h3 fun v5 h6 =>
 ob (rFld 0 v0) fun v7 =>
 ob (rLd1 h6.get v7) fun v8 =>
 ob (rLenL v8) fun v9 =>
 jn3 (fun s11 h12 l13 =>
 ob (bI .lss (nt s11 3) (nt s11 0)) fun v14 =>
 jn3 (fun s16 h17 l18 =>
 ob (rLdA h17.get 1 (nt s16 1)) fun v19 =>
 hv (rStore h17 1 (nt s16 0) v19) fun v20 h21 l22 =>
 fin h (rsK (rLdA h21.get 1 (nt s16 0)) (some [])) h21 (l22 ++ l18)) fun j15 => fork v14
 (hv (call (.fn N_k112) [nt s11 2,nt s11 3,nt s11 0] h12) fun v23 h24 l25 =>
 j15 [nt s11 1,nt s11 2] h24 (l25 ++ l13))
 (j15 [nt s11 1,nt s11 2] h12 l13)) fun j10 =>
 ob (lp (F_k122_L506 call lp) [v4,v2,v5,(.int .i64 0),v8,v9,(.int .i64 0)] h6) fun o66 =>
 onEx o66.ex (j10 [(nt o66.vs 0),(nt o66.vs 1),(nt o66.vs 2),(nt o66.vs 3)] o66.h (o66.lg ++ [])) (fun i67 => bif Nat.beq i67 0 then j10 [(nt o66.vs 0),(nt o66.vs 1),(nt o66.vs 2),(nt o66.vs 3)] o66.h (o66.lg ++ []) else none) (fin h (rsK (rLdA o66.h.get 1 (nt o66.vs 1)) (some [])) o66.h (o66.lg ++ []))

--
noncomputable def F_k123 (call:CallF) (lp:LoopF) (x0:Value) (x1:Value) (h:H) : Option R3 :=
 hv (call (.fn N_k145) [x0] h) fun v0 h1 l2 =>
 hv (call (.fn N_k146) [v0,x1] h1) fun v3 h4 l5 =>
 ob (rExtract 0 v3) fun v6 =>
 ob (rExtract 1 v3) fun v7 =>
 ob (bI .gtr v6 (.int .i64 1)) fun v8 =>
 jn3 (fun s10 h11 l12 =>
 fin h (rsT (nt s10 0) (some [])) h11 l12) fun j9 => fork v8
 (ob (bI .sub v6 (.int .i64 1)) fun v13 =>
 hv (call (.fn N_k147) [v0,x1,v13] h4) fun v14 h15 l16 =>
 j9 [v7] h15 (l16 ++ (l5 ++ (l2 ++ []))))
 (jn3 (fun s18 h19 l20 =>
 j9 [nt s18 0] h19 l20) fun j17 => fork v7
 (hv (call (.fn N_k148) [v0,x1] h4) fun v21 h22 l23 =>
 j17 [v7] h22 (l23 ++ (l5 ++ (l2 ++ []))))
 (j17 [v7] h4 (l5 ++ (l2 ++ []))))

--
noncomputable def F_k124_L58 (call:CallF) (lp:LoopF) : List Value → H → Option LOut := fun s5 h6 =>
 ob (bI .lss (nt s5 4) (nt s5 3)) fun v7 =>
 jn3 (fun s9 h10 l11 =>
 jn3 (fun s13 h14 l15 =>
 ob (bI .add (nt s13 4) (.int .i64 1)) fun v16 =>
 some ⟨.normal,[nt s13 0,nt s13 1,nt s13 2,nt s13 3,v16],h14,l15⟩) fun j12 =>
 ob (rIdxS 4 (nt s9 0) (nt s9 4)) fun v17 =>
 ob (rLdA h10.get 4 v17) fun v18 =>
 hv (callV call h10 (nt s9 1) [v18]) fun v19 h20 l21 =>
 jn3 (fun s23 h24 l25 =>
 j12 [nt s23 0,nt s23 1,nt s23 2,nt s23 3,nt s23 4] h24 l25) fun j22 => fork v19
 (some ⟨.ret,[nt s9 0,nt s9 1,nt s9 4,nt s9 3,nt s9 4],h20,(l21 ++ l11)⟩)
 (j22 [nt s9 0,nt s9 1,nt s9 2,nt s9 3,nt s9 4] h20 (l21 ++ l11))) fun j8 => fork v7
 (j8 [nt s5 0,nt s5 1,nt s5 2,nt s5 3,nt s5 4] h6 [])
 (some ⟨(.exit 0),[nt s5 0,nt s5 1,nt s5 2,nt s5 3,nt s5 4],h6,[]⟩)
noncomputable def F_k124 (call:CallF) (lp:LoopF) (x0:Value) (x1:Value) (h:H) : Option R3 :=
 ob (rLenL x0) fun v0 =>
 jn3 (fun s2 h3 l4 =>
 fin h (rsT (.int .i64 (-1)) (some [])) h3 l4) fun j1 =>
 ob (lp (F_k124_L58 call lp) [x0,x1,(.int .i64 0),v0,(.int .i64 0)] h) fun o26 =>
 onEx o26.ex (j1 [] o26.h (o26.lg ++ [])) (fun i27 => bif Nat.beq i27 0 then j1 [] o26.h (o26.lg ++ []) else none) (fin h (rsT (nt o26.vs 2) (some [])) o26.h (o26.lg ++ []))

--
noncomputable def F_k125 (call:CallF) (lp:LoopF) (x0:Value) (x1:Value) (h:H) : Option R3 :=
 al (aBx h.n T_api_Col 4 x0) h fun v0 h1 =>
 ob (rFld 0 v0) fun v2 =>
 ob (rLd1 h1.get v2) fun v3 =>
 ob (rLd1 h1.get x1) fun v4 =>
 ob (binV pgB.ty (tyD .string) .eql v3 v4) fun v5 =>
 fin h (rsT v5 (some [])) h1 []

--
noncomputable def F_k126_L122 (call:CallF) (lp:LoopF) : List Value → H → Option LOut := fun s25 h26 =>
 ob (bI .lss (nt s25 3) (nt s25 2)) fun v27 =>
 jn3 (fun s29 h30 l31 =>
 jn3 (fun s33 h34 l35 =>
 ob (bI .add (nt s33 3) (.int .i64 1)) fun v36 =>
 some ⟨.normal,[nt s33 0,nt s33 1,nt s33 2,v36,nt s33 4,nt s33 5,nt s33 6,nt s33 7,nt s33 8],h34,l35⟩) fun j32 =>
 ob (rIxStr (nt s29 0) (nt s29 3)) fun v37 =>
 hv (call (.fn N_k151) [v37] h30) fun v38 h39 l40 =>
 ob (unV .not v38) fun v41 =>
 gP (gd v41 true) (some (nt s29 0)) fun v42 =>
 gP (gd v41 true) (some (nt s29 3)) fun v43 =>
 gP (gd v41 true) (rIxStr v42 v43) fun v44 =>
 hv (gV (gd v41 true) (call (.fn N_k149) [v44] h39) h39) fun v45 h46 l47 =>
 gP (gd v41 true) (unV .not v45) fun v48 =>
 ob (rPick v41 v48 (.bool false)) fun v49 =>
 jn3 (fun s51 h52 l53 =>
 j32 [nt s51 0,nt s51 1,nt s51 2,nt s51 3,nt s51 4,nt s51 5,nt s51 6,nt s51 7,nt s51 8] h52 l53) fun j50 => fork v49
 (some ⟨.ret,[nt s29 0,(.bool false),nt s29 2,nt s29 3,v42,v43,v44,v45,v48],h46,(l47 ++ (l40 ++ l31))⟩)
 (j50 [nt s29 0,nt s29 1,nt s29 2,nt s29 3,v42,v43,v44,v45,v48] h46 (l47 ++ (l40 ++ l31)))) fun j28 => fork v27
 (j28 [nt s25 0,nt s25 1,nt s25 2,nt s25 3,nt s25 4,nt s25 5,nt s25 6,nt s25 7,nt s25 8] h26 [])
 (some ⟨(.exit 0),[nt s25 0,nt s25 1,nt s25 2,nt s25 3,nt s25 4,nt s25 5,nt s25 6,nt s25 7,nt s25 8],h26,[]⟩)
noncomputable def F_k126 (call:CallF) (lp:LoopF) (x0:Value) (h:H) : Option R3 :=
 ob (binV pgB.ty (tyD .string) .eql x0 (.string ⟨#[]⟩)) fun v0 =>
 gP (gd v0 false) (some x0) fun v1 =>
 gP (gd v0 false) (rLenS v1) fun v2 =>
 gP (gd v0 false) (bI .gtr v2 (.int .i64 12)) fun v3 =>
 ob (rPick v0 (.bool true) v3) fun v4 =>
 gP (gd v4 false) (some x0) fun v5 =>
 gP (gd v4 false) (rIxStr v5 (.int .i64 0)) fun v6 =>
 hv (gV (gd v4 false) (call (.fn N_k149) [v6] h) h) fun v7 h8 l9 =>
 ob (rPick v4 (.bool true) v7) fun v10 =>
 gP (gd v10 false) (some x0) fun v11 =>
 hv (gV (gd v10 false) (call (.fn N_k150) [v11] h8) h8) fun v12 h13 l14 =>
 ob (rPick v10 (.bool true) v12) fun v15 =>
 jn3 (fun s17 h18 l19 =>
 ob (rLenS (nt s17 0)) fun v20 =>
 jn3 (fun s22 h23 l24 =>
 fin h (rsT (.bool true) (some [])) h23 l24) fun j21 =>
 ob (lp (F_k126_L122 call lp) [nt s17 0,nt s17 1,v20,(.int .i64 0),nt s17 2,nt s17 3,nt s17 4,nt s17 5,nt s17 6] h18) fun o54 =>
 onEx o54.ex (j21 [] o54.h (o54.lg ++ l19)) (fun i55 => bif Nat.beq i55 0 then j21 [] o54.h (o54.lg ++ l19) else none) (fin h (rsT (nt o54.vs 1) (some [])) o54.h (o54.lg ++ l19))) fun j16 => fork v15
 (fin h (rsT (.bool false) (some [])) h13 (l14 ++ (l9 ++ [])))
 (j16 [x0,(.bool false),poison,poison,poison,poison,poison] h13 (l14 ++ (l9 ++ [])))

--
noncomputable def F_k127_L58 (call:CallF) (lp:LoopF) : List Value → H → Option LOut := fun s5 h6 =>
 ob (bI .lss (nt s5 4) (nt s5 3)) fun v7 =>
 jn3 (fun s9 h10 l11 =>
 jn3 (fun s13 h14 l15 =>
 ob (bI .add (nt s13 4) (.int .i64 1)) fun v16 =>
 some ⟨.normal,[nt s13 0,nt s13 1,nt s13 2,nt s13 3,v16],h14,l15⟩) fun j12 =>
 ob (rIdxS 1 (nt s9 2) (nt s9 4)) fun v17 =>
 ob (rLd1 h10.get v17) fun v18 =>
 ob (rSl h10.get T_string 1 (nt s9 0) none (some (nt s9 4)) none) fun v19 =>
 hv (call (.fn N_k152) [v19,v18] h10) fun v20 h21 l22 =>
 jn3 (fun s24 h25 l26 =>
 j12 [nt s24 0,nt s24 1,nt s24 2,nt s24 3,nt s24 4] h25 l26) fun j23 => fork v20
 (some ⟨.ret,[nt s9 0,(.bool true),nt s9 2,nt s9 3,nt s9 4],h21,(l22 ++ l11)⟩)
 (j23 [nt s9 0,nt s9 1,nt s9 2,nt s9 3,nt s9 4] h21 (l22 ++ l11))) fun j8 => fork v7
 (j8 [nt s5 0,nt s5 1,nt s5 2,nt s5 3,nt s5 4] h6 [])
 (some ⟨(.exit 0),[nt s5 0,nt s5 1,nt s5 2,nt s5 3,nt s5 4],h6,[]⟩)
noncomputable def F_k127 (call:CallF) (lp:LoopF) (x0:Value) (h:H) : Option R3 :=
 ob (rLenL x0) fun v0 =>
 jn3 (fun s2 h3 l4 =>
 fin h (rsT (.bool false) (some [])) h3 l4) fun j1 =>
 ob (lp (F_k127_L58 call lp) [x0,(.bool false),x0,v0,(.int .i64 0)] h) fun o27 =>
 onEx o27.ex (j1 [] o27.h (o27.lg ++ [])) (fun i28 => bif Nat.beq i28 0 then j1 [] o27.h (o27.lg ++ []) else none) (fin h (rsT (nt o27.vs 1) (some [])) o27.h (o27.lg ++ []))

--
noncomputable def F_k128 (call:CallF) (lp:LoopF) (x0:Value) (x1:Value) (h:H) : Option R3 :=
 hv (call (.fn N_k153) [x0,x1] h) fun v0 h1 l2 =>
 ob (bI .geq v0 (.int .i64 0)) fun v3 =>
 fin h (rsT v3 (some [])) h1 (l2 ++ [])

--
noncomputable def F_k129 (call:CallF) (lp:LoopF) (x0:Value) (x1:Value) (h:H) : Option R3 :=
 al (aBx h.n T_api_Dep 2 x0) h fun v0 h1 =>
 ob (rLdA h1.get 4 x1) fun v2 =>
 ob (rLdA h1.get 2 v0) fun v3 =>
 hv (call (.fn N_k130) [v2,v3] h1) fun v4 h5 l6 =>
 ob (unV .not v4) fun v7 =>
 fin h (rsT v7 (some [])) h5 (l6 ++ [])

--
noncomputable def F_k130 (call:CallF) (lp:LoopF) (x0:Value) (x1:Value) (h:H) : Option R3 :=
 al (aBx h.n T_api_Table 4 x0) h fun v0 h1 =>
 al (aBx h1.n T_api_Dep 2 x1) h1 fun v2 h3 =>
 ob (oFunc N_k154 #[] #[v0]) fun v4 =>
 ob (rFld 0 v2) fun v5 =>
 ob (rLd1 h3.get v5) fun v6 =>
 ob (rLenL v6) fun v7 =>
 ob (bI .gtr v7 (.int .i64 0)) fun v8 =>
 gP (gd v8 true) (rFld 0 v2) fun v9 =>
 gP (gd v8 true) (rLd1 h3.get v9) fun v10 =>
 gP (gd v8 true) (rLenL v10) fun v11 =>
 gP (gd v8 true) (bI .leq v11 (.int .i64 3)) fun v12 =>
 ob (rPick v8 v12 (.bool false)) fun v13 =>
 gP (gd v13 true) (rFld 0 v2) fun v14 =>
 gP (gd v13 true) (rLd1 h3.get v14) fun v15 =>
 gP (gd v13 true) (some v4) fun v16 =>
 hv (gV (gd v13 true) (call (.fn N_k155) [v15,v16] h3) h3) fun v17 h18 l19 =>
 gP (gd v13 true) (unV .not v17) fun v20 =>
 ob (rPick v13 v20 (.bool false)) fun v21 =>
 gP (gd v21 true) (rFld 0 v2) fun v22 =>
 gP (gd v21 true) (rLd1 h18.get v22) fun v23 =>
 hv (gV (gd v21 true) (call (.fn N_k127) [v23] h18) h18) fun v24 h25 l26 =>
 gP (gd v21 true) (unV .not v24) fun v27 =>
 ob (rPick v21 v27 (.bool false)) fun v28 =>
 gP (gd v28 true) (some v4) fun v29 =>
 gP (gd v28 true) (rFld 1 v2) fun v30 =>
 gP (gd v28 true) (rLd1 h25.get v30) fun v31 =>
 hv (gV (gd v28 true) (callV call h25 v29 [v31]) h25) fun v32 h33 l34 =>
 gP (gd v28 true) (unV .not v32) fun v35 =>
 ob (rPick v28 v35 (.bool false)) fun v36 =>
 gP (gd v36 true) (rFld 0 v2) fun v37 =>
 gP (gd v36 true) (rLd1 h33.get v37) fun v38 =>
 gP (gd v36 true) (rFld 1 v2) fun v39 =>
 gP (gd v36 true) (rLd1 h33.get v39) fun v40 =>
 hv (gV (gd v36 true) (call (.fn N_k152) [v38,v40] h33) h33) fun v41 h42 l43 =>
 gP (gd v36 true) (unV .not v41) fun v44 =>
 ob (rPick v36 v44 (.bool false)) fun v45 =>
 fin h (rsT v45 (some [])) h42 (l43 ++ (l34 ++ (l26 ++ (l19 ++ []))))

--
noncomputable def F_k131 (call:CallF) (lp:LoopF) (x0:Value) (x1:Value) (h:H) : Option R3 :=
 al (aBx h.n T_api_Col 4 x0) h fun v0 h1 =>
 ob (rFld 0 v0) fun v2 =>
 ob (rLd1 h1.get v2) fun v3 =>
 ob (rLd1 h1.get x1) fun v4 =>
 ob (binV pgB.ty (tyD .string) .eql v3 v4) fun v5 =>
 fin h (rsT v5 (some [])) h1 []

--
noncomputable def F_k132_L122 (call:CallF) (lp:LoopF) : List Value → H → Option LOut := fun s5 h6 =>
 ob (bI .lss (nt s5 4) (nt s5 3)) fun v7 =>
 jn3 (fun s9 h10 l11 =>
 jn3 (fun s13 h14 l15 =>
 ob (bI .add (nt s13 4) (.int .i64 1)) fun v16 =>
 some ⟨.normal,[nt s13 0,nt s13 1,nt s13 2,nt s13 3,v16],h14,l15⟩) fun j12 =>
 ob (rIdxS 1 (nt s9 2) (nt s9 4)) fun v17 =>
 ob (rLd1 h10.get v17) fun v18 =>
 ob (bI .neq v18 (nt s9 1)) fun v19 =>
 jn3 (fun s21 h22 l23 =>
 j12 [nt s21 0,nt s21 1,nt s21 2,nt s21 3,nt s21 4] h22 l23) fun j20 => fork v19
 (some ⟨.ret,[v18,nt s9 1,nt s9 2,nt s9 3,nt s9 4],h10,l11⟩)
 (j20 [nt s9 0,nt s9 1,nt s9 2,nt s9 3,nt s9 4] h10 l11)) fun j8 => fork v7
 (j8 [nt s5 0,nt s5 1,nt s5 2,nt s5 3,nt s5 4] h6 [])
 (some ⟨(.exit 0),[nt s5 0,nt s5 1,nt s5 2,nt s5 3,nt s5 4],h6,[]⟩)
noncomputable def F_k132 (call:CallF) (lp:LoopF) (x0:Value) (h:H) : Option R3 :=
 ob (rLenL x0) fun v0 =>
 jn3 (fun s2 h3 l4 =>
 fin h (rsT (nt s2 0) (some [])) h3 l4) fun j1 =>
 ob (lp (F_k132_L122 call lp) [(.int .i64 0),(.int .i64 0),x0,v0,(.int .i64 0)] h) fun o24 =>
 onEx o24.ex (j1 [(nt o24.vs 1)] o24.h (o24.lg ++ [])) (fun i25 => bif Nat.beq i25 0 then j1 [(nt o24.vs 1)] o24.h (o24.lg ++ []) else none) (fin h (rsT (nt o24.vs 0) (some [])) o24.h (o24.lg ++ []))

--
noncomputable def F_k133 (call:CallF) (lp:LoopF) (x0:Value) (x1:Value) (h:H) : Option R3 :=
 hv (call (.fn N_k156) [x0] h) fun v0 h1 l2 =>
 hv (call (.fn N_k156) [x1] h1) fun v3 h4 l5 =>
 jn3 (fun s7 h8 l9 =>
 jn3 (fun s11 h12 l13 =>
 ob (bI .lss (nt s11 0) (nt s11 1)) fun v14 =>
 jn3 (fun s16 h17 l18 =>
 ob (bI .gtr (nt s16 0) (nt s16 1)) fun v19 =>
 jn3 (fun s21 h22 l23 =>
 fin h (rsT (.int .i64 0) (some [])) h22 l23) fun j20 => fork v19
 (fin h (rsT (.int .i64 1) (some [])) h17 l18)
 (j20 [] h17 l18)) fun j15 => fork v14
 (fin h (rsT (.int .i64 (-1)) (some [])) h12 l13)
 (j15 [nt s11 0,nt s11 1] h12 l13)) fun j10 => fork (nt s7 2)
 (fin h (rsT (.int .i64 1) (some [])) h8 l9)
 (j10 [nt s7 0,nt s7 1] h8 l9)) fun j6 => fork v0
 (jn3 (fun s25 h26 l27 =>
 fin h (rsT (.int .i64 (-1)) (some [])) h26 l27) fun j24 => fork v3
 (fin h (rsT (.int .i64 0) (some [])) h4 (l5 ++ (l2 ++ [])))
 (j24 [] h4 (l5 ++ (l2 ++ []))))
 (j6 [x0,x1,v3] h4 (l5 ++ (l2 ++ [])))

--
noncomputable def F_k134 (call:CallF) (lp:LoopF) (x0:Value) (x1:Value) (h:H) : Option R3 :=
 hv (call (.fn N_k157) [x0] h) fun v0 h1 l2 =>
 hv (call (.fn N_k157) [x1] h1) fun v3 h4 l5 =>
 jn3 (fun s7 h8 l9 =>
 jn3 (fun s11 h12 l13 =>
 ob (bI .lss (nt s11 0) (nt s11 1)) fun v14 =>
 jn3 (fun s16 h17 l18 =>
 ob (bI .gtr (nt s16 0) (nt s16 1)) fun v19 =>
 jn3 (fun s21 h22 l23 =>
 fin h (rsT (.int .i64 0) (some [])) h22 l23) fun j20 => fork v19
 (fin h (rsT (.int .i64 1) (some [])) h17 l18)
 (j20 [] h17 l18)) fun j15 => fork v14
 (fin h (rsT (.int .i64 (-1)) (some [])) h12 l13)
 (j15 [nt s11 0,nt s11 1] h12 l13)) fun j10 => fork (nt s7 2)
 (fin h (rsT (.int .i64 1) (some [])) h8 l9)
 (j10 [nt s7 0,nt s7 1] h8 l9)) fun j6 => fork v0
 (jn3 (fun s25 h26 l27 =>
 fin h (rsT (.int .i64 (-1)) (some [])) h26 l27) fun j24 => fork v3
 (fin h (rsT (.int .i64 0) (some [])) h4 (l5 ++ (l2 ++ [])))
 (j24 [] h4 (l5 ++ (l2 ++ []))))
 (j6 [x0,x1,v3] h4 (l5 ++ (l2 ++ [])))

--
noncomputable def F_k135 (call:CallF) (lp:LoopF) (x0:Value) (x1:Value) (h:H) : Option R3 :=
 hv (call (.fn N_k158) [x0] h) fun v0 h1 l2 =>
 hv (call (.fn N_k158) [x1] h1) fun v3 h4 l5 =>
 jn3 (fun s7 h8 l9 =>
 jn3 (fun s11 h12 l13 =>
 ob (binV pgB.ty (tyD .string) .lss (nt s11 0) (nt s11 1)) fun v14 =>
 jn3 (fun s16 h17 l18 =>
 ob (binV pgB.ty (tyD .string) .gtr (nt s16 0) (nt s16 1)) fun v19 =>
 jn3 (fun s21 h22 l23 =>
 fin h (rsT (.int .i64 0) (some [])) h22 l23) fun j20 => fork v19
 (fin h (rsT (.int .i64 1) (some [])) h17 l18)
 (j20 [] h17 l18)) fun j15 => fork v14
 (fin h (rsT (.int .i64 (-1)) (some [])) h12 l13)
 (j15 [nt s11 0,nt s11 1] h12 l13)) fun j10 => fork (nt s7 2)
 (fin h (rsT (.int .i64 1) (some [])) h8 l9)
 (j10 [nt s7 0,nt s7 1] h8 l9)) fun j6 => fork v0
 (jn3 (fun s25 h26 l27 =>
 fin h (rsT (.int .i64 (-1)) (some [])) h26 l27) fun j24 => fork v3
 (fin h (rsT (.int .i64 0) (some [])) h4 (l5 ++ (l2 ++ [])))
 (j24 [] h4 (l5 ++ (l2 ++ []))))
 (j6 [x0,x1,v3] h4 (l5 ++ (l2 ++ [])))

--
noncomputable def F_k136_L58 (call:CallF) (lp:LoopF) : List Value → H → Option LOut := fun s5 h6 =>
 ob (bI .lss (nt s5 4) (nt s5 3)) fun v7 =>
 jn3 (fun s9 h10 l11 =>
 jn3 (fun s13 h14 l15 =>
 ob (bI .add (nt s13 4) (.int .i64 1)) fun v16 =>
 some ⟨.normal,[nt s13 0,nt s13 1,nt s13 2,nt s13 3,v16],h14,l15⟩) fun j12 =>
 ob (rIdxS 2 (nt s9 0) (nt s9 4)) fun v17 =>
 ob (rLdA h10.get 2 v17) fun v18 =>
 hv (callV call h10 (nt s9 1) [v18]) fun v19 h20 l21 =>
 jn3 (fun s23 h24 l25 =>
 j12 [nt s23 0,nt s23 1,nt s23 2,nt s23 3,nt s23 4] h24 l25) fun j22 => fork v19
 (some ⟨.ret,[nt s9 0,nt s9 1,nt s9 4,nt s9 3,nt s9 4],h20,(l21 ++ l11)⟩)
 (j22 [nt s9 0,nt s9 1,nt s9 2,nt s9 3,nt s9 4] h20 (l21 ++ l11))) fun j8 => fork v7
 (j8 [nt s5 0,nt s5 1,nt s5 2,nt s5 3,nt s5 4] h6 [])
 (some ⟨(.exit 0),[nt s5 0,nt s5 1,nt s5 2,nt s5 3,nt s5 4],h6,[]⟩)
noncomputable def F_k136 (call:CallF) (lp:LoopF) (x0:Value) (x1:Value) (h:H) : Option R3 :=
 ob (rLenL x0) fun v0 =>
 jn3 (fun s2 h3 l4 =>
 fin h (rsT (.int .i64 (-1)) (some [])) h3 l4) fun j1 =>
 ob (lp (F_k136_L58 call lp) [x0,x1,(.int .i64 0),v0,(.int .i64 0)] h) fun o26 =>
 onEx o26.ex (j1 [] o26.h (o26.lg ++ [])) (fun i27 => bif Nat.beq i27 0 then j1 [] o26.h (o26.lg ++ []) else none) (fin h (rsT (nt o26.vs 2) (some [])) o26.h (o26.lg ++ []))

--
noncomputable def F_k137_L58 (call:CallF) (lp:LoopF) : List Value → H → Option LOut := fun s7 h8 =>
 ob (bI .lss (nt s7 3) (nt s7 2)) fun v9 =>
 jn3 (fun s11 h12 l13 =>
 jn3 (fun s15 h16 l17 =>
 ob (bI .add (nt s15 3) (.int .i64 1)) fun v18 =>
 some ⟨.normal,[nt s15 0,nt s15 1,nt s15 2,v18,nt s15 4,nt s15 5,nt s15 6,nt s15 7,nt s15 8,nt s15 9,nt s15 10,nt s15 11],h16,l17⟩) fun j14 =>
 ob (rIxStr (nt s11 0) (nt s11 3)) fun v19 =>
 ob (binV pgB.ty (tyD (.int .u8)) .lss v19 (.int .u8 32)) fun v20 =>
 gP (gd v20 false) (some (nt s11 0)) fun v21 =>
 gP (gd v20 false) (some (nt s11 3)) fun v22 =>
 gP (gd v20 false) (rIxStr v21 v22) fun v23 =>
 gP (gd v20 false) (binV pgB.ty (tyD (.int .u8)) .gtr v23 (.int .u8 126)) fun v24 =>
 ob (rPick v20 (.bool true) v24) fun v25 =>
 gP (gd v25 false) (some (nt s11 0)) fun v26 =>
 gP (gd v25 false) (some (nt s11 3)) fun v27 =>
 gP (gd v25 false) (rIxStr v26 v27) fun v28 =>
 gP (gd v25 false) (binV pgB.ty (tyD (.int .u8)) .eql v28 (.int .u8 39)) fun v29 =>
 ob (rPick v25 (.bool true) v29) fun v30 =>
 jn3 (fun s32 h33 l34 =>
 j14 [nt s32 0,nt s32 1,nt s32 2,nt s32 3,nt s32 4,nt s32 5,nt s32 6,nt s32 7,nt s32 8,nt s32 9,nt s32 10,nt s32 11] h33 l34) fun j31 => fork v30
 (some ⟨.ret,[nt s11 0,(.bool false),nt s11 2,nt s11 3,v21,v22,v23,v24,v26,v27,v28,v29],h12,l13⟩)
 (j31 [nt s11 0,nt s11 1,nt s11 2,nt s11 3,v21,v22,v23,v24,v26,v27,v28,v29] h12 l13)) fun j10 => fork v9
 (j10 [nt s7 0,nt s7 1,nt s7 2,nt s7 3,nt s7 4,nt s7 5,nt s7 6,nt s7 7,nt s7 8,nt s7 9,nt s7 10,nt s7 11] h8 [])
 (some ⟨(.exit 0),[nt s7 0,nt s7 1,nt s7 2,nt s7 3,nt s7 4,nt s7 5,nt s7 6,nt s7 7,nt s7 8,nt s7 9,nt s7 10,nt s7 11],h8,[]⟩)
noncomputable def F_k137 (call:CallF) (lp:LoopF) (x0:Value) (h:H) : Option R3 :=
 ob (rLenS x0) fun v0 =>
 jn3 (fun s2 h3 l4 =>
 ob (rLenS (nt s2 0)) fun v5 =>
 ob (bI .leq v5 (.int .i64 12)) fun v6 =>
 fin h (rsT v6 (some [])) h3 l4) fun j1 =>
 ob (lp (F_k137_L58 call lp) [x0,(.bool false),v0,(.int .i64 0),poison,poison,poison,poison,poison,poison,poison,poison] h) fun o35 =>
 onEx o35.ex (j1 [(nt o35.vs 0)] o35.h (o35.lg ++ [])) (fun i36 => bif Nat.beq i36 0 then j1 [(nt o35.vs 0)] o35.h (o35.lg ++ []) else none) (fin h (rsT (nt o35.vs 1) (some [])) o35.h (o35.lg ++ []))

--
noncomputable def F_k138 (call:CallF) (lp:LoopF) (x0:Value) (x1:Value) (h:H) : Option R3 :=
 hv (call (.fn N_k145) [x0] h) fun v0 h1 l2 =>
 hv (call (.fn N_k146) [v0,x1] h1) fun v3 h4 l5 =>
 ob (rExtract 0 v3) fun v6 =>
 ob (rExtract 1 v3) fun v7 =>
 ob (bI .add v6 (.int .i64 1)) fun v8 =>
 hv (call (.fn N_k147) [v0,x1,v8] h4) fun v9 h10 l11 =>
 fin h (rsT v9 (some [])) h10 (l11 ++ (l5 ++ (l2 ++ [])))

--
noncomputable def F_k139 (call:CallF) (lp:LoopF) (x0:Value) (x1:Value) (h:H) : Option R3 :=
 ob (bI .lss x1 (.int .i64 0)) fun v0 =>
 jn3 (fun s2 h3 l4 =>
 ob (rCapL (nt s2 0)) fun v5 =>
 ob (rLenL (nt s2 0)) fun v6 =>
 ob (bI .sub v5 v6) fun v7 =>
 ob (bI .sub (nt s2 1) v7) fun v8 =>
 ob (bI .gtr v8 (.int .i64 0)) fun v9 =>
 jn3 (fun s11 h12 l13 =>
 fin h (rsT (nt s11 0) (some [])) h12 l13) fun j10 => fork v9
 (ob (rCapL (nt s2 0)) fun v14 =>
 ob (rSl h3.get T_A2i64 2 (nt s2 0) none (some v14) none) fun v15 =>
 hv (rAppZ h3 T_A2i64 2 16 [(.int .i64 0),(.int .i64 0)] v15 v8) fun v16 h17 l18 =>
 ob (rLenL (nt s2 0)) fun v19 =>
 ob (rSl h17.get T_A2i64 2 v16 none (some v19) none) fun v20 =>
 j10 [v20] h17 (l18 ++ l4))
 (j10 [nt s2 0] h3 l4)) fun j1 => fork v0
 (hv (none) fun v21 h22 l23 =>
 hv (none) fun v24 h25 l26 =>
 j1 [x0,x1] h25 (l26 ++ (l23 ++ [])))
 (j1 [x0,x1] h [])

--
noncomputable def F_k140_L30 (call:CallF) (lp:LoopF) : List Value → H → Option LOut := fun s4 h5 =>
 jn3 (fun s7 h8 l9 =>
 some ⟨.normal,[nt s7 0,nt s7 1,nt s7 2,nt s7 3,nt s7 4,nt s7 5,nt s7 6,nt s7 7,nt s7 8,nt s7 9,nt s7 10,nt s7 11,nt s7 12,nt s7 13,nt s7 14,nt s7 15,nt s7 16,nt s7 17,nt s7 18,nt s7 19,nt s7 20,nt s7 21,nt s7 22],h8,l9⟩) fun j6 =>
 ob (bI .sub (nt s4 2) (nt s4 1)) fun v10 =>
 ob (bI .leq v10 (.int .i64 12)) fun v11 =>
 jn3 (fun s13 h14 l15 =>
 ob (bI .eql (nt s13 3) (.int .i64 0)) fun v16 =>
 jn3 (fun s18 h19 l20 =>
 ob (unV .not (nt s18 5)) fun v21 =>
 jn3 (fun s23 h24 l25 =>
 hv (call (.fn N_k162) [nt s23 0,nt s23 1,nt s23 2,nt s23 4] h24) fun v26 h27 l28 =>
 ob (rExtract 0 v26) fun v29 =>
 ob (rExtract 1 v26) fun v30 =>
 ob (bI .eql v30 (.int .i64 2)) fun v31 =>
 jn3 (fun s33 h34 l35 =>
 gP (gd (nt s33 5) true) (some (nt s33 6)) fun v36 =>
 ob (rPick (nt s33 5) v36 (.bool false)) fun v37 =>
 gP (gd v37 true) (some (nt s33 9)) fun v38 =>
 gP (gd v37 true) (bI .eql v38 (.int .i64 1)) fun v39 =>
 ob (rPick v37 v39 (.bool false)) fun v40 =>
 jn3 (fun s42 h43 l44 =>
 ob (bI .gtr (nt s42 1) (.int .i64 0)) fun v45 =>
 gP (gd v45 true) (some (nt s42 4)) fun v46 =>
 gP (gd v45 true) (some (nt s42 0)) fun v47 =>
 gP (gd v45 true) (some (nt s42 1)) fun v48 =>
 gP (gd v45 true) (bI .sub v48 (.int .i64 1)) fun v49 =>
 gP (gd v45 true) (rIdxS 2 v47 v49) fun v50 =>
 gP (gd v45 true) (rLdA h43.get 2 v50) fun v51 =>
 gP (gd v45 true) (some (nt s42 0)) fun v52 =>
 gP (gd v45 true) (some (nt s42 8)) fun v53 =>
 gP (gd v45 true) (rIdxS 2 v52 v53) fun v54 =>
 gP (gd v45 true) (rLdA h43.get 2 v54) fun v55 =>
 hv (gV (gd v45 true) (callV call h43 v46 [v51,v55]) h43) fun v56 h57 l58 =>
 gP (gd v45 true) (bI .lss v56 (.int .i64 0)) fun v59 =>
 gP (gd v45 true) (unV .not v59) fun v60 =>
 ob (rPick v45 v60 (.bool false)) fun v61 =>
 dr [0,1,3,7,7,7,39,119,247,7,7,1543,3591,8191,16383,32767,65535] [mP h43,mP h43,mP h43,mG (gd v45 true) .pure [] h43 h43 [],mG (gd v45 true) .pure [] h43 h43 [],mG (gd v45 true) .pure [] h43 h43 [],mG (gd v45 true) .pure [] h43 h43 [],mG (gd v45 true) .pure [] h43 h43 [],mG (gd v45 true) .pure (rdP v50) h43 h43 [],mG (gd v45 true) .pure [] h43 h43 [],mG (gd v45 true) .pure [] h43 h43 [],mG (gd v45 true) .pure [] h43 h43 [],mG (gd v45 true) .pure (rdP v54) h43 h43 [],mG (gd v45 true) .heavy (rdL [v51,v55]) h43 h57 l58,mG (gd v45 true) .pure [] h57 h57 [],mG (gd v45 true) .pure [] h57 h57 [],mP h57] fun l62 =>
 jn3 (fun s64 h65 l66 =>
 hv (call (.fn N_k166) [nt s64 0,nt s64 1,nt s64 2,nt s64 6,nt s64 4] h65) fun v67 h68 l69 =>
 ob (rExtract 0 v67) fun v70 =>
 ob (rExtract 1 v67) fun v71 =>
 ob (bI .sub v70 (nt s64 1)) fun v72 =>
 ob (bI .sub (nt s64 2) v70) fun v73 =>
 ob (bI .quo (nt s64 5) (.int .i64 8)) fun v74 =>
 ob (bI .lss v72 v73) fun v75 =>
 jn3 (fun s77 h78 l79 =>
 j6 [nt s77 0,nt s77 1,nt s77 2,nt s77 3,nt s77 4,nt s77 5,nt s77 6,nt s77 7,nt s77 8,nt s77 9,nt s77 10,nt s77 11,nt s77 12,nt s77 13,nt s77 14,nt s77 15,nt s77 16,nt s77 17,nt s77 18,nt s77 19,nt s77 20,nt s77 21,nt s77 22] h78 l79) fun j76 => fork v75
 (ob (bI .geq v72 v74) fun v80 =>
 hv (call (.fn N_k140) [nt s64 0,nt s64 1,v70,nt s64 3,nt s64 4] h68) fun v81 h82 l83 =>
 ob (bI .add v70 (.int .i64 1)) fun v84 =>
 j76 [nt s64 0,v84,nt s64 2,nt s64 3,nt s64 4,v80,v71,nt s64 7,nt s64 8,nt s64 9,nt s64 10,nt s64 11,nt s64 12,nt s64 13,nt s64 14,nt s64 15,nt s64 16,nt s64 17,nt s64 18,nt s64 19,nt s64 20,nt s64 21,nt s64 22] h82 (l83 ++ (l69 ++ l66)))
 (ob (bI .geq v73 v74) fun v85 =>
 ob (bI .add v70 (.int .i64 1)) fun v86 =>
 hv (call (.fn N_k140) [nt s64 0,v86,nt s64 2,nt s64 3,nt s64 4] h68) fun v87 h88 l89 =>
 j76 [nt s64 0,nt s64 1,v70,nt s64 3,nt s64 4,v85,v71,nt s64 7,nt s64 8,nt s64 9,nt s64 10,nt s64 11,nt s64 12,nt s64 13,nt s64 14,nt s64 15,nt s64 16,nt s64 17,nt s64 18,nt s64 19,nt s64 20,nt s64 21,nt s64 22] h88 (l89 ++ (l69 ++ l66)))) fun j63 => fork v61
 (hv (call (.fn N_k165) [nt s42 0,nt s42 1,nt s42 2,nt s42 8,nt s42 4] h57) fun v90 h91 l92 =>
 j6 [nt s42 0,v90,nt s42 2,nt s42 3,nt s42 4,nt s42 5,nt s42 6,nt s42 9,nt s42 10,nt s42 11,v46,v47,v48,v49,v50,v51,v52,v53,v54,v55,v56,v59,v60] h91 (l92 ++ (l62 ++ l44)))
 (j63 [nt s42 0,nt s42 1,nt s42 2,nt s42 3,nt s42 4,nt s42 7,nt s42 8,nt s42 9,nt s42 10,nt s42 11,v46,v47,v48,v49,v50,v51,v52,v53,v54,v55,v56,v59,v60] h57 (l62 ++ l44))) fun j41 => fork v40
 (hv (call (.fn N_k164) [nt s33 0,nt s33 1,nt s33 2,nt s33 4] h34) fun v93 h94 l95 =>
 jn3 (fun s97 h98 l99 =>
 j41 [nt s97 0,nt s97 1,nt s97 2,nt s97 3,nt s97 4,nt s97 5,nt s97 6,nt s97 7,nt s97 8,nt s97 9,nt s97 10,nt s97 11,nt s97 12,nt s97 13,nt s97 14,nt s97 15,nt s97 16,nt s97 17,nt s97 18,nt s97 19,nt s97 20,nt s97 21,nt s97 22,nt s97 23,nt s97 24] h98 l99) fun j96 => fork v93
 (some ⟨.ret,[nt s33 0,nt s33 1,nt s33 2,nt s33 3,nt s33 4,nt s33 5,nt s33 6,v36,v38,v39,nt s33 13,nt s33 14,nt s33 15,nt s33 16,nt s33 17,nt s33 18,nt s33 19,nt s33 20,nt s33 21,nt s33 22,nt s33 23,nt s33 24,nt s33 25],h94,(l95 ++ l35)⟩)
 (j96 [nt s33 0,nt s33 1,nt s33 2,nt s33 3,nt s33 4,nt s33 5,nt s33 6,nt s33 7,nt s33 8,v36,v38,v39,nt s33 13,nt s33 14,nt s33 15,nt s33 16,nt s33 17,nt s33 18,nt s33 19,nt s33 20,nt s33 21,nt s33 22,nt s33 23,nt s33 24,nt s33 25] h94 (l95 ++ l35)))
 (j41 [nt s33 0,nt s33 1,nt s33 2,nt s33 3,nt s33 4,nt s33 5,nt s33 6,nt s33 7,nt s33 8,v36,v38,v39,nt s33 13,nt s33 14,nt s33 15,nt s33 16,nt s33 17,nt s33 18,nt s33 19,nt s33 20,nt s33 21,nt s33 22,nt s33 23,nt s33 24,nt s33 25] h34 l35)) fun j32 => fork v31
 (hv (call (.fn N_k163) [nt s23 0,nt s23 1,nt s23 2,nt s23 4] h27) fun v100 h101 l102 =>
 ob (bI .sub (nt s23 2) (.int .i64 1)) fun v103 =>
 ob (bI .sub v29 (nt s23 1)) fun v104 =>
 ob (bI .sub v103 v104) fun v105 =>
 j32 [nt s23 0,nt s23 1,nt s23 2,nt s23 3,nt s23 4,nt s23 5,nt s23 6,nt s23 7,v105,(.int .i64 1),nt s23 8,nt s23 9,nt s23 10,nt s23 11,nt s23 12,nt s23 13,nt s23 14,nt s23 15,nt s23 16,nt s23 17,nt s23 18,nt s23 19,nt s23 20,nt s23 21,nt s23 22,nt s23 23] h101 (l102 ++ (l28 ++ l25)))
 (j32 [nt s23 0,nt s23 1,nt s23 2,nt s23 3,nt s23 4,nt s23 5,nt s23 6,nt s23 7,v29,v30,nt s23 8,nt s23 9,nt s23 10,nt s23 11,nt s23 12,nt s23 13,nt s23 14,nt s23 15,nt s23 16,nt s23 17,nt s23 18,nt s23 19,nt s23 20,nt s23 21,nt s23 22,nt s23 23] h27 (l28 ++ l25))) fun j22 => fork v21
 (hv (call (.fn N_k161) [nt s18 0,nt s18 1,nt s18 2,nt s18 4] h19) fun v106 h107 l108 =>
 ob (bI .sub (nt s18 3) (.int .i64 1)) fun v109 =>
 j22 [nt s18 0,nt s18 1,nt s18 2,v109,nt s18 4,nt s18 5,nt s18 6,nt s18 7,nt s18 8,nt s18 9,nt s18 10,nt s18 11,nt s18 12,nt s18 13,nt s18 14,nt s18 15,nt s18 16,nt s18 17,nt s18 18,nt s18 19,nt s18 20,nt s18 21,nt s18 22,nt s18 23] h107 (l108 ++ l20))
 (j22 [nt s18 0,nt s18 1,nt s18 2,nt s18 3,nt s18 4,nt s18 5,nt s18 6,nt s18 7,nt s18 8,nt s18 9,nt s18 10,nt s18 11,nt s18 12,nt s18 13,nt s18 14,nt s18 15,nt s18 16,nt s18 17,nt s18 18,nt s18 19,nt s18 20,nt s18 21,nt s18 22,nt s18 23] h19 l20)) fun j17 => fork v16
 (hv (call (.fn N_k160) [nt s13 0,nt s13 1,nt s13 2,nt s13 4] h14) fun v110 h111 l112 =>
 some ⟨.ret,[nt s13 0,nt s13 1,nt s13 2,nt s13 3,nt s13 4,nt s13 5,nt s13 6,nt s13 8,nt s13 9,nt s13 10,nt s13 11,nt s13 12,nt s13 13,nt s13 14,nt s13 15,nt s13 16,nt s13 17,nt s13 18,nt s13 19,nt s13 20,nt s13 21,nt s13 22,nt s13 23],h111,(l112 ++ l15)⟩)
 (j17 [nt s13 0,nt s13 1,nt s13 2,nt s13 3,nt s13 4,nt s13 5,nt s13 6,nt s13 7,nt s13 8,nt s13 9,nt s13 10,nt s13 11,nt s13 12,nt s13 13,nt s13 14,nt s13 15,nt s13 16,nt s13 17,nt s13 18,nt s13 19,nt s13 20,nt s13 21,nt s13 22,nt s13 23] h14 l15)) fun j12 => fork v11
 (hv (call (.fn N_k159) [nt s4 0,nt s4 1,nt s4 2,nt s4 4] h5) fun v113 h114 l115 =>
 some ⟨.ret,[nt s4 0,nt s4 1,nt s4 2,nt s4 3,nt s4 4,nt s4 5,nt s4 6,nt s4 7,nt s4 8,nt s4 9,nt s4 10,nt s4 11,nt s4 12,nt s4 13,nt s4 14,nt s4 15,nt s4 16,nt s4 17,nt s4 18,nt s4 19,nt s4 20,nt s4 21,nt s4 22],h114,(l115 ++ [])⟩)
 (j12 [nt s4 0,nt s4 1,nt s4 2,nt s4 3,nt s4 4,nt s4 5,nt s4 6,v10,nt s4 7,nt s4 8,nt s4 9,nt s4 10,nt s4 11,nt s4 12,nt s4 13,nt s4 14,nt s4 15,nt s4 16,nt s4 17,nt s4 18,nt s4 19,nt s4 20,nt s4 21,nt s4 22] h5 [])
noncomputable def F_k140 (call:CallF) (lp:LoopF) (x0:Value) (x1:Value) (x2:Value) (x3:Value) (x4:Value) (h:H) : Option R3 :=
 jn3 (fun s1 h2 l3 =>
 fin h (some []) h2 l3) fun j0 =>
 ob (lp (F_k140_L30 call lp) [x0,x1,x2,x3,x4,(.bool true),(.bool true),poison,poison,poison,poison,poison,poison,poison,poison,poison,poison,poison,poison,poison,poison,poison,poison] h) fun o116 =>
 onEx o116.ex (j0 [] o116.h (o116.lg ++ [])) (fun i117 => bif Nat.beq i117 0 then j0 [] o116.h (o116.lg ++ []) else none) (fin h (some []) o116.h (o116.lg ++ []))

--
noncomputable def F_k141 (call:CallF) (lp:LoopF) (x0:Value) (h:H) : Option R3 :=
 jn3 (fun s1 h2 l3 =>
 hv (call (.fn N_k168) [nt s1 0] h2) fun v4 h5 l6 =>
 fin h (rsT v4 (some [])) h5 (l6 ++ l3)) fun j0 => fork (.bool false)
 (ob (rCvI .u32 x0) fun v7 =>
 hv (call (.fn N_k167) [v7] h) fun v8 h9 l10 =>
 fin h (rsT v8 (some [])) h9 (l10 ++ []))
 (j0 [x0] h [])

--
noncomputable def F_k142_L30 (call:CallF) (lp:LoopF) : List Value → H → Option LOut := fun s4 h5 =>
 jn3 (fun s7 h8 l9 =>
 some ⟨.normal,[nt s7 0,nt s7 1,nt s7 2,nt s7 3,nt s7 4,nt s7 5,nt s7 6,nt s7 7,nt s7 8,nt s7 9,nt s7 10,nt s7 11,nt s7 12,nt s7 13,nt s7 14,nt s7 15,nt s7 16,nt s7 17,nt s7 18,nt s7 19],h8,l9⟩) fun j6 =>
 ob (bI .sub (nt s4 2) (nt s4 1)) fun v10 =>
 ob (bI .leq v10 (.int .i64 12)) fun v11 =>
 jn3 (fun s13 h14 l15 =>
 ob (bI .eql (nt s13 3) (.int .i64 0)) fun v16 =>
 jn3 (fun s18 h19 l20 =>
 ob (unV .not (nt s18 4)) fun v21 =>
 jn3 (fun s23 h24 l25 =>
 hv (call (.fn N_k172) [nt s23 0,nt s23 1,nt s23 2] h24) fun v26 h27 l28 =>
 ob (rExtract 0 v26) fun v29 =>
 ob (rExtract 1 v26) fun v30 =>
 ob (bI .eql v30 (.int .i64 2)) fun v31 =>
 jn3 (fun s33 h34 l35 =>
 gP (gd (nt s33 4) true) (some (nt s33 5)) fun v36 =>
 ob (rPick (nt s33 4) v36 (.bool false)) fun v37 =>
 gP (gd v37 true) (some (nt s33 8)) fun v38 =>
 gP (gd v37 true) (bI .eql v38 (.int .i64 1)) fun v39 =>
 ob (rPick v37 v39 (.bool false)) fun v40 =>
 jn3 (fun s42 h43 l44 =>
 ob (bI .gtr (nt s42 1) (.int .i64 0)) fun v45 =>
 gP (gd v45 true) (some (nt s42 0)) fun v46 =>
 gP (gd v45 true) (some (nt s42 1)) fun v47 =>
 gP (gd v45 true) (bI .sub v47 (.int .i64 1)) fun v48 =>
 gP (gd v45 true) (rIdxS 1 v46 v48) fun v49 =>
 gP (gd v45 true) (rLd1 h43.get v49) fun v50 =>
 gP (gd v45 true) (some (nt s42 0)) fun v51 =>
 gP (gd v45 true) (some (nt s42 7)) fun v52 =>
 gP (gd v45 true) (rIdxS 1 v51 v52) fun v53 =>
 gP (gd v45 true) (rLd1 h43.get v53) fun v54 =>
 hv (gV (gd v45 true) (call (.fn N_k175) [v50,v54] h43) h43) fun v55 h56 l57 =>
 gP (gd v45 true) (unV .not v55) fun v58 =>
 ob (rPick v45 v58 (.bool false)) fun v59 =>
 dr [0,1,3,7,7,23,63,127,7,7,775,1799,4095,8191,16383] [mP h43,mP h43,mP h43,mG (gd v45 true) .pure [] h43 h43 [],mG (gd v45 true) .pure [] h43 h43 [],mG (gd v45 true) .pure [] h43 h43 [],mG (gd v45 true) .pure [] h43 h43 [],mG (gd v45 true) .pure (rdP v49) h43 h43 [],mG (gd v45 true) .pure [] h43 h43 [],mG (gd v45 true) .pure [] h43 h43 [],mG (gd v45 true) .pure [] h43 h43 [],mG (gd v45 true) .pure (rdP v53) h43 h43 [],mG (gd v45 true) .heavy (rdL [v50,v54]) h43 h56 l57,mG (gd v45 true) .pure [] h56 h56 [],mP h56] fun l60 =>
 jn3 (fun s62 h63 l64 =>
 hv (call (.fn N_k177) [nt s62 0,nt s62 1,nt s62 2,nt s62 5] h63) fun v65 h66 l67 =>
 ob (rExtract 0 v65) fun v68 =>
 ob (rExtract 1 v65) fun v69 =>
 ob (bI .sub v68 (nt s62 1)) fun v70 =>
 ob (bI .sub (nt s62 2) v68) fun v71 =>
 ob (bI .quo (nt s62 4) (.int .i64 8)) fun v72 =>
 ob (bI .lss v70 v71) fun v73 =>
 jn3 (fun s75 h76 l77 =>
 j6 [nt s75 0,nt s75 1,nt s75 2,nt s75 3,nt s75 4,nt s75 5,nt s75 6,nt s75 7,nt s75 8,nt s75 9,nt s75 10,nt s75 11,nt s75 12,nt s75 13,nt s75 14,nt s75 15,nt s75 16,nt s75 17,nt s75 18,nt s75 19] h76 l77) fun j74 => fork v73
 (ob (bI .geq v70 v72) fun v78 =>
 hv (call (.fn N_k142) [nt s62 0,nt s62 1,v68,nt s62 3] h66) fun v79 h80 l81 =>
 ob (bI .add v68 (.int .i64 1)) fun v82 =>
 j74 [nt s62 0,v82,nt s62 2,nt s62 3,v78,v69,nt s62 6,nt s62 7,nt s62 8,nt s62 9,nt s62 10,nt s62 11,nt s62 12,nt s62 13,nt s62 14,nt s62 15,nt s62 16,nt s62 17,nt s62 18,nt s62 19] h80 (l81 ++ (l67 ++ l64)))
 (ob (bI .geq v71 v72) fun v83 =>
 ob (bI .add v68 (.int .i64 1)) fun v84 =>
 hv (call (.fn N_k142) [nt s62 0,v84,nt s62 2,nt s62 3] h66) fun v85 h86 l87 =>
 j74 [nt s62 0,nt s62 1,v68,nt s62 3,v83,v69,nt s62 6,nt s62 7,nt s62 8,nt s62 9,nt s62 10,nt s62 11,nt s62 12,nt s62 13,nt s62 14,nt s62 15,nt s62 16,nt s62 17,nt s62 18,nt s62 19] h86 (l87 ++ (l67 ++ l64)))) fun j61 => fork v59
 (hv (call (.fn N_k176) [nt s42 0,nt s42 1,nt s42 2,nt s42 7] h56) fun v88 h89 l90 =>
 j6 [nt s42 0,v88,nt s42 2,nt s42 3,nt s42 4,nt s42 5,nt s42 8,nt s42 9,nt s42 10,v46,v47,v48,v49,v50,v51,v52,v53,v54,v55,v58] h89 (l90 ++ (l60 ++ l44)))
 (j61 [nt s42 0,nt s42 1,nt s42 2,nt s42 3,nt s42 6,nt s42 7,nt s42 8,nt s42 9,nt s42 10,v46,v47,v48,v49,v50,v51,v52,v53,v54,v55,v58] h56 (l60 ++ l44))) fun j41 => fork v40
 (hv (call (.fn N_k174) [nt s33 0,nt s33 1,nt s33 2] h34) fun v91 h92 l93 =>
 jn3 (fun s95 h96 l97 =>
 j41 [nt s95 0,nt s95 1,nt s95 2,nt s95 3,nt s95 4,nt s95 5,nt s95 6,nt s95 7,nt s95 8,nt s95 9,nt s95 10,nt s95 11,nt s95 12,nt s95 13,nt s95 14,nt s95 15,nt s95 16,nt s95 17,nt s95 18,nt s95 19,nt s95 20,nt s95 21] h96 l97) fun j94 => fork v91
 (some ⟨.ret,[nt s33 0,nt s33 1,nt s33 2,nt s33 3,nt s33 4,nt s33 5,v36,v38,v39,nt s33 12,nt s33 13,nt s33 14,nt s33 15,nt s33 16,nt s33 17,nt s33 18,nt s33 19,nt s33 20,nt s33 21,nt s33 22],h92,(l93 ++ l35)⟩)
 (j94 [nt s33 0,nt s33 1,nt s33 2,nt s33 3,nt s33 4,nt s33 5,nt s33 6,nt s33 7,v36,v38,v39,nt s33 12,nt s33 13,nt s33 14,nt s33 15,nt s33 16,nt s33 17,nt s33 18,nt s33 19,nt s33 20,nt s33 21,nt s33 22] h92 (l93 ++ l35)))
 (j41 [nt s33 0,nt s33 1,nt s33 2,nt s33 3,nt s33 4,nt s33 5,nt s33 6,nt s33 7,v36,v38,v39,nt s33 12,nt s33 13,nt s33 14,nt s33 15,nt s33 16,nt s33 17,nt s33 18,nt s33 19,nt s33 20,nt s33 21,nt s33 22] h34 l35)) fun j32 => fork v31
 (hv (call (.fn N_k173) [nt s23 0,nt s23 1,nt s23 2] h27) fun v98 h99 l100 =>
 ob (bI .sub (nt s23 2) (.int .i64 1)) fun v101 =>
 ob (bI .sub v29 (nt s23 1)) fun v102 =>
 ob (bI .sub v101 v102) fun v103 =>
 j32 [nt s23 0,nt s23 1,nt s23 2,nt s23 3,nt s23 4,nt s23 5,nt s23 6,v103,(.int .i64 1),nt s23 7,nt s23 8,nt s23 9,nt s23 10,nt s23 11,nt s23 12,nt s23 13,nt s23 14,nt s23 15,nt s23 16,nt s23 17,nt s23 18,nt s23 19,nt s23 20] h99 (l100 ++ (l28 ++ l25)))
 (j32 [nt s23 0,nt s23 1,nt s23 2,nt s23 3,nt s23 4,nt s23 5,nt s23 6,v29,v30,nt s23 7,nt s23 8,nt s23 9,nt s23 10,nt s23 11,nt s23 12,nt s23 13,nt s23 14,nt s23 15,nt s23 16,nt s23 17,nt s23 18,nt s23 19,nt s23 20] h27 (l28 ++ l25))) fun j22 => fork v21
 (hv (call (.fn N_k171) [nt s18 0,nt s18 1,nt s18 2] h19) fun v104 h105 l106 =>
 ob (bI .sub (nt s18 3) (.int .i64 1)) fun v107 =>
 j22 [nt s18 0,nt s18 1,nt s18 2,v107,nt s18 4,nt s18 5,nt s18 6,nt s18 7,nt s18 8,nt s18 9,nt s18 10,nt s18 11,nt s18 12,nt s18 13,nt s18 14,nt s18 15,nt s18 16,nt s18 17,nt s18 18,nt s18 19,nt s18 20] h105 (l106 ++ l20))
 (j22 [nt s18 0,nt s18 1,nt s18 2,nt s18 3,nt s18 4,nt s18 5,nt s18 6,nt s18 7,nt s18 8,nt s18 9,nt s18 10,nt s18 11,nt s18 12,nt s18 13,nt s18 14,nt s18 15,nt s18 16,nt s18 17,nt s18 18,nt s18 19,nt s18 20] h19 l20)) fun j17 => fork v16
 (hv (call (.fn N_k170) [nt s13 0,nt s13 1,nt s13 2] h14) fun v108 h109 l110 =>
 some ⟨.ret,[nt s13 0,nt s13 1,nt s13 2,nt s13 3,nt s13 4,nt s13 5,nt s13 7,nt s13 8,nt s13 9,nt s13 10,nt s13 11,nt s13 12,nt s13 13,nt s13 14,nt s13 15,nt s13 16,nt s13 17,nt s13 18,nt s13 19,nt s13 20],h109,(l110 ++ l15)⟩)
 (j17 [nt s13 0,nt s13 1,nt s13 2,nt s13 3,nt s13 4,nt s13 5,nt s13 6,nt s13 7,nt s13 8,nt s13 9,nt s13 10,nt s13 11,nt s13 12,nt s13 13,nt s13 14,nt s13 15,nt s13 16,nt s13 17,nt s13 18,nt s13 19,nt s13 20] h14 l15)) fun j12 => fork v11
 (hv (call (.fn N_k169) [nt s4 0,nt s4 1,nt s4 2] h5) fun v111 h112 l113 =>
 some ⟨.ret,[nt s4 0,nt s4 1,nt s4 2,nt s4 3,nt s4 4,nt s4 5,nt s4 6,nt s4 7,nt s4 8,nt s4 9,nt s4 10,nt s4 11,nt s4 12,nt s4 13,nt s4 14,nt s4 15,nt s4 16,nt s4 17,nt s4 18,nt s4 19],h112,(l113 ++ [])⟩)
 (j12 [nt s4 0,nt s4 1,nt s4 2,nt s4 3,nt s4 4,nt s4 5,v10,nt s4 6,nt s4 7,nt s4 8,nt s4 9,nt s4 10,nt s4 11,nt s4 12,nt s4 13,nt s4 14,nt s4 15,nt s4 16,nt s4 17,nt s4 18,nt s4 19] h5 [])
noncomputable def F_k142 (call:CallF) (lp:LoopF) (x0:Value) (x1:Value) (x2:Value) (x3:Value) (h:H) : Option R3 :=
 jn3 (fun s1 h2 l3 =>
 fin h (some []) h2 l3) fun j0 =>
 ob (lp (F_k142_L30 call lp) [x0,x1,x2,x3,(.bool true),(.bool true),poison,poison,poison,poison,poison,poison,poison,poison,poison,poison,poison,poison,poison,poison] h) fun o114 =>
 onEx o114.ex (j0 [] o114.h (o114.lg ++ [])) (fun i115 => bif Nat.beq i115 0 then j0 [] o114.h (o114.lg ++ []) else none) (fin h (some []) o114.h (o114.lg ++ []))

--
noncomputable def F_k143 (call:CallF) (lp:LoopF) (x0:Value) (h:H) : Option R3 :=
 ob (binV pgB.ty (tyD (.pointer 0)) .eql x0 (.pointer none)) fun v0 =>
 jn3 (fun s2 h3 l4 =>
 ob (rNil (nt s2 0)) fun v5 =>
 ob (rFld 2 v5) fun v6 =>
 hv (call (.fn N_k178) [v6] h3) fun v7 h8 l9 =>
 fin h (rsT v7 (some [])) h8 (l9 ++ l4)) fun j1 => fork v0
 (fin h (rsT (.int .i64 0) (some [])) h [])
 (j1 [x0] h [])

--
noncomputable def F_k144_L122 (call:CallF) (lp:LoopF) : List Value → H → Option LOut := fun s25 h26 =>
 ob (rLenS (nt s25 0)) fun v27 =>
 ob (bI .lss (nt s25 2) v27) fun v28 =>
 jn3 (fun s30 h31 l32 =>
 jn3 (fun s34 h35 l36 =>
 ob (bI .add (nt s34 2) (.int .i64 1)) fun v37 =>
 some ⟨.normal,[nt s34 0,nt s34 1,v37,nt s34 3,nt s34 4,nt s34 5,nt s34 6,nt s34 7],h35,l36⟩) fun j33 =>
 ob (rIxStr (nt s30 0) (nt s30 2)) fun v38 =>
 hv (call (.fn N_k181) [v38] h31) fun v39 h40 l41 =>
 ob (unV .not v39) fun v42 =>
 gP (gd v42 true) (some (nt s30 0)) fun v43 =>
 gP (gd v42 true) (some (nt s30 2)) fun v44 =>
 gP (gd v42 true) (rIxStr v43 v44) fun v45 =>
 hv (gV (gd v42 true) (call (.fn N_k179) [v45] h40) h40) fun v46 h47 l48 =>
 gP (gd v42 true) (unV .not v46) fun v49 =>
 ob (rPick v42 v49 (.bool false)) fun v50 =>
 jn3 (fun s52 h53 l54 =>
 j33 [nt s52 0,nt s52 1,nt s52 2,nt s52 3,nt s52 4,nt s52 5,nt s52 6,nt s52 7] h53 l54) fun j51 => fork v50
 (some ⟨.ret,[nt s30 0,(.bool false),nt s30 2,v43,v44,v45,v46,v49],h47,(l48 ++ (l41 ++ l32))⟩)
 (j51 [nt s30 0,nt s30 1,nt s30 2,v43,v44,v45,v46,v49] h47 (l48 ++ (l41 ++ l32)))) fun j29 => fork v28
 (j29 [nt s25 0,nt s25 1,nt s25 2,nt s25 3,nt s25 4,nt s25 5,nt s25 6,nt s25 7] h26 [])
 (some ⟨(.exit 0),[nt s25 0,nt s25 1,nt s25 2,nt s25 3,nt s25 4,nt s25 5,nt s25 6,nt s25 7],h26,[]⟩)
noncomputable def F_k144 (call:CallF) (lp:LoopF) (x0:Value) (h:H) : Option R3 :=
 ob (rLenS x0) fun v0 =>
 ob (bI .lss v0 (.int .i64 1)) fun v1 =>
 gP (gd v1 false) (some x0) fun v2 =>
 gP (gd v1 false) (rLenS v2) fun v3 =>
 gP (gd v1 false) (bI .gtr v3 (.int .i64 12)) fun v4 =>
 ob (rPick v1 (.bool true) v4) fun v5 =>
 gP (gd v5 false) (some x0) fun v6 =>
 gP (gd v5 false) (rIxStr v6 (.int .i64 0)) fun v7 =>
 hv (gV (gd v5 false) (call (.fn N_k179) [v7] h) h) fun v8 h9 l10 =>
 ob (rPick v5 (.bool true) v8) fun v11 =>
 gP (gd v11 false) (some x0) fun v12 =>
 hv (gV (gd v11 false) (call (.fn N_k180) [v12] h9) h9) fun v13 h14 l15 =>
 ob (rPick v11 (.bool true) v13) fun v16 =>
 jn3 (fun s18 h19 l20 =>
 jn3 (fun s22 h23 l24 =>
 fin h (rsT (.bool true) (some [])) h23 l24) fun j21 =>
 ob (lp (F_k144_L122 call lp) [nt s18 0,nt s18 1,(.int .i64 0),nt s18 2,nt s18 3,nt s18 4,nt s18 5,nt s18 6] h19) fun o55 =>
 onEx o55.ex (j21 [] o55.h (o55.lg ++ l20)) (fun i56 => bif Nat.beq i56 0 then j21 [] o55.h (o55.lg ++ l20) else none) (fin h (rsT (nt o55.vs 1) (some [])) o55.h (o55.lg ++ l20))) fun j17 => fork v16
 (fin h (rsT (.bool false) (some [])) h14 (l15 ++ (l10 ++ [])))
 (j17 [x0,(.bool false),poison,poison,poison,poison,poison] h14 (l15 ++ (l10 ++ [])))

--
noncomputable def F_k145 (call:CallF) (lp:LoopF) (x0:Value) (h:H) : Option R3 :=
 ob (binV pgB.ty (tyD (.pointer 0)) .eql x0 (.pointer none)) fun v0 =>
 jn3 (fun s2 h3 l4 =>
 ob (rNil (nt s2 0)) fun v5 =>
 ob (rFld 0 v5) fun v6 =>
 ob (rLd1 h3.get v6) fun v7 =>
 ob (binV pgB.ty (tyD (.pointer 0)) .eql v7 (.pointer none)) fun v8 =>
 jn3 (fun s10 h11 l12 =>
 ob (rNil (nt s10 0)) fun v13 =>
 ob (rFld 0 v13) fun v14 =>
 ob (rLd1 h11.get v14) fun v15 =>
 fin h (rsT v15 (some [])) h11 l12) fun j9 => fork v8
 (hv (call (.fn N_k182) [(.func (.func N_k183) #[] #[])] h3) fun v16 h17 l18 =>
 ob (rNil (nt s2 0)) fun v19 =>
 ob (rFld 0 v19) fun v20 =>
 hv (rStore h17 1 v20 v16) fun v21 h22 l23 =>
 j9 [nt s2 0] h22 (l23 ++ (l18 ++ l4)))
 (j9 [nt s2 0] h3 l4)) fun j1 => fork v0
 (fin h (rsT (.pointer none) (some [])) h [])
 (j1 [x0] h [])

--
noncomputable def F_k146 (call:CallF) (lp:LoopF) (x0:Value) (x1:Value) (h:H) : Option R3 :=
 hv (call (.fn N_k184) [x0,x1] h) fun v0 h1 l2 =>
 ob (rExtract 0 v0) fun v3 =>
 ob (rExtract 1 v0) fun v4 =>
 ob (unV .not v4) fun v5 =>
 jn3 (fun s7 h8 l9 =>
 ob (rNil (nt s7 0)) fun v10 =>
 ob (rFld 1 v10) fun v11 =>
 ob (rLd1 h8.get v11) fun v12 =>
 ob (rIdxS 2 v12 (nt s7 1)) fun v13 =>
 ob (rFld 1 v13) fun v14 =>
 ob (rLd1 h8.get v14) fun v15 =>
 fin h (rsT v15 (rsT (.bool true) (some []))) h8 l9) fun j6 => fork v5
 (fin h (rsT (.int .i64 0) (rsT (.bool false) (some []))) h1 (l2 ++ []))
 (j6 [x0,v3] h1 (l2 ++ []))

--
noncomputable def F_k147 (call:CallF) (lp:LoopF) (x0:Value) (x1:Value) (x2:Value) (h:H) : Option R3 :=
 hv (call (.fn N_k184) [x0,x1] h) fun v0 h1 l2 =>
 ob (rExtract 0 v0) fun v3 =>
 ob (rExtract 1 v0) fun v4 =>
 jn3 (fun s6 h7 l8 =>
 ob (rNil (nt s6 0)) fun v9 =>
 ob (rFld 1 v9) fun v10 =>
 ob (rLd1 h7.get v10) fun v11 =>
 ob (oBuild pgB T_omap_pair_string_int [(0,(nt s6 1)),(1,(nt s6 2))]) fun v12 =>
 al (aBuildS pgB h7.n T_Lomap_pair_string_int 1 [(0,v12)]) h7 fun v13 h14 =>
 hv (call (.fn N_k185) [v11,nt s6 3,v13] h14) fun v15 h16 l17 =>
 ob (rNil (nt s6 0)) fun v18 =>
 ob (rFld 1 v18) fun v19 =>
 hv (rStore h16 1 v19 v15) fun v20 h21 l22 =>
 fin h (rsT (.bool true) (some [])) h21 (l22 ++ (l17 ++ l8))) fun j5 =>
 jn3 (fun s24 h25 l26 =>
 j5 [nt s24 0,nt s24 1,nt s24 2,nt s24 3] h25 l26) fun j23 => fork v4
 (ob (rNil x0) fun v27 =>
 ob (rFld 1 v27) fun v28 =>
 ob (rLd1 h1.get v28) fun v29 =>
 ob (rIdxS 2 v29 v3) fun v30 =>
 ob (rFld 1 v30) fun v31 =>
 hv (rStore h1 1 v31 x2) fun v32 h33 l34 =>
 fin h (rsT (.bool false) (some [])) h33 (l34 ++ (l2 ++ [])))
 (ob (binV pgB.ty (tyD (.pointer 0)) .eql x0 (.pointer none)) fun v35 =>
 gP (gd v35 false) (some x0) fun v36 =>
 gP (gd v35 false) (rNil v36) fun v37 =>
 gP (gd v35 false) (rFld 0 v37) fun v38 =>
 gP (gd v35 false) (rLd1 h1.get v38) fun v39 =>
 gP (gd v35 false) (binV pgB.ty (tyD (.func #[] #[] false)) .eql v39 .nilFunc) fun v40 =>
 ob (rPick v35 (.bool true) v40) fun v41 =>
 jn3 (fun s43 h44 l45 =>
 j23 [nt s43 0,nt s43 1,nt s43 2,nt s43 3] h44 l45) fun j42 => fork v41
 (fin h (rsT (.bool false) (some [])) h1 (l2 ++ []))
 (j42 [x0,x1,x2,v3] h1 (l2 ++ [])))

--
noncomputable def F_k148 (call:CallF) (lp:LoopF) (x0:Value) (x1:Value) (h:H) : Option R3 :=
 hv (call (.fn N_k184) [x0,x1] h) fun v0 h1 l2 =>
 ob (rExtract 0 v0) fun v3 =>
 ob (rExtract 1 v0) fun v4 =>
 jn3 (fun s6 h7 l8 =>
 fin h (rsT (nt s6 0) (some [])) h7 l8) fun j5 => fork v4
 (ob (rNil x0) fun v9 =>
 ob (rFld 1 v9) fun v10 =>
 ob (rLd1 h1.get v10) fun v11 =>
 ob (bI .add v3 (.int .i64 1)) fun v12 =>
 hv (call (.fn N_k186) [v11,v3,v12] h1) fun v13 h14 l15 =>
 ob (rNil x0) fun v16 =>
 ob (rFld 1 v16) fun v17 =>
 hv (rStore h14 1 v17 v13) fun v18 h19 l20 =>
 j5 [v4] h19 (l20 ++ (l15 ++ (l2 ++ []))))
 (j5 [v4] h1 (l2 ++ []))

--
noncomputable def F_k149 (call:CallF) (lp:LoopF) (x0:Value) (h:H) : Option R3 :=
 ob (binV pgB.ty (tyD (.int .u8)) .geq x0 (.int .u8 48)) fun v0 =>
 gP (gd v0 true) (some x0) fun v1 =>
 gP (gd v0 true) (binV pgB.ty (tyD (.int .u8)) .leq v1 (.int .u8 57)) fun v2 =>
 ob (rPick v0 v2 (.bool false)) fun v3 =>
 fin h (rsT v3 (some [])) h []

--
noncomputable def F_k150 (call:CallF) (lp:LoopF) (x0:Value) (h:H) : Option R3 :=
 jn3 (fun s1 h2 l3 =>
 fin h (rsT (.bool false) (some [])) h2 l3) fun j0 =>
 ob (binV pgB.ty (tyD .string) .eql x0 (.string ⟨#[116,97,98,108,101]⟩)) fun v4 =>
 jn3 (fun s6 h7 l8 =>
 jn3 (fun s10 h11 l12 =>
 j0 [] h11 l12) fun j9 => fork (nt s6 0)
 (fin h (rsT (.bool true) (some [])) h7 l8)
 (j9 [] h7 l8)) fun j5 => fork v4
 (j5 [v4] h [])
 (ob (binV pgB.ty (tyD .string) .eql x0 (.string ⟨#[107,101,121]⟩)) fun v13 =>
 jn3 (fun s15 h16 l17 =>
 j5 [nt s15 0] h16 l17) fun j14 => fork v13
 (j14 [v13] h [])
 (ob (binV pgB.ty (tyD .string) .eql x0 (.string ⟨#[102,100]⟩)) fun v18 =>
 jn3 (fun s20 h21 l22 =>
 j14 [nt s20 0] h21 l22) fun j19 => fork v18
 (j19 [v18] h [])
 (ob (binV pgB.ty (tyD .string) .eql x0 (.string ⟨#[105,110,116]⟩)) fun v23 =>
 jn3 (fun s25 h26 l27 =>
 j19 [nt s25 0] h26 l27) fun j24 => fork v23
 (j24 [v23] h [])
 (ob (binV pgB.ty (tyD .string) .eql x0 (.string ⟨#[116,101,120,116]⟩)) fun v28 =>
 jn3 (fun s30 h31 l32 =>
 j24 [nt s30 0] h31 l32) fun j29 => fork v28
 (j29 [v28] h [])
 (ob (binV pgB.ty (tyD .string) .eql x0 (.string ⟨#[109,117,115,116]⟩)) fun v33 =>
 jn3 (fun s35 h36 l37 =>
 j29 [nt s35 0] h36 l37) fun j34 => fork v33
 (j34 [v33] h [])
 (ob (binV pgB.ty (tyD .string) .eql x0 (.string ⟨#[116,111]⟩)) fun v38 =>
 jn3 (fun s40 h41 l42 =>
 j34 [nt s40 0] h41 l42) fun j39 => fork v38
 (j39 [v38] h [])
 (ob (binV pgB.ty (tyD .string) .eql x0 (.string ⟨#[108,111,97,100]⟩)) fun v43 =>
 jn3 (fun s45 h46 l47 =>
 j39 [nt s45 0] h46 l47) fun j44 => fork v43
 (j44 [v43] h [])
 (ob (binV pgB.ty (tyD .string) .eql x0 (.string ⟨#[105,110,115,101,114,116]⟩)) fun v48 =>
 jn3 (fun s50 h51 l52 =>
 j44 [nt s50 0] h51 l52) fun j49 => fork v48
 (j49 [v48] h [])
 (ob (binV pgB.ty (tyD .string) .eql x0 (.string ⟨#[100,101,108,101,116,101]⟩)) fun v53 =>
 jn3 (fun s55 h56 l57 =>
 j49 [nt s55 0] h56 l57) fun j54 => fork v53
 (j54 [v53] h [])
 (ob (binV pgB.ty (tyD .string) .eql x0 (.string ⟨#[117,112,100,97,116,101]⟩)) fun v58 =>
 jn3 (fun s60 h61 l62 =>
 j54 [nt s60 0] h61 l62) fun j59 => fork v58
 (j59 [v58] h [])
 (ob (binV pgB.ty (tyD .string) .eql x0 (.string ⟨#[115,117,109,109,97,114,121]⟩)) fun v63 =>
 jn3 (fun s65 h66 l67 =>
 j59 [nt s65 0] h66 l67) fun j64 => fork v63
 (j64 [v63] h [])
 (ob (binV pgB.ty (tyD .string) .eql x0 (.string ⟨#[111,110]⟩)) fun v68 =>
 jn3 (fun s70 h71 l72 =>
 j64 [nt s70 0] h71 l72) fun j69 => fork v68
 (j69 [v68] h [])
 (ob (binV pgB.ty (tyD .string) .eql x0 (.string ⟨#[98,121]⟩)) fun v73 =>
 jn3 (fun s75 h76 l77 =>
 j69 [nt s75 0] h76 l77) fun j74 => fork v73
 (j74 [v73] h [])
 (ob (binV pgB.ty (tyD .string) .eql x0 (.string ⟨#[107,101,101,112]⟩)) fun v78 =>
 jn3 (fun s80 h81 l82 =>
 j74 [nt s80 0] h81 l82) fun j79 => fork v78
 (j79 [v78] h [])
 (ob (binV pgB.ty (tyD .string) .eql x0 (.string ⟨#[100,114,111,112]⟩)) fun v83 =>
 jn3 (fun s85 h86 l87 =>
 j79 [nt s85 0] h86 l87) fun j84 => fork v83
 (j84 [v83] h [])
 (ob (binV pgB.ty (tyD .string) .eql x0 (.string ⟨#[102,114,111,109]⟩)) fun v88 =>
 jn3 (fun s90 h91 l92 =>
 j84 [nt s90 0] h91 l92) fun j89 => fork v88
 (j89 [v88] h [])
 (ob (binV pgB.ty (tyD .string) .eql x0 (.string ⟨#[119,104,101,114,101]⟩)) fun v93 =>
 jn3 (fun s95 h96 l97 =>
 j89 [nt s95 0] h96 l97) fun j94 => fork v93
 (j94 [v93] h [])
 (ob (binV pgB.ty (tyD .string) .eql x0 (.string ⟨#[97,110,100]⟩)) fun v98 =>
 jn3 (fun s100 h101 l102 =>
 j94 [nt s100 0] h101 l102) fun j99 => fork v98
 (j99 [v98] h [])
 (ob (binV pgB.ty (tyD .string) .eql x0 (.string ⟨#[105,115]⟩)) fun v103 =>
 jn3 (fun s105 h106 l107 =>
 j99 [nt s105 0] h106 l107) fun j104 => fork v103
 (j104 [v103] h [])
 (ob (binV pgB.ty (tyD .string) .eql x0 (.string ⟨#[110,111,116]⟩)) fun v108 =>
 jn3 (fun s110 h111 l112 =>
 j104 [nt s110 0] h111 l112) fun j109 => fork v108
 (j109 [v108] h [])
 (ob (binV pgB.ty (tyD .string) .eql x0 (.string ⟨#[110,117,108,108]⟩)) fun v113 =>
 jn3 (fun s115 h116 l117 =>
 j109 [nt s115 0] h116 l117) fun j114 => fork v113
 (j114 [v113] h [])
 (ob (binV pgB.ty (tyD .string) .eql x0 (.string ⟨#[114,111,108,108,117,112]⟩)) fun v118 =>
 jn3 (fun s120 h121 l122 =>
 j114 [nt s120 0] h121 l122) fun j119 => fork v118
 (j119 [v118] h [])
 (ob (binV pgB.ty (tyD .string) .eql x0 (.string ⟨#[99,117,98,101]⟩)) fun v123 =>
 jn3 (fun s125 h126 l127 =>
 j119 [nt s125 0] h126 l127) fun j124 => fork v123
 (j124 [v123] h [])
 (ob (binV pgB.ty (tyD .string) .eql x0 (.string ⟨#[115,104,111,119]⟩)) fun v128 =>
 jn3 (fun s130 h131 l132 =>
 j124 [nt s130 0] h131 l132) fun j129 => fork v128
 (j129 [v128] h [])
 (ob (binV pgB.ty (tyD .string) .eql x0 (.string ⟨#[104,97,118,105,110,103]⟩)) fun v133 =>
 jn3 (fun s135 h136 l137 =>
 j129 [nt s135 0] h136 l137) fun j134 => fork v133
 (j134 [v133] h [])
 (ob (binV pgB.ty (tyD .string) .eql x0 (.string ⟨#[111,114,100,101,114]⟩)) fun v138 =>
 jn3 (fun s140 h141 l142 =>
 j134 [nt s140 0] h141 l142) fun j139 => fork v138
 (j139 [v138] h [])
 (ob (binV pgB.ty (tyD .string) .eql x0 (.string ⟨#[100,101,115,99]⟩)) fun v143 =>
 jn3 (fun s145 h146 l147 =>
 j139 [nt s145 0] h146 l147) fun j144 => fork v143
 (j144 [v143] h [])
 (ob (binV pgB.ty (tyD .string) .eql x0 (.string ⟨#[108,105,109,105,116]⟩)) fun v148 =>
 jn3 (fun s150 h151 l152 =>
 j144 [nt s150 0] h151 l152) fun j149 => fork v148
 (j149 [v148] h [])
 (ob (binV pgB.ty (tyD .string) .eql x0 (.string ⟨#[117,115,105,110,103]⟩)) fun v153 =>
 jn3 (fun s155 h156 l157 =>
 j149 [nt s155 0] h156 l157) fun j154 => fork v153
 (j154 [v153] h [])
 (ob (binV pgB.ty (tyD .string) .eql x0 (.string ⟨#[98,97,115,101]⟩)) fun v158 =>
 jn3 (fun s160 h161 l162 =>
 j154 [nt s160 0] h161 l162) fun j159 => fork v158
 (j159 [v158] h [])
 (ob (binV pgB.ty (tyD .string) .eql x0 (.string ⟨#[99,111,117,110,116]⟩)) fun v163 =>
 jn3 (fun s165 h166 l167 =>
 j159 [nt s165 0] h166 l167) fun j164 => fork v163
 (j164 [v163] h [])
 (ob (binV pgB.ty (tyD .string) .eql x0 (.string ⟨#[115,117,109]⟩)) fun v168 =>
 jn3 (fun s170 h171 l172 =>
 j164 [nt s170 0] h171 l172) fun j169 => fork v168
 (j169 [v168] h [])
 (ob (binV pgB.ty (tyD .string) .eql x0 (.string ⟨#[109,105,110]⟩)) fun v173 =>
 jn3 (fun s175 h176 l177 =>
 j169 [nt s175 0] h176 l177) fun j174 => fork v173
 (j174 [v173] h [])
 (ob (binV pgB.ty (tyD .string) .eql x0 (.string ⟨#[109,97,120]⟩)) fun v178 =>
 jn3 (fun s180 h181 l182 =>
 j174 [nt s180 0] h181 l182) fun j179 => fork v178
 (j179 [v178] h [])
 (ob (binV pgB.ty (tyD .string) .eql x0 (.string ⟨#[97,118,103]⟩)) fun v183 =>
 jn3 (fun s185 h186 l187 =>
 j179 [nt s185 0] h186 l187) fun j184 => fork v183
 (j184 [v183] h [])
 (ob (binV pgB.ty (tyD .string) .eql x0 (.string ⟨#[100,105,115,116,105,110,99,116]⟩)) fun v188 =>
 jn3 (fun s190 h191 l192 =>
 j184 [nt s190 0] h191 l192) fun j189 => fork v188
 (j189 [v188] h [])
 (ob (binV pgB.ty (tyD .string) .eql x0 (.string ⟨#[114,111,119,115]⟩)) fun v193 =>
 j189 [v193] h [])))))))))))))))))))))))))))))))))))))

--
noncomputable def F_k151 (call:CallF) (lp:LoopF) (x0:Value) (h:H) : Option R3 :=
 ob (binV pgB.ty (tyD (.int .u8)) .geq x0 (.int .u8 97)) fun v0 =>
 gP (gd v0 true) (some x0) fun v1 =>
 gP (gd v0 true) (binV pgB.ty (tyD (.int .u8)) .leq v1 (.int .u8 122)) fun v2 =>
 ob (rPick v0 v2 (.bool false)) fun v3 =>
 gP (gd v3 false) (some x0) fun v4 =>
 gP (gd v3 false) (binV pgB.ty (tyD (.int .u8)) .eql v4 (.int .u8 95)) fun v5 =>
 ob (rPick v3 (.bool true) v5) fun v6 =>
 fin h (rsT v6 (some [])) h []

--
noncomputable def F_k152 (call:CallF) (lp:LoopF) (x0:Value) (x1:Value) (h:H) : Option R3 :=
 hv (call (.fn N_k187) [x0,x1] h) fun v0 h1 l2 =>
 ob (bI .geq v0 (.int .i64 0)) fun v3 =>
 fin h (rsT v3 (some [])) h1 (l2 ++ [])

--
noncomputable def F_k153_L58 (call:CallF) (lp:LoopF) : List Value → H → Option LOut := fun s5 h6 =>
 ob (bI .lss (nt s5 4) (nt s5 3)) fun v7 =>
 jn3 (fun s9 h10 l11 =>
 jn3 (fun s13 h14 l15 =>
 ob (bI .add (nt s13 4) (.int .i64 1)) fun v16 =>
 some ⟨.normal,[nt s13 0,nt s13 1,nt s13 2,nt s13 3,v16],h14,l15⟩) fun j12 =>
 ob (rIdxS 2 (nt s9 0) (nt s9 4)) fun v17 =>
 ob (rLdA h10.get 2 v17) fun v18 =>
 hv (callV call h10 (nt s9 1) [v18]) fun v19 h20 l21 =>
 jn3 (fun s23 h24 l25 =>
 j12 [nt s23 0,nt s23 1,nt s23 2,nt s23 3,nt s23 4] h24 l25) fun j22 => fork v19
 (some ⟨.ret,[nt s9 0,nt s9 1,nt s9 4,nt s9 3,nt s9 4],h20,(l21 ++ l11)⟩)
 (j22 [nt s9 0,nt s9 1,nt s9 2,nt s9 3,nt s9 4] h20 (l21 ++ l11))) fun j8 => fork v7
 (j8 [nt s5 0,nt s5 1,nt s5 2,nt s5 3,nt s5 4] h6 [])
 (some ⟨(.exit 0),[nt s5 0,nt s5 1,nt s5 2,nt s5 3,nt s5 4],h6,[]⟩)
noncomputable def F_k153 (call:CallF) (lp:LoopF) (x0:Value) (x1:Value) (h:H) : Option R3 :=
 ob (rLenL x0) fun v0 =>
 jn3 (fun s2 h3 l4 =>
 fin h (rsT (.int .i64 (-1)) (some [])) h3 l4) fun j1 =>
 ob (lp (F_k153_L58 call lp) [x0,x1,(.int .i64 0),v0,(.int .i64 0)] h) fun o26 =>
 onEx o26.ex (j1 [] o26.h (o26.lg ++ [])) (fun i27 => bif Nat.beq i27 0 then j1 [] o26.h (o26.lg ++ []) else none) (fin h (rsT (nt o26.vs 2) (some [])) o26.h (o26.lg ++ []))

--
noncomputable def F_k154 (call:CallF) (lp:LoopF) (x0:Value) (x1:Value) (h:H) : Option R3 :=
 ob (rLdA h.get 4 x1) fun v0 =>
 hv (call (.fn N_k92) [v0,x0] h) fun v1 h2 l3 =>
 ob (bI .lss v1 (.int .i64 0)) fun v4 =>
 fin h (rsT v4 (some [])) h2 (l3 ++ [])

--
noncomputable def F_k155 (call:CallF) (lp:LoopF) (x0:Value) (x1:Value) (h:H) : Option R3 :=
 hv (call (.fn N_k188) [x0,x1] h) fun v0 h1 l2 =>
 ob (bI .geq v0 (.int .i64 0)) fun v3 =>
 fin h (rsT v3 (some [])) h1 (l2 ++ [])

--
noncomputable def F_k156 (call:CallF) (lp:LoopF) (x0:Value) (h:H) : Option R3 :=
 ob (bI .neq x0 x0) fun v0 =>
 fin h (rsT v0 (some [])) h []

--
noncomputable def F_k157 (call:CallF) (lp:LoopF) (x0:Value) (h:H) : Option R3 :=
 ob (bI .neq x0 x0) fun v0 =>
 fin h (rsT v0 (some [])) h []

--
noncomputable def F_k158 (call:CallF) (lp:LoopF) (x0:Value) (h:H) : Option R3 :=
 ob (binV pgB.ty (tyD .string) .neq x0 x0) fun v0 =>
 fin h (rsT v0 (some [])) h []

--
noncomputable def F_k159_L914 (call:CallF) (lp:LoopF) : List Value → H → Option LOut := fun s21 h22 =>
 ob (bI .gtr (nt s21 5) (nt s21 1)) fun v23 =>
 gP (gd v23 true) (some (nt s21 3)) fun v24 =>
 gP (gd v23 true) (some (nt s21 0)) fun v25 =>
 gP (gd v23 true) (some (nt s21 5)) fun v26 =>
 gP (gd v23 true) (rIdxS 2 v25 v26) fun v27 =>
 gP (gd v23 true) (rLdA h22.get 2 v27) fun v28 =>
 gP (gd v23 true) (some (nt s21 0)) fun v29 =>
 gP (gd v23 true) (some (nt s21 5)) fun v30 =>
 gP (gd v23 true) (bI .sub v30 (.int .i64 1)) fun v31 =>
 gP (gd v23 true) (rIdxS 2 v29 v31) fun v32 =>
 gP (gd v23 true) (rLdA h22.get 2 v32) fun v33 =>
 hv (gV (gd v23 true) (callV call h22 v24 [v28,v33]) h22) fun v34 h35 l36 =>
 gP (gd v23 true) (bI .lss v34 (.int .i64 0)) fun v37 =>
 ob (rPick v23 v37 (.bool false)) fun v38 =>
 dr [0,0,3,7,15,15,15,111,239,15,15,1039,3599,7695,16383,32767,65535] [mP h22,mP h22,mP h22,mP h22,mG (gd v23 true) .pure [] h22 h22 [],mG (gd v23 true) .pure [] h22 h22 [],mG (gd v23 true) .pure [] h22 h22 [],mG (gd v23 true) .pure [] h22 h22 [],mG (gd v23 true) .pure (rdP v27) h22 h22 [],mG (gd v23 true) .pure [] h22 h22 [],mG (gd v23 true) .pure [] h22 h22 [],mG (gd v23 true) .pure [] h22 h22 [],mG (gd v23 true) .pure [] h22 h22 [],mG (gd v23 true) .pure (rdP v32) h22 h22 [],mG (gd v23 true) .heavy (rdL [v28,v33]) h22 h35 l36,mG (gd v23 true) .pure [] h35 h35 [],mP h35] fun l39 =>
 jn3 (fun s41 h42 l43 =>
 jn3 (fun s45 h46 l47 =>
 ob (bI .sub (nt s45 5) (.int .i64 1)) fun v48 =>
 some ⟨.normal,[nt s45 0,nt s45 1,nt s45 2,nt s45 3,nt s45 4,v48,nt s45 6,nt s45 7,nt s45 8,nt s45 9,nt s45 10,nt s45 11,nt s45 12,nt s45 13,nt s45 14,nt s45 15,nt s45 16,nt s45 17],h46,l47⟩) fun j44 =>
 ob (bI .sub (nt s41 5) (.int .i64 1)) fun v49 =>
 ob (bI .sub (nt s41 5) (.int .i64 1)) fun v50 =>
 ob (rIdxS 2 (nt s41 0) v50) fun v51 =>
 ob (rLdA h42.get 2 v51) fun v52 =>
 ob (rIdxS 2 (nt s41 0) (nt s41 5)) fun v53 =>
 ob (rLdA h42.get 2 v53) fun v54 =>
 ob (rIdxS 2 (nt s41 0) (nt s41 5)) fun v55 =>
 hv (rStore h42 2 v55 v52) fun v56 h57 l58 =>
 ob (rIdxS 2 (nt s41 0) v49) fun v59 =>
 hv (rStore h57 2 v59 v54) fun v60 h61 l62 =>
 dr [0,0,0,0,8,0,0,64,224,480,0,0,3072,7168,16355,32739,65535,131071] [mP h42,mP h42,mP h42,mP h42,mP h42,mP h42,mP h42,mP h42,mP h42,mR h42 (rdP v51),mP h42,mP h42,mP h42,mR h42 (rdP v53),mP h42,mH h42 [] l58 h57,mP h57,mH h57 [] l62 h61] fun l63 =>
 j44 [nt s41 0,nt s41 1,nt s41 2,nt s41 3,nt s41 4,nt s41 5,nt s41 6,nt s41 7,nt s41 8,nt s41 9,nt s41 10,nt s41 11,nt s41 12,nt s41 13,nt s41 14,nt s41 15,nt s41 16,nt s41 17] h61 (l63 ++ l43)) fun j40 => fork v38
 (j40 [nt s21 0,nt s21 1,nt s21 2,nt s21 3,nt s21 4,nt s21 5,v24,v25,v26,v27,v28,v29,v30,v31,v32,v33,v34,v37] h35 (l39 ++ []))
 (some ⟨(.exit 2),[nt s21 0,nt s21 1,nt s21 2,nt s21 3,nt s21 4,nt s21 5,v24,v25,v26,v27,v28,v29,v30,v31,v32,v33,v34,v37],h35,(l39 ++ [])⟩)
noncomputable def F_k159_L14 (call:CallF) (lp:LoopF) : List Value → H → Option LOut := fun s5 h6 =>
 ob (bI .lss (nt s5 4) (nt s5 2)) fun v7 =>
 jn3 (fun s9 h10 l11 =>
 jn3 (fun s13 h14 l15 =>
 ob (bI .add (nt s13 4) (.int .i64 1)) fun v16 =>
 some ⟨.normal,[nt s13 0,nt s13 1,nt s13 2,nt s13 3,v16,nt s13 5,nt s13 6,nt s13 7,nt s13 8,nt s13 9,nt s13 10,nt s13 11,nt s13 12,nt s13 13,nt s13 14,nt s13 15,nt s13 16],h14,l15⟩) fun j12 =>
 jn3 (fun s18 h19 l20 =>
 j12 [nt s18 0,nt s18 1,nt s18 2,nt s18 3,nt s18 4,nt s18 5,nt s18 6,nt s18 7,nt s18 8,nt s18 9,nt s18 10,nt s18 11,nt s18 12,nt s18 13,nt s18 14,nt s18 15,nt s18 16] h19 l20) fun j17 =>
 ob (lp (F_k159_L914 call lp) [nt s9 0,nt s9 1,nt s9 2,nt s9 3,nt s9 4,nt s9 4,nt s9 5,nt s9 6,nt s9 7,nt s9 8,nt s9 9,nt s9 10,nt s9 11,nt s9 12,nt s9 13,nt s9 14,nt s9 15,nt s9 16] h10) fun o64 =>
 onEx o64.ex (j17 [(nt o64.vs 0),(nt o64.vs 1),(nt o64.vs 2),(nt o64.vs 3),(nt o64.vs 4),(nt o64.vs 6),(nt o64.vs 7),(nt o64.vs 8),(nt o64.vs 9),(nt o64.vs 10),(nt o64.vs 11),(nt o64.vs 12),(nt o64.vs 13),(nt o64.vs 14),(nt o64.vs 15),(nt o64.vs 16),(nt o64.vs 17)] o64.h (o64.lg ++ l11)) (fun i65 => bif Nat.beq i65 2 then j17 [(nt o64.vs 0),(nt o64.vs 1),(nt o64.vs 2),(nt o64.vs 3),(nt o64.vs 4),(nt o64.vs 6),(nt o64.vs 7),(nt o64.vs 8),(nt o64.vs 9),(nt o64.vs 10),(nt o64.vs 11),(nt o64.vs 12),(nt o64.vs 13),(nt o64.vs 14),(nt o64.vs 15),(nt o64.vs 16),(nt o64.vs 17)] o64.h (o64.lg ++ l11) else bif Nat.beq i65 1 then j12 [(nt o64.vs 0),(nt o64.vs 1),(nt o64.vs 2),(nt o64.vs 3),(nt o64.vs 4),(nt o64.vs 6),(nt o64.vs 7),(nt o64.vs 8),(nt o64.vs 9),(nt o64.vs 10),(nt o64.vs 11),(nt o64.vs 12),(nt o64.vs 13),(nt o64.vs 14),(nt o64.vs 15),(nt o64.vs 16),(nt o64.vs 17)] o64.h (o64.lg ++ l11) else some ⟨(.exit i65),[(nt o64.vs 0),(nt o64.vs 1),(nt o64.vs 2),(nt o64.vs 3),(nt o64.vs 4),(nt o64.vs 6),(nt o64.vs 7),(nt o64.vs 8),(nt o64.vs 9),(nt o64.vs 10),(nt o64.vs 11),(nt o64.vs 12),(nt o64.vs 13),(nt o64.vs 14),(nt o64.vs 15),(nt o64.vs 16),(nt o64.vs 17)],o64.h,(o64.lg ++ l11)⟩) (some ⟨.ret,[(nt o64.vs 0),(nt o64.vs 1),(nt o64.vs 2),(nt o64.vs 3),(nt o64.vs 4),(nt o64.vs 6),(nt o64.vs 7),(nt o64.vs 8),(nt o64.vs 9),(nt o64.vs 10),(nt o64.vs 11),(nt o64.vs 12),(nt o64.vs 13),(nt o64.vs 14),(nt o64.vs 15),(nt o64.vs 16),(nt o64.vs 17)],o64.h,(o64.lg ++ l11)⟩)) fun j8 => fork v7
 (j8 [nt s5 0,nt s5 1,nt s5 2,nt s5 3,nt s5 4,nt s5 5,nt s5 6,nt s5 7,nt s5 8,nt s5 9,nt s5 10,nt s5 11,nt s5 12,nt s5 13,nt s5 14,nt s5 15,nt s5 16] h6 [])
 (some ⟨(.exit 0),[nt s5 0,nt s5 1,nt s5 2,nt s5 3,nt s5 4,nt s5 5,nt s5 6,nt s5 7,nt s5 8,nt s5 9,nt s5 10,nt s5 11,nt s5 12,nt s5 13,nt s5 14,nt s5 15,nt s5 16],h6,[]⟩)
noncomputable def F_k159 (call:CallF) (lp:LoopF) (x0:Value) (x1:Value) (x2:Value) (x3:Value) (h:H) : Option R3 :=
 ob (bI .add x1 (.int .i64 1)) fun v0 =>
 jn3 (fun s2 h3 l4 =>
 fin h (some []) h3 l4) fun j1 =>
 ob (lp (F_k159_L14 call lp) [x0,x1,x2,x3,v0,poison,poison,poison,poison,poison,poison,poison,poison,poison,poison,poison,poison] h) fun o66 =>
 onEx o66.ex (j1 [] o66.h (o66.lg ++ [])) (fun i67 => bif Nat.beq i67 0 then j1 [] o66.h (o66.lg ++ []) else none) (fin h (some []) o66.h (o66.lg ++ []))

--
noncomputable def F_k162 (call:CallF) (lp:LoopF) (x0:Value) (x1:Value) (x2:Value) (x3:Value) (h:H) : Option R3 :=
 ob (bI .sub x2 x1) fun v0 =>
 al (aNew h.n T_i64_b [(.int .i64 0)]) h fun v1 h2 =>
 ob (bI .quo v0 (.int .i64 4)) fun v3 =>
 ob (bI .mul v3 (.int .i64 1)) fun v4 =>
 ob (bI .add x1 v4) fun v5 =>
 ob (bI .quo v0 (.int .i64 4)) fun v6 =>
 ob (bI .mul v6 (.int .i64 2)) fun v7 =>
 ob (bI .add x1 v7) fun v8 =>
 ob (bI .quo v0 (.int .i64 4)) fun v9 =>
 ob (bI .mul v9 (.int .i64 3)) fun v10 =>
 ob (bI .add x1 v10) fun v11 =>
 ob (bI .geq v0 (.int .i64 8)) fun v12 =>
 jn3 (fun s14 h15 l16 =>
 ob (rLd1 h15.get (nt s14 0)) fun v17 =>
 jn3 (fun s19 h20 l21 =>
 fin h (rsT (nt s19 0) (rsT (nt s19 1) (some []))) h20 l21) fun j18 =>
 ob (bI .eql v17 (.int .i64 0)) fun v22 =>
 jn3 (fun s24 h25 l26 =>
 j18 [nt s24 0,nt s24 1] h25 l26) fun j23 => fork v22
 (fin h (rsT (nt s14 1) (rsT (.int .i64 1) (some []))) h15 l16)
 (ob (bI .eql v17 (.int .i64 12)) fun v27 =>
 jn3 (fun s29 h30 l31 =>
 j23 [nt s29 0,nt s29 1] h30 l31) fun j28 => fork v27
 (fin h (rsT (nt s14 1) (rsT (.int .i64 2) (some []))) h15 l16)
 (fin h (rsT (nt s14 1) (rsT (.int .i64 0) (some []))) h15 l16))) fun j13 => fork v12
 (ob (bI .geq v0 (.int .i64 50)) fun v32 =>
 jn3 (fun s34 h35 l36 =>
 hv (call (.fn N_k193) [nt s34 0,nt s34 3,nt s34 4,nt s34 5,nt s34 2,nt s34 1] h35) fun v37 h38 l39 =>
 j13 [nt s34 2,v37] h38 (l39 ++ l36)) fun j33 => fork v32
 (hv (call (.fn N_k192) [x0,v5,v1,x3] h2) fun v40 h41 l42 =>
 hv (call (.fn N_k192) [x0,v8,v1,x3] h41) fun v43 h44 l45 =>
 hv (call (.fn N_k192) [x0,v11,v1,x3] h44) fun v46 h47 l48 =>
 j33 [x0,x3,v1,v40,v43,v46] h47 (l48 ++ (l45 ++ (l42 ++ []))))
 (j33 [x0,x3,v1,v5,v8,v11] h2 []))
 (j13 [v1,v8] h2 [])

--
noncomputable def F_k164_L1001978 (call:CallF) (lp:LoopF) : List Value → H → Option LOut := fun s64 h65 =>
 ob (bI .lss (nt s64 7) (nt s64 2)) fun v66 =>
 jn3 (fun s68 h69 l70 =>
 jn3 (fun s72 h73 l74 =>
 ob (bI .add (nt s72 7) (.int .i64 1)) fun v75 =>
 some ⟨.normal,[nt s72 0,nt s72 1,nt s72 2,nt s72 3,nt s72 4,nt s72 5,nt s72 6,v75,nt s72 8,nt s72 9,nt s72 10,nt s72 11,nt s72 12,nt s72 13,nt s72 14,nt s72 15,nt s72 16,nt s72 17,nt s72 18,nt s72 19,nt s72 20],h73,l74⟩) fun j71 =>
 ob (rIdxS 2 (nt s68 0) (nt s68 7)) fun v76 =>
 ob (rLdA h69.get 2 v76) fun v77 =>
 ob (bI .sub (nt s68 7) (.int .i64 1)) fun v78 =>
 ob (rIdxS 2 (nt s68 0) v78) fun v79 =>
 ob (rLdA h69.get 2 v79) fun v80 =>
 hv (callV call h69 (nt s68 3) [v77,v80]) fun v81 h82 l83 =>
 ob (bI .lss v81 (.int .i64 0)) fun v84 =>
 ob (unV .not v84) fun v85 =>
 dr [0,0,0,6,14,0,0,64,224,480,1023,2047,4095] [mP h69,mP h69,mP h69,mP h69,mR h69 (rdP v76),mP h69,mP h69,mP h69,mP h69,mR h69 (rdP v79),mH h69 (rdL [v77,v80]) l83 h82,mP h82,mP h82] fun l86 =>
 jn3 (fun s88 h89 l90 =>
 ob (bI .sub (nt s88 7) (.int .i64 1)) fun v91 =>
 ob (bI .sub (nt s88 7) (.int .i64 1)) fun v92 =>
 ob (rIdxS 2 (nt s88 0) v92) fun v93 =>
 ob (rLdA h89.get 2 v93) fun v94 =>
 ob (rIdxS 2 (nt s88 0) (nt s88 7)) fun v95 =>
 ob (rLdA h89.get 2 v95) fun v96 =>
 ob (rIdxS 2 (nt s88 0) (nt s88 7)) fun v97 =>
 hv (rStore h89 2 v97 v94) fun v98 h99 l100 =>
 ob (rIdxS 2 (nt s88 0) v91) fun v101 =>
 hv (rStore h99 2 v101 v96) fun v102 h103 l104 =>
 dr [0,0,0,0,8,0,0,64,224,480,0,0,3072,7168,16355,32739,65535,131071] [mP h89,mP h89,mP h89,mP h89,mP h89,mP h89,mP h89,mP h89,mP h89,mR h89 (rdP v93),mP h89,mP h89,mP h89,mR h89 (rdP v95),mP h89,mH h89 [] l100 h99,mP h99,mH h99 [] l104 h103] fun l105 =>
 j71 [nt s88 0,nt s88 1,nt s88 2,nt s88 3,nt s88 4,nt s88 5,nt s88 6,nt s88 7,nt s88 8,nt s88 9,nt s88 10,nt s88 11,nt s88 12,nt s88 13,nt s88 14,nt s88 15,nt s88 16,nt s88 17,nt s88 18,nt s88 19,nt s88 20] h103 (l105 ++ l90)) fun j87 => fork v85
 (some ⟨(.exit 6),[nt s68 0,nt s68 1,nt s68 2,nt s68 3,nt s68 4,nt s68 5,nt s68 6,nt s68 7,nt s68 8,nt s68 9,nt s68 10,nt s68 11,nt s68 12,nt s68 13,nt s68 14,nt s68 15,nt s68 16,nt s68 17,nt s68 18,nt s68 19,nt s68 20],h82,(l86 ++ l70)⟩)
 (j87 [nt s68 0,nt s68 1,nt s68 2,nt s68 3,nt s68 4,nt s68 5,nt s68 6,nt s68 7,nt s68 8,nt s68 9,nt s68 10,nt s68 11,nt s68 12,nt s68 13,nt s68 14,nt s68 15,nt s68 16,nt s68 17,nt s68 18,nt s68 19,nt s68 20] h82 (l86 ++ l70))) fun j67 => fork v66
 (j67 [nt s64 0,nt s64 1,nt s64 2,nt s64 3,nt s64 4,nt s64 5,nt s64 6,nt s64 7,nt s64 8,nt s64 9,nt s64 10,nt s64 11,nt s64 12,nt s64 13,nt s64 14,nt s64 15,nt s64 16,nt s64 17,nt s64 18,nt s64 19,nt s64 20] h65 [])
 (some ⟨(.exit 6),[nt s64 0,nt s64 1,nt s64 2,nt s64 3,nt s64 4,nt s64 5,nt s64 6,nt s64 7,nt s64 8,nt s64 9,nt s64 10,nt s64 11,nt s64 12,nt s64 13,nt s64 14,nt s64 15,nt s64 16,nt s64 17,nt s64 18,nt s64 19,nt s64 20],h65,[]⟩)
noncomputable def F_k164_L1001962 (call:CallF) (lp:LoopF) : List Value → H → Option LOut := fun s113 h114 =>
 ob (bI .geq (nt s113 7) (.int .i64 1)) fun v115 =>
 jn3 (fun s117 h118 l119 =>
 jn3 (fun s121 h122 l123 =>
 ob (bI .sub (nt s121 7) (.int .i64 1)) fun v124 =>
 some ⟨.normal,[nt s121 0,nt s121 1,nt s121 2,nt s121 3,nt s121 4,nt s121 5,nt s121 6,v124,nt s121 8,nt s121 9,nt s121 10,nt s121 11,nt s121 12,nt s121 13,nt s121 14,nt s121 15,nt s121 16,nt s121 17,nt s121 18,nt s121 19,nt s121 20],h122,l123⟩) fun j120 =>
 ob (rIdxS 2 (nt s117 0) (nt s117 7)) fun v125 =>
 ob (rLdA h118.get 2 v125) fun v126 =>
 ob (bI .sub (nt s117 7) (.int .i64 1)) fun v127 =>
 ob (rIdxS 2 (nt s117 0) v127) fun v128 =>
 ob (rLdA h118.get 2 v128) fun v129 =>
 hv (callV call h118 (nt s117 3) [v126,v129]) fun v130 h131 l132 =>
 ob (bI .lss v130 (.int .i64 0)) fun v133 =>
 ob (unV .not v133) fun v134 =>
 dr [0,0,0,6,14,0,0,64,224,480,1023,2047,4095] [mP h118,mP h118,mP h118,mP h118,mR h118 (rdP v125),mP h118,mP h118,mP h118,mP h118,mR h118 (rdP v128),mH h118 (rdL [v126,v129]) l132 h131,mP h131,mP h131] fun l135 =>
 jn3 (fun s137 h138 l139 =>
 ob (bI .sub (nt s137 7) (.int .i64 1)) fun v140 =>
 ob (bI .sub (nt s137 7) (.int .i64 1)) fun v141 =>
 ob (rIdxS 2 (nt s137 0) v141) fun v142 =>
 ob (rLdA h138.get 2 v142) fun v143 =>
 ob (rIdxS 2 (nt s137 0) (nt s137 7)) fun v144 =>
 ob (rLdA h138.get 2 v144) fun v145 =>
 ob (rIdxS 2 (nt s137 0) (nt s137 7)) fun v146 =>
 hv (rStore h138 2 v146 v143) fun v147 h148 l149 =>
 ob (rIdxS 2 (nt s137 0) v140) fun v150 =>
 hv (rStore h148 2 v150 v145) fun v151 h152 l153 =>
 dr [0,0,0,0,8,0,0,64,224,480,0,0,3072,7168,16355,32739,65535,131071] [mP h138,mP h138,mP h138,mP h138,mP h138,mP h138,mP h138,mP h138,mP h138,mR h138 (rdP v142),mP h138,mP h138,mP h138,mR h138 (rdP v144),mP h138,mH h138 [] l149 h148,mP h148,mH h148 [] l153 h152] fun l154 =>
 j120 [nt s137 0,nt s137 1,nt s137 2,nt s137 3,nt s137 4,nt s137 5,nt s137 6,nt s137 7,nt s137 8,nt s137 9,nt s137 10,nt s137 11,nt s137 12,nt s137 13,nt s137 14,nt s137 15,nt s137 16,nt s137 17,nt s137 18,nt s137 19,nt s137 20] h152 (l154 ++ l139)) fun j136 => fork v134
 (some ⟨(.exit 4),[nt s117 0,nt s117 1,nt s117 2,nt s117 3,nt s117 4,nt s117 5,nt s117 6,nt s117 7,nt s117 8,nt s117 9,nt s117 10,nt s117 11,nt s117 12,nt s117 13,nt s117 14,nt s117 15,nt s117 16,nt s117 17,nt s117 18,nt s117 19,nt s117 20],h131,(l135 ++ l119)⟩)
 (j136 [nt s117 0,nt s117 1,nt s117 2,nt s117 3,nt s117 4,nt s117 5,nt s117 6,nt s117 7,nt s117 8,nt s117 9,nt s117 10,nt s117 11,nt s117 12,nt s117 13,nt s117 14,nt s117 15,nt s117 16,nt s117 17,nt s117 18,nt s117 19,nt s117 20] h131 (l135 ++ l119))) fun j116 => fork v115
 (j116 [nt s113 0,nt s113 1,nt s113 2,nt s113 3,nt s113 4,nt s113 5,nt s113 6,nt s113 7,nt s113 8,nt s113 9,nt s113 10,nt s113 11,nt s113 12,nt s113 13,nt s113 14,nt s113 15,nt s113 16,nt s113 17,nt s113 18,nt s113 19,nt s113 20] h114 [])
 (some ⟨(.exit 4),[nt s113 0,nt s113 1,nt s113 2,nt s113 3,nt s113 4,nt s113 5,nt s113 6,nt s113 7,nt s113 8,nt s113 9,nt s113 10,nt s113 11,nt s113 12,nt s113 13,nt s113 14,nt s113 15,nt s113 16,nt s113 17,nt s113 18,nt s113 19,nt s113 20],h114,[]⟩)
noncomputable def F_k164_L7824 (call:CallF) (lp:LoopF) : List Value → H → Option LOut := fun s157 h158 =>
 ob (bI .lss (nt s157 5) (nt s157 2)) fun v159 =>
 gP (gd v159 true) (some (nt s157 3)) fun v160 =>
 gP (gd v159 true) (some (nt s157 0)) fun v161 =>
 gP (gd v159 true) (some (nt s157 5)) fun v162 =>
 gP (gd v159 true) (rIdxS 2 v161 v162) fun v163 =>
 gP (gd v159 true) (rLdA h158.get 2 v163) fun v164 =>
 gP (gd v159 true) (some (nt s157 0)) fun v165 =>
 gP (gd v159 true) (some (nt s157 5)) fun v166 =>
 gP (gd v159 true) (bI .sub v166 (.int .i64 1)) fun v167 =>
 gP (gd v159 true) (rIdxS 2 v165 v167) fun v168 =>
 gP (gd v159 true) (rLdA h158.get 2 v168) fun v169 =>
 hv (gV (gd v159 true) (callV call h158 v160 [v164,v169]) h158) fun v170 h171 l172 =>
 gP (gd v159 true) (bI .lss v170 (.int .i64 0)) fun v173 =>
 gP (gd v159 true) (unV .not v173) fun v174 =>
 ob (rPick v159 v174 (.bool false)) fun v175 =>
 dr [0,0,3,7,15,15,15,111,239,15,15,1039,3599,7695,16383,32767,65535,131071] [mP h158,mP h158,mP h158,mP h158,mG (gd v159 true) .pure [] h158 h158 [],mG (gd v159 true) .pure [] h158 h158 [],mG (gd v159 true) .pure [] h158 h158 [],mG (gd v159 true) .pure [] h158 h158 [],mG (gd v159 true) .pure (rdP v163) h158 h158 [],mG (gd v159 true) .pure [] h158 h158 [],mG (gd v159 true) .pure [] h158 h158 [],mG (gd v159 true) .pure [] h158 h158 [],mG (gd v159 true) .pure [] h158 h158 [],mG (gd v159 true) .pure (rdP v168) h158 h158 [],mG (gd v159 true) .heavy (rdL [v164,v169]) h158 h171 l172,mG (gd v159 true) .pure [] h171 h171 [],mG (gd v159 true) .pure [] h171 h171 [],mP h171] fun l176 =>
 jn3 (fun s178 h179 l180 =>
 jn3 (fun s182 h183 l184 =>
 some ⟨.normal,[nt s182 0,nt s182 1,nt s182 2,nt s182 3,nt s182 4,nt s182 5,nt s182 6,nt s182 7,nt s182 8,nt s182 9,nt s182 10,nt s182 11,nt s182 12,nt s182 13,nt s182 14,nt s182 15,nt s182 16,nt s182 17,nt s182 18,nt s182 19],h183,l184⟩) fun j181 =>
 ob (bI .add (nt s178 5) (.int .i64 1)) fun v185 =>
 j181 [nt s178 0,nt s178 1,nt s178 2,nt s178 3,nt s178 4,v185,nt s178 6,nt s178 7,nt s178 8,nt s178 9,nt s178 10,nt s178 11,nt s178 12,nt s178 13,nt s178 14,nt s178 15,nt s178 16,nt s178 17,nt s178 18,nt s178 19] h179 l180) fun j177 => fork v175
 (j177 [nt s157 0,nt s157 1,nt s157 2,nt s157 3,nt s157 4,nt s157 5,nt s157 6,v160,v161,v162,v163,v164,v165,v166,v167,v168,v169,v170,v173,v174] h171 (l176 ++ []))
 (some ⟨(.exit 2),[nt s157 0,nt s157 1,nt s157 2,nt s157 3,nt s157 4,nt s157 5,nt s157 6,v160,v161,v162,v163,v164,v165,v166,v167,v168,v169,v170,v173,v174],h171,(l176 ++ [])⟩)
noncomputable def F_k164_L122 (call:CallF) (lp:LoopF) : List Value → H → Option LOut := fun s5 h6 =>
 ob (bI .lss (nt s5 6) (.int .i64 5)) fun v7 =>
 jn3 (fun s9 h10 l11 =>
 jn3 (fun s13 h14 l15 =>
 ob (bI .add (nt s13 6) (.int .i64 1)) fun v16 =>
 some ⟨.normal,[nt s13 0,nt s13 1,nt s13 2,nt s13 3,nt s13 4,nt s13 5,v16,nt s13 7,nt s13 8,nt s13 9,nt s13 10,nt s13 11,nt s13 12,nt s13 13,nt s13 14,nt s13 15,nt s13 16,nt s13 17,nt s13 18,nt s13 19],h14,l15⟩) fun j12 =>
 jn3 (fun s18 h19 l20 =>
 ob (bI .eql (nt s18 5) (nt s18 2)) fun v21 =>
 jn3 (fun s23 h24 l25 =>
 ob (bI .sub (nt s23 2) (nt s23 1)) fun v26 =>
 ob (bI .lss v26 (.int .i64 50)) fun v27 =>
 jn3 (fun s29 h30 l31 =>
 ob (bI .sub (nt s29 5) (.int .i64 1)) fun v32 =>
 ob (bI .sub (nt s29 5) (.int .i64 1)) fun v33 =>
 ob (rIdxS 2 (nt s29 0) v33) fun v34 =>
 ob (rLdA h30.get 2 v34) fun v35 =>
 ob (rIdxS 2 (nt s29 0) (nt s29 5)) fun v36 =>
 ob (rLdA h30.get 2 v36) fun v37 =>
 ob (rIdxS 2 (nt s29 0) (nt s29 5)) fun v38 =>
 hv (rStore h30 2 v38 v35) fun v39 h40 l41 =>
 ob (rIdxS 2 (nt s29 0) v32) fun v42 =>
 hv (rStore h40 2 v42 v37) fun v43 h44 l45 =>
 dr [0,0,0,0,8,0,0,64,224,480,0,0,3072,7168,16355,32739,65535,131071] [mP h30,mP h30,mP h30,mP h30,mP h30,mP h30,mP h30,mP h30,mP h30,mR h30 (rdP v34),mP h30,mP h30,mP h30,mR h30 (rdP v36),mP h30,mH h30 [] l41 h40,mP h40,mH h40 [] l45 h44] fun l46 =>
 ob (bI .sub (nt s29 5) (nt s29 1)) fun v47 =>
 ob (bI .geq v47 (.int .i64 2)) fun v48 =>
 jn3 (fun s50 h51 l52 =>
 ob (bI .sub (nt s50 2) (nt s50 5)) fun v53 =>
 ob (bI .geq v53 (.int .i64 2)) fun v54 =>
 jn3 (fun s56 h57 l58 =>
 j12 [nt s56 0,nt s56 1,nt s56 2,nt s56 3,nt s56 4,nt s56 5,nt s56 6,nt s56 7,nt s56 8,nt s56 9,nt s56 10,nt s56 11,nt s56 12,nt s56 13,nt s56 14,nt s56 15,nt s56 16,nt s56 17,nt s56 18,nt s56 19] h57 l58) fun j55 => fork v54
 (ob (bI .add (nt s50 5) (.int .i64 1)) fun v59 =>
 jn3 (fun s61 h62 l63 =>
 j55 [nt s61 0,nt s61 1,nt s61 2,nt s61 3,nt s61 4,nt s61 5,nt s61 6,nt s61 7,nt s61 8,nt s61 9,nt s61 10,nt s61 11,nt s61 12,nt s61 13,nt s61 14,nt s61 15,nt s61 16,nt s61 17,nt s61 18,nt s61 19] h62 l63) fun j60 =>
 ob (lp (F_k164_L1001978 call lp) [nt s50 0,nt s50 1,nt s50 2,nt s50 3,nt s50 4,nt s50 5,nt s50 6,v59,nt s50 7,nt s50 8,nt s50 9,nt s50 10,nt s50 11,nt s50 12,nt s50 13,nt s50 14,nt s50 15,nt s50 16,nt s50 17,nt s50 18,nt s50 19] h51) fun o106 =>
 onEx o106.ex (j60 [(nt o106.vs 0),(nt o106.vs 1),(nt o106.vs 2),(nt o106.vs 3),(nt o106.vs 4),(nt o106.vs 5),(nt o106.vs 6),(nt o106.vs 8),(nt o106.vs 9),(nt o106.vs 10),(nt o106.vs 11),(nt o106.vs 12),(nt o106.vs 13),(nt o106.vs 14),(nt o106.vs 15),(nt o106.vs 16),(nt o106.vs 17),(nt o106.vs 18),(nt o106.vs 19),(nt o106.vs 20)] o106.h (o106.lg ++ l52)) (fun i107 => bif Nat.beq i107 6 then j60 [(nt o106.vs 0),(nt o106.vs 1),(nt o106.vs 2),(nt o106.vs 3),(nt o106.vs 4),(nt o106.vs 5),(nt o106.vs 6),(nt o106.vs 8),(nt o106.vs 9),(nt o106.vs 10),(nt o106.vs 11),(nt o106.vs 12),(nt o106.vs 13),(nt o106.vs 14),(nt o106.vs 15),(nt o106.vs 16),(nt o106.vs 17),(nt o106.vs 18),(nt o106.vs 19),(nt o106.vs 20)] o106.h (o106.lg ++ l52) else bif Nat.beq i107 1 then j12 [(nt o106.vs 0),(nt o106.vs 1),(nt o106.vs 2),(nt o106.vs 3),(nt o106.vs 4),(nt o106.vs 5),(nt o106.vs 6),(nt o106.vs 8),(nt o106.vs 9),(nt o106.vs 10),(nt o106.vs 11),(nt o106.vs 12),(nt o106.vs 13),(nt o106.vs 14),(nt o106.vs 15),(nt o106.vs 16),(nt o106.vs 17),(nt o106.vs 18),(nt o106.vs 19),(nt o106.vs 20)] o106.h (o106.lg ++ l52) else some ⟨(.exit i107),[(nt o106.vs 0),(nt o106.vs 1),(nt o106.vs 2),(nt o106.vs 3),(nt o106.vs 4),(nt o106.vs 5),(nt o106.vs 6),(nt o106.vs 8),(nt o106.vs 9),(nt o106.vs 10),(nt o106.vs 11),(nt o106.vs 12),(nt o106.vs 13),(nt o106.vs 14),(nt o106.vs 15),(nt o106.vs 16),(nt o106.vs 17),(nt o106.vs 18),(nt o106.vs 19),(nt o106.vs 20)],o106.h,(o106.lg ++ l52)⟩) (some ⟨.ret,[(nt o106.vs 0),(nt o106.vs 1),(nt o106.vs 2),(nt o106.vs 3),(nt o106.vs 4),(nt o106.vs 5),(nt o106.vs 6),(nt o106.vs 8),(nt o106.vs 9),(nt o106.vs 10),(nt o106.vs 11),(nt o106.vs 12),(nt o106.vs 13),(nt o106.vs 14),(nt o106.vs 15),(nt o106.vs 16),(nt o106.vs 17),(nt o106.vs 18),(nt o106.vs 19),(nt o106.vs 20)],o106.h,(o106.lg ++ l52)⟩))
 (j55 [nt s50 0,nt s50 1,nt s50 2,nt s50 3,nt s50 4,nt s50 5,nt s50 6,nt s50 7,nt s50 8,nt s50 9,nt s50 10,nt s50 11,nt s50 12,nt s50 13,nt s50 14,nt s50 15,nt s50 16,nt s50 17,nt s50 18,nt s50 19] h51 l52)) fun j49 => fork v48
 (ob (bI .sub (nt s29 5) (.int .i64 1)) fun v108 =>
 jn3 (fun s110 h111 l112 =>
 j49 [nt s110 0,nt s110 1,nt s110 2,nt s110 3,nt s110 4,nt s110 5,nt s110 6,nt s110 7,nt s110 8,nt s110 9,nt s110 10,nt s110 11,nt s110 12,nt s110 13,nt s110 14,nt s110 15,nt s110 16,nt s110 17,nt s110 18,nt s110 19] h111 l112) fun j109 =>
 ob (lp (F_k164_L1001962 call lp) [nt s29 0,nt s29 1,nt s29 2,nt s29 3,nt s29 4,nt s29 5,nt s29 6,v108,nt s29 7,nt s29 8,nt s29 9,nt s29 10,nt s29 11,nt s29 12,nt s29 13,nt s29 14,nt s29 15,nt s29 16,nt s29 17,nt s29 18,nt s29 19] h44) fun o155 =>
 onEx o155.ex (j109 [(nt o155.vs 0),(nt o155.vs 1),(nt o155.vs 2),(nt o155.vs 3),(nt o155.vs 4),(nt o155.vs 5),(nt o155.vs 6),(nt o155.vs 8),(nt o155.vs 9),(nt o155.vs 10),(nt o155.vs 11),(nt o155.vs 12),(nt o155.vs 13),(nt o155.vs 14),(nt o155.vs 15),(nt o155.vs 16),(nt o155.vs 17),(nt o155.vs 18),(nt o155.vs 19),(nt o155.vs 20)] o155.h (o155.lg ++ (l46 ++ l31))) (fun i156 => bif Nat.beq i156 4 then j109 [(nt o155.vs 0),(nt o155.vs 1),(nt o155.vs 2),(nt o155.vs 3),(nt o155.vs 4),(nt o155.vs 5),(nt o155.vs 6),(nt o155.vs 8),(nt o155.vs 9),(nt o155.vs 10),(nt o155.vs 11),(nt o155.vs 12),(nt o155.vs 13),(nt o155.vs 14),(nt o155.vs 15),(nt o155.vs 16),(nt o155.vs 17),(nt o155.vs 18),(nt o155.vs 19),(nt o155.vs 20)] o155.h (o155.lg ++ (l46 ++ l31)) else bif Nat.beq i156 1 then j12 [(nt o155.vs 0),(nt o155.vs 1),(nt o155.vs 2),(nt o155.vs 3),(nt o155.vs 4),(nt o155.vs 5),(nt o155.vs 6),(nt o155.vs 8),(nt o155.vs 9),(nt o155.vs 10),(nt o155.vs 11),(nt o155.vs 12),(nt o155.vs 13),(nt o155.vs 14),(nt o155.vs 15),(nt o155.vs 16),(nt o155.vs 17),(nt o155.vs 18),(nt o155.vs 19),(nt o155.vs 20)] o155.h (o155.lg ++ (l46 ++ l31)) else some ⟨(.exit i156),[(nt o155.vs 0),(nt o155.vs 1),(nt o155.vs 2),(nt o155.vs 3),(nt o155.vs 4),(nt o155.vs 5),(nt o155.vs 6),(nt o155.vs 8),(nt o155.vs 9),(nt o155.vs 10),(nt o155.vs 11),(nt o155.vs 12),(nt o155.vs 13),(nt o155.vs 14),(nt o155.vs 15),(nt o155.vs 16),(nt o155.vs 17),(nt o155.vs 18),(nt o155.vs 19),(nt o155.vs 20)],o155.h,(o155.lg ++ (l46 ++ l31))⟩) (some ⟨.ret,[(nt o155.vs 0),(nt o155.vs 1),(nt o155.vs 2),(nt o155.vs 3),(nt o155.vs 4),(nt o155.vs 5),(nt o155.vs 6),(nt o155.vs 8),(nt o155.vs 9),(nt o155.vs 10),(nt o155.vs 11),(nt o155.vs 12),(nt o155.vs 13),(nt o155.vs 14),(nt o155.vs 15),(nt o155.vs 16),(nt o155.vs 17),(nt o155.vs 18),(nt o155.vs 19),(nt o155.vs 20)],o155.h,(o155.lg ++ (l46 ++ l31))⟩))
 (j49 [nt s29 0,nt s29 1,nt s29 2,nt s29 3,nt s29 4,nt s29 5,nt s29 6,nt s29 7,nt s29 8,nt s29 9,nt s29 10,nt s29 11,nt s29 12,nt s29 13,nt s29 14,nt s29 15,nt s29 16,nt s29 17,nt s29 18,nt s29 19] h44 (l46 ++ l31))) fun j28 => fork v27
 (some ⟨.ret,[nt s23 0,nt s23 1,nt s23 2,nt s23 3,(.bool false),nt s23 5,nt s23 6,nt s23 7,nt s23 8,nt s23 9,nt s23 10,nt s23 11,nt s23 12,nt s23 13,nt s23 14,nt s23 15,nt s23 16,nt s23 17,nt s23 18,nt s23 19],h24,l25⟩)
 (j28 [nt s23 0,nt s23 1,nt s23 2,nt s23 3,nt s23 4,nt s23 5,nt s23 6,nt s23 7,nt s23 8,nt s23 9,nt s23 10,nt s23 11,nt s23 12,nt s23 13,nt s23 14,nt s23 15,nt s23 16,nt s23 17,nt s23 18,nt s23 19] h24 l25)) fun j22 => fork v21
 (some ⟨.ret,[nt s18 0,nt s18 1,nt s18 2,nt s18 3,(.bool true),nt s18 5,nt s18 6,nt s18 7,nt s18 8,nt s18 9,nt s18 10,nt s18 11,nt s18 12,nt s18 13,nt s18 14,nt s18 15,nt s18 16,nt s18 17,nt s18 18,nt s18 19],h19,l20⟩)
 (j22 [nt s18 0,nt s18 1,nt s18 2,nt s18 3,nt s18 4,nt s18 5,nt s18 6,nt s18 7,nt s18 8,nt s18 9,nt s18 10,nt s18 11,nt s18 12,nt s18 13,nt s18 14,nt s18 15,nt s18 16,nt s18 17,nt s18 18,nt s18 19] h19 l20)) fun j17 =>
 ob (lp (F_k164_L7824 call lp) [nt s9 0,nt s9 1,nt s9 2,nt s9 3,nt s9 4,nt s9 5,nt s9 6,nt s9 7,nt s9 8,nt s9 9,nt s9 10,nt s9 11,nt s9 12,nt s9 13,nt s9 14,nt s9 15,nt s9 16,nt s9 17,nt s9 18,nt s9 19] h10) fun o186 =>
 onEx o186.ex (j17 [(nt o186.vs 0),(nt o186.vs 1),(nt o186.vs 2),(nt o186.vs 3),(nt o186.vs 4),(nt o186.vs 5),(nt o186.vs 6),(nt o186.vs 7),(nt o186.vs 8),(nt o186.vs 9),(nt o186.vs 10),(nt o186.vs 11),(nt o186.vs 12),(nt o186.vs 13),(nt o186.vs 14),(nt o186.vs 15),(nt o186.vs 16),(nt o186.vs 17),(nt o186.vs 18),(nt o186.vs 19)] o186.h (o186.lg ++ l11)) (fun i187 => bif Nat.beq i187 2 then j17 [(nt o186.vs 0),(nt o186.vs 1),(nt o186.vs 2),(nt o186.vs 3),(nt o186.vs 4),(nt o186.vs 5),(nt o186.vs 6),(nt o186.vs 7),(nt o186.vs 8),(nt o186.vs 9),(nt o186.vs 10),(nt o186.vs 11),(nt o186.vs 12),(nt o186.vs 13),(nt o186.vs 14),(nt o186.vs 15),(nt o186.vs 16),(nt o186.vs 17),(nt o186.vs 18),(nt o186.vs 19)] o186.h (o186.lg ++ l11) else bif Nat.beq i187 1 then j12 [(nt o186.vs 0),(nt o186.vs 1),(nt o186.vs 2),(nt o186.vs 3),(nt o186.vs 4),(nt o186.vs 5),(nt o186.vs 6),(nt o186.vs 7),(nt o186.vs 8),(nt o186.vs 9),(nt o186.vs 10),(nt o186.vs 11),(nt o186.vs 12),(nt o186.vs 13),(nt o186.vs 14),(nt o186.vs 15),(nt o186.vs 16),(nt o186.vs 17),(nt o186.vs 18),(nt o186.vs 19)] o186.h (o186.lg ++ l11) else some ⟨(.exit i187),[(nt o186.vs 0),(nt o186.vs 1),(nt o186.vs 2),(nt o186.vs 3),(nt o186.vs 4),(nt o186.vs 5),(nt o186.vs 6),(nt o186.vs 7),(nt o186.vs 8),(nt o186.vs 9),(nt o186.vs 10),(nt o186.vs 11),(nt o186.vs 12),(nt o186.vs 13),(nt o186.vs 14),(nt o186.vs 15),(nt o186.vs 16),(nt o186.vs 17),(nt o186.vs 18),(nt o186.vs 19)],o186.h,(o186.lg ++ l11)⟩) (some ⟨.ret,[(nt o186.vs 0),(nt o186.vs 1),(nt o186.vs 2),(nt o186.vs 3),(nt o186.vs 4),(nt o186.vs 5),(nt o186.vs 6),(nt o186.vs 7),(nt o186.vs 8),(nt o186.vs 9),(nt o186.vs 10),(nt o186.vs 11),(nt o186.vs 12),(nt o186.vs 13),(nt o186.vs 14),(nt o186.vs 15),(nt o186.vs 16),(nt o186.vs 17),(nt o186.vs 18),(nt o186.vs 19)],o186.h,(o186.lg ++ l11)⟩)) fun j8 => fork v7
 (j8 [nt s5 0,nt s5 1,nt s5 2,nt s5 3,nt s5 4,nt s5 5,nt s5 6,nt s5 7,nt s5 8,nt s5 9,nt s5 10,nt s5 11,nt s5 12,nt s5 13,nt s5 14,nt s5 15,nt s5 16,nt s5 17,nt s5 18,nt s5 19] h6 [])
 (some ⟨(.exit 0),[nt s5 0,nt s5 1,nt s5 2,nt s5 3,nt s5 4,nt s5 5,nt s5 6,nt s5 7,nt s5 8,nt s5 9,nt s5 10,nt s5 11,nt s5 12,nt s5 13,nt s5 14,nt s5 15,nt s5 16,nt s5 17,nt s5 18,nt s5 19],h6,[]⟩)
noncomputable def F_k164 (call:CallF) (lp:LoopF) (x0:Value) (x1:Value) (x2:Value) (x3:Value) (h:H) : Option R3 :=
 ob (bI .add x1 (.int .i64 1)) fun v0 =>
 jn3 (fun s2 h3 l4 =>
 fin h (rsT (.bool false) (some [])) h3 l4) fun j1 =>
 ob (lp (F_k164_L122 call lp) [x0,x1,x2,x3,(.bool false),v0,(.int .i64 0),poison,poison,poison,poison,poison,poison,poison,poison,poison,poison,poison,poison,poison] h) fun o188 =>
 onEx o188.ex (j1 [] o188.h (o188.lg ++ [])) (fun i189 => bif Nat.beq i189 0 then j1 [] o188.h (o188.lg ++ []) else none) (fin h (rsT (nt o188.vs 4) (some [])) o188.h (o188.lg ++ []))

--
noncomputable def F_k168 (call:CallF) (lp:LoopF) (x0:Value) (h:H) : Option R3 :=
 ob (binV pgB.ty (tyD (.int .u64)) .geq x0 (.int .u64 4294967296)) fun v0 =>
 jn3 (fun s2 h3 l4 =>
 ob (binV pgB.ty (tyD (.int .u64)) .geq (nt s2 0) (.int .u64 65536)) fun v5 =>
 jn3 (fun s7 h8 l9 =>
 ob (binV pgB.ty (tyD (.int .u64)) .geq (nt s7 0) (.int .u64 256)) fun v10 =>
 jn3 (fun s12 h13 l14 =>
 ob (rCvI .u8 (nt s12 0)) fun v15 =>
 ob (rIxStr (.string ⟨#[0,1,2,2,3,3,3,3,4,4,4,4,4,4,4,4,5,5,5,5,5,5,5,5,5,5,5,5,5,5,5,5,6,6,6,6,6,6,6,6,6,6,6,6,6,6,6,6,6,6,6,6,6,6,6,6,6,6,6,6,6,6,6,6,7,7,7,7,7,7,7,7,7,7,7,7,7,7,7,7,7,7,7,7,7,7,7,7,7,7,7,7,7,7,7,7,7,7,7,7,7,7,7,7,7,7,7,7,7,7,7,7,7,7,7,7,7,7,7,7,7,7,7,7,7,7,7,7,8,8,8,8,8,8,8,8,8,8,8,8,8,8,8,8,8,8,8,8,8,8,8,8,8,8,8,8,8,8,8,8,8,8,8,8,8,8,8,8,8,8,8,8,8,8,8,8,8,8,8,8,8,8,8,8,8,8,8,8,8,8,8,8,8,8,8,8,8,8,8,8,8,8,8,8,8,8,8,8,8,8,8,8,8,8,8,8,8,8,8,8,8,8,8,8,8,8,8,8,8,8,8,8,8,8,8,8,8,8,8,8,8,8,8,8,8,8,8,8,8,8,8,8,8,8,8,8]⟩) v15) fun v16 =>
 ob (rCvI .i64 v16) fun v17 =>
 ob (bI .add (nt s12 1) v17) fun v18 =>
 fin h (rsT v18 (some [])) h13 l14) fun j11 => fork v10
 (ob (binV pgB.ty (tyD (.int .u64)) .shr (nt s7 0) (.int .u64 8)) fun v19 =>
 ob (bI .add (nt s7 1) (.int .i64 8)) fun v20 =>
 j11 [v19,v20] h8 l9)
 (j11 [nt s7 0,nt s7 1] h8 l9)) fun j6 => fork v5
 (ob (binV pgB.ty (tyD (.int .u64)) .shr (nt s2 0) (.int .u64 16)) fun v21 =>
 ob (bI .add (nt s2 1) (.int .i64 16)) fun v22 =>
 j6 [v21,v22] h3 l4)
 (j6 [nt s2 0,nt s2 1] h3 l4)) fun j1 => fork v0
 (ob (binV pgB.ty (tyD (.int .u64)) .shr x0 (.int .u64 32)) fun v23 =>
 j1 [v23,(.int .i64 32)] h [])
 (j1 [x0,(.int .i64 0)] h [])

--
noncomputable def F_k169_L914 (call:CallF) (lp:LoopF) : List Value → H → Option LOut := fun s21 h22 =>
 ob (bI .gtr (nt s21 4) (nt s21 1)) fun v23 =>
 gP (gd v23 true) (some (nt s21 0)) fun v24 =>
 gP (gd v23 true) (some (nt s21 4)) fun v25 =>
 gP (gd v23 true) (rIdxS 1 v24 v25) fun v26 =>
 gP (gd v23 true) (rLd1 h22.get v26) fun v27 =>
 gP (gd v23 true) (some (nt s21 0)) fun v28 =>
 gP (gd v23 true) (some (nt s21 4)) fun v29 =>
 gP (gd v23 true) (bI .sub v29 (.int .i64 1)) fun v30 =>
 gP (gd v23 true) (rIdxS 1 v28 v30) fun v31 =>
 gP (gd v23 true) (rLd1 h22.get v31) fun v32 =>
 hv (gV (gd v23 true) (call (.fn N_k175) [v27,v32] h22) h22) fun v33 h34 l35 =>
 ob (rPick v23 v33 (.bool false)) fun v36 =>
 dr [0,0,3,7,15,15,63,127,15,15,527,1807,3855,8191,16383] [mP h22,mP h22,mP h22,mP h22,mG (gd v23 true) .pure [] h22 h22 [],mG (gd v23 true) .pure [] h22 h22 [],mG (gd v23 true) .pure [] h22 h22 [],mG (gd v23 true) .pure (rdP v26) h22 h22 [],mG (gd v23 true) .pure [] h22 h22 [],mG (gd v23 true) .pure [] h22 h22 [],mG (gd v23 true) .pure [] h22 h22 [],mG (gd v23 true) .pure [] h22 h22 [],mG (gd v23 true) .pure (rdP v31) h22 h22 [],mG (gd v23 true) .heavy (rdL [v27,v32]) h22 h34 l35,mP h34] fun l37 =>
 jn3 (fun s39 h40 l41 =>
 jn3 (fun s43 h44 l45 =>
 ob (bI .sub (nt s43 4) (.int .i64 1)) fun v46 =>
 some ⟨.normal,[nt s43 0,nt s43 1,nt s43 2,nt s43 3,v46,nt s43 5,nt s43 6,nt s43 7,nt s43 8,nt s43 9,nt s43 10,nt s43 11,nt s43 12,nt s43 13,nt s43 14],h44,l45⟩) fun j42 =>
 ob (bI .sub (nt s39 4) (.int .i64 1)) fun v47 =>
 ob (bI .sub (nt s39 4) (.int .i64 1)) fun v48 =>
 ob (rIdxS 1 (nt s39 0) v48) fun v49 =>
 ob (rLd1 h40.get v49) fun v50 =>
 ob (rIdxS 1 (nt s39 0) (nt s39 4)) fun v51 =>
 ob (rLd1 h40.get v51) fun v52 =>
 ob (rIdxS 1 (nt s39 0) (nt s39 4)) fun v53 =>
 hv (rStore h40 1 v53 v50) fun v54 h55 l56 =>
 ob (rIdxS 1 (nt s39 0) v47) fun v57 =>
 hv (rStore h55 1 v57 v52) fun v58 h59 l60 =>
 dr [0,0,0,0,8,0,0,64,224,480,0,0,3072,7168,16355,32739,65535,131071] [mP h40,mP h40,mP h40,mP h40,mP h40,mP h40,mP h40,mP h40,mP h40,mR h40 (rdP v49),mP h40,mP h40,mP h40,mR h40 (rdP v51),mP h40,mH h40 [] l56 h55,mP h55,mH h55 [] l60 h59] fun l61 =>
 j42 [nt s39 0,nt s39 1,nt s39 2,nt s39 3,nt s39 4,nt s39 5,nt s39 6,nt s39 7,nt s39 8,nt s39 9,nt s39 10,nt s39 11,nt s39 12,nt s39 13,nt s39 14] h59 (l61 ++ l41)) fun j38 => fork v36
 (j38 [nt s21 0,nt s21 1,nt s21 2,nt s21 3,nt s21 4,v24,v25,v26,v27,v28,v29,v30,v31,v32,v33] h34 (l37 ++ []))
 (some ⟨(.exit 2),[nt s21 0,nt s21 1,nt s21 2,nt s21 3,nt s21 4,v24,v25,v26,v27,v28,v29,v30,v31,v32,v33],h34,(l37 ++ [])⟩)
noncomputable def F_k169_L14 (call:CallF) (lp:LoopF) : List Value → H → Option LOut := fun s5 h6 =>
 ob (bI .lss (nt s5 3) (nt s5 2)) fun v7 =>
 jn3 (fun s9 h10 l11 =>
 jn3 (fun s13 h14 l15 =>
 ob (bI .add (nt s13 3) (.int .i64 1)) fun v16 =>
 some ⟨.normal,[nt s13 0,nt s13 1,nt s13 2,v16,nt s13 4,nt s13 5,nt s13 6,nt s13 7,nt s13 8,nt s13 9,nt s13 10,nt s13 11,nt s13 12,nt s13 13],h14,l15⟩) fun j12 =>
 jn3 (fun s18 h19 l20 =>
 j12 [nt s18 0,nt s18 1,nt s18 2,nt s18 3,nt s18 4,nt s18 5,nt s18 6,nt s18 7,nt s18 8,nt s18 9,nt s18 10,nt s18 11,nt s18 12,nt s18 13] h19 l20) fun j17 =>
 ob (lp (F_k169_L914 call lp) [nt s9 0,nt s9 1,nt s9 2,nt s9 3,nt s9 3,nt s9 4,nt s9 5,nt s9 6,nt s9 7,nt s9 8,nt s9 9,nt s9 10,nt s9 11,nt s9 12,nt s9 13] h10) fun o62 =>
 onEx o62.ex (j17 [(nt o62.vs 0),(nt o62.vs 1),(nt o62.vs 2),(nt o62.vs 3),(nt o62.vs 5),(nt o62.vs 6),(nt o62.vs 7),(nt o62.vs 8),(nt o62.vs 9),(nt o62.vs 10),(nt o62.vs 11),(nt o62.vs 12),(nt o62.vs 13),(nt o62.vs 14)] o62.h (o62.lg ++ l11)) (fun i63 => bif Nat.beq i63 2 then j17 [(nt o62.vs 0),(nt o62.vs 1),(nt o62.vs 2),(nt o62.vs 3),(nt o62.vs 5),(nt o62.vs 6),(nt o62.vs 7),(nt o62.vs 8),(nt o62.vs 9),(nt o62.vs 10),(nt o62.vs 11),(nt o62.vs 12),(nt o62.vs 13),(nt o62.vs 14)] o62.h (o62.lg ++ l11) else bif Nat.beq i63 1 then j12 [(nt o62.vs 0),(nt o62.vs 1),(nt o62.vs 2),(nt o62.vs 3),(nt o62.vs 5),(nt o62.vs 6),(nt o62.vs 7),(nt o62.vs 8),(nt o62.vs 9),(nt o62.vs 10),(nt o62.vs 11),(nt o62.vs 12),(nt o62.vs 13),(nt o62.vs 14)] o62.h (o62.lg ++ l11) else some ⟨(.exit i63),[(nt o62.vs 0),(nt o62.vs 1),(nt o62.vs 2),(nt o62.vs 3),(nt o62.vs 5),(nt o62.vs 6),(nt o62.vs 7),(nt o62.vs 8),(nt o62.vs 9),(nt o62.vs 10),(nt o62.vs 11),(nt o62.vs 12),(nt o62.vs 13),(nt o62.vs 14)],o62.h,(o62.lg ++ l11)⟩) (some ⟨.ret,[(nt o62.vs 0),(nt o62.vs 1),(nt o62.vs 2),(nt o62.vs 3),(nt o62.vs 5),(nt o62.vs 6),(nt o62.vs 7),(nt o62.vs 8),(nt o62.vs 9),(nt o62.vs 10),(nt o62.vs 11),(nt o62.vs 12),(nt o62.vs 13),(nt o62.vs 14)],o62.h,(o62.lg ++ l11)⟩)) fun j8 => fork v7
 (j8 [nt s5 0,nt s5 1,nt s5 2,nt s5 3,nt s5 4,nt s5 5,nt s5 6,nt s5 7,nt s5 8,nt s5 9,nt s5 10,nt s5 11,nt s5 12,nt s5 13] h6 [])
 (some ⟨(.exit 0),[nt s5 0,nt s5 1,nt s5 2,nt s5 3,nt s5 4,nt s5 5,nt s5 6,nt s5 7,nt s5 8,nt s5 9,nt s5 10,nt s5 11,nt s5 12,nt s5 13],h6,[]⟩)
noncomputable def F_k169 (call:CallF) (lp:LoopF) (x0:Value) (x1:Value) (x2:Value) (h:H) : Option R3 :=
 ob (bI .add x1 (.int .i64 1)) fun v0 =>
 jn3 (fun s2 h3 l4 =>
 fin h (some []) h3 l4) fun j1 =>
 ob (lp (F_k169_L14 call lp) [x0,x1,x2,v0,poison,poison,poison,poison,poison,poison,poison,poison,poison,poison] h) fun o64 =>
 onEx o64.ex (j1 [] o64.h (o64.lg ++ [])) (fun i65 => bif Nat.beq i65 0 then j1 [] o64.h (o64.lg ++ []) else none) (fin h (some []) o64.h (o64.lg ++ []))

--
noncomputable def F_k178 (call:CallF) (lp:LoopF) (x0:Value) (h:H) : Option R3 :=
 hv (call (.fn N_k145) [x0] h) fun v0 h1 l2 =>
 hv (call (.fn N_k197) [v0] h1) fun v3 h4 l5 =>
 fin h (rsT v3 (some [])) h4 (l5 ++ (l2 ++ []))

--
noncomputable def F_k179 (call:CallF) (lp:LoopF) (x0:Value) (h:H) : Option R3 :=
 ob (binV pgB.ty (tyD (.int .u8)) .geq x0 (.int .u8 48)) fun v0 =>
 gP (gd v0 true) (some x0) fun v1 =>
 gP (gd v0 true) (binV pgB.ty (tyD (.int .u8)) .leq v1 (.int .u8 57)) fun v2 =>
 ob (rPick v0 v2 (.bool false)) fun v3 =>
 fin h (rsT v3 (some [])) h []

--
noncomputable def F_k180_L122 (call:CallF) (lp:LoopF) : List Value → H → Option LOut := fun s6 h7 =>
 ob (rLenL (nt s6 2)) fun v8 =>
 ob (bI .lss (nt s6 3) v8) fun v9 =>
 jn3 (fun s11 h12 l13 =>
 jn3 (fun s15 h16 l17 =>
 ob (bI .add (nt s15 3) (.int .i64 1)) fun v18 =>
 some ⟨.normal,[nt s15 0,nt s15 1,nt s15 2,v18],h16,l17⟩) fun j14 =>
 ob (rIdxS 1 (nt s11 2) (nt s11 3)) fun v19 =>
 ob (rLd1 h12.get v19) fun v20 =>
 ob (binV pgB.ty (tyD .string) .eql v20 (nt s11 0)) fun v21 =>
 jn3 (fun s23 h24 l25 =>
 j14 [nt s23 0,nt s23 1,nt s23 2,nt s23 3] h24 l25) fun j22 => fork v21
 (some ⟨.ret,[nt s11 0,(.bool true),nt s11 2,nt s11 3],h12,l13⟩)
 (j22 [nt s11 0,nt s11 1,nt s11 2,nt s11 3] h12 l13)) fun j10 => fork v9
 (j10 [nt s6 0,nt s6 1,nt s6 2,nt s6 3] h7 [])
 (some ⟨(.exit 0),[nt s6 0,nt s6 1,nt s6 2,nt s6 3],h7,[]⟩)
noncomputable def F_k180 (call:CallF) (lp:LoopF) (x0:Value) (h:H) : Option R3 :=
 al (aBuildS pgB h.n T_Lstring 38 [(0,(.string ⟨#[116,97,98,108,101]⟩)),(1,(.string ⟨#[107,101,121]⟩)),(2,(.string ⟨#[102,100]⟩)),(3,(.string ⟨#[105,110,116]⟩)),(4,(.string ⟨#[116,101,120,116]⟩)),(5,(.string ⟨#[109,117,115,116]⟩)),(6,(.string ⟨#[116,111]⟩)),(7,(.string ⟨#[108,111,97,100]⟩)),(8,(.string ⟨#[105,110,115,101,114,116]⟩)),(9,(.string ⟨#[100,101,108,101,116,101]⟩)),(10,(.string ⟨#[117,112,100,97,116,101]⟩)),(11,(.string ⟨#[115,117,109,109,97,114,121]⟩)),(12,(.string ⟨#[111,110]⟩)),(13,(.string ⟨#[98,121]⟩)),(14,(.string ⟨#[107,101,101,112]⟩)),(15,(.string ⟨#[100,114,111,112]⟩)),(16,(.string ⟨#[102,114,111,109]⟩)),(17,(.string ⟨#[119,104,101,114,101]⟩)),(18,(.string ⟨#[97,110,100]⟩)),(19,(.string ⟨#[105,115]⟩)),(20,(.string ⟨#[110,111,116]⟩)),(21,(.string ⟨#[110,117,108,108]⟩)),(22,(.string ⟨#[114,111,108,108,117,112]⟩)),(23,(.string ⟨#[99,117,98,101]⟩)),(24,(.string ⟨#[115,104,111,119]⟩)),(25,(.string ⟨#[104,97,118,105,110,103]⟩)),(26,(.string ⟨#[111,114,100,101,114]⟩)),(27,(.string ⟨#[100,101,115,99]⟩)),(28,(.string ⟨#[108,105,109,105,116]⟩)),(29,(.string ⟨#[117,115,105,110,103]⟩)),(30,(.string ⟨#[98,97,115,101]⟩)),(31,(.string ⟨#[99,111,117,110,116]⟩)),(32,(.string ⟨#[115,117,109]⟩)),(33,(.string ⟨#[109,105,110]⟩)),(34,(.string ⟨#[109,97,120]⟩)),(35,(.string ⟨#[97,118,103]⟩)),(36,(.string ⟨#[100,105,115,116,105,110,99,116]⟩)),(37,(.string ⟨#[114,111,119,115]⟩))]) h fun v0 h1 =>
 jn3 (fun s3 h4 l5 =>
 fin h (rsT (.bool false) (some [])) h4 l5) fun j2 =>
 ob (lp (F_k180_L122 call lp) [x0,(.bool false),v0,(.int .i64 0)] h1) fun o26 =>
 onEx o26.ex (j2 [] o26.h (o26.lg ++ [])) (fun i27 => bif Nat.beq i27 0 then j2 [] o26.h (o26.lg ++ []) else none) (fin h (rsT (nt o26.vs 1) (some [])) o26.h (o26.lg ++ []))

--
noncomputable def F_k181 (call:CallF) (lp:LoopF) (x0:Value) (h:H) : Option R3 :=
 ob (binV pgB.ty (tyD (.int .u8)) .eql x0 (.int .u8 95)) fun v0 =>
 gP (gd v0 false) (some x0) fun v1 =>
 gP (gd v0 false) (binV pgB.ty (tyD (.int .u8)) .geq v1 (.int .u8 97)) fun v2 =>
 gP (gd v0 false) (some v2) fun v3 =>
 gP (gd v3 true) (some x0) fun v4 =>
 gP (gd v3 true) (binV pgB.ty (tyD (.int .u8)) .leq v4 (.int .u8 122)) fun v5 =>
 gP (gd v0 false) (rPick v3 v5 (.bool false)) fun v6 =>
 ob (rPick v0 (.bool true) v6) fun v7 =>
 fin h (rsT v7 (some [])) h []

--
noncomputable def F_k182 (call:CallF) (lp:LoopF) (x0:Value) (h:H) : Option R3 :=
 ob (oBuild pgB T_omap_Map_string_int [(0,x0)]) fun v0 =>
 al (aBx h.n T_omap_Map_string_int 2 v0) h fun v1 h2 =>
 fin h (rsT v1 (some [])) h2 []

--
noncomputable def F_k183 (call:CallF) (lp:LoopF) (x0:Value) (x1:Value) (h:H) : Option R3 :=
 hv (call (.fn N_k198) [x0,x1] h) fun v0 h1 l2 =>
 fin h (rsT v0 (some [])) h1 (l2 ++ [])

--
noncomputable def F_k184 (call:CallF) (lp:LoopF) (x0:Value) (x1:Value) (h:H) : Option R3 :=
 al (aBx h.n T_Pomap_Map_string_int 1 x0) h fun v0 h1 =>
 ob (rLd1 h1.get v0) fun v2 =>
 ob (binV pgB.ty (tyD (.pointer 0)) .eql v2 (.pointer none)) fun v3 =>
 gP (gd v3 false) (rLd1 h1.get v0) fun v4 =>
 gP (gd v3 false) (rNil v4) fun v5 =>
 gP (gd v3 false) (rFld 0 v5) fun v6 =>
 gP (gd v3 false) (rLd1 h1.get v6) fun v7 =>
 gP (gd v3 false) (binV pgB.ty (tyD (.func #[] #[] false)) .eql v7 .nilFunc) fun v8 =>
 ob (rPick v3 (.bool true) v8) fun v9 =>
 jn3 (fun s11 h12 l13 =>
 ob (rLd1 h12.get (nt s11 1)) fun v14 =>
 ob (rNil v14) fun v15 =>
 ob (rFld 1 v15) fun v16 =>
 ob (rLd1 h12.get v16) fun v17 =>
 ob (oFunc N_k200 #[] #[nt s11 1]) fun v18 =>
 hv (call (.fn N_k199) [v17,nt s11 0,v18] h12) fun v19 h20 l21 =>
 ob (rExtract 0 v19) fun v22 =>
 ob (rExtract 1 v19) fun v23 =>
 fin h (rsT v22 (rsT v23 (some []))) h20 (l21 ++ l13)) fun j10 => fork v9
 (fin h (rsT (.int .i64 0) (rsT (.bool false) (some []))) h1 [])
 (j10 [x1,v0] h1 [])

--
noncomputable def F_k185 (call:CallF) (lp:LoopF) (x0:Value) (x1:Value) (x2:Value) (h:H) : Option R3 :=
 ob (rSl h.get T_omap_pair_string_int 2 x0 (some x1) none none) fun v0 =>
 ob (rLenL x2) fun v1 =>
 ob (bI .eql v1 (.int .i64 0)) fun v2 =>
 jn3 (fun s4 h5 l6 =>
 ob (rLenL (nt s4 0)) fun v7 =>
 ob (bI .eql (nt s4 1) v7) fun v8 =>
 jn3 (fun s10 h11 l12 =>
 ob (bI .add (nt s10 4) (nt s10 3)) fun v13 =>
 ob (rCapL (nt s10 0)) fun v14 =>
 ob (bI .gtr v13 v14) fun v15 =>
 jn3 (fun s17 h18 l19 =>
 ob (bI .add (nt s17 4) (nt s17 3)) fun v20 =>
 ob (rSl h18.get T_omap_pair_string_int 2 (nt s17 0) none (some v20) none) fun v21 =>
 ob (bI .add (nt s17 1) (nt s17 3)) fun v22 =>
 ob (rSl h18.get T_omap_pair_string_int 2 v21 (some v22) none none) fun v23 =>
 hv (call (.fn N_k201) [nt s17 2,v23] h18) fun v24 h25 l26 =>
 ob (unV .not v24) fun v27 =>
 jn3 (fun s29 h30 l31 =>
 ob (rSl h30.get T_omap_pair_string_int 2 (nt s29 0) (some (nt s29 4)) none none) fun v32 =>
 hv (rCopy h30 2 v32 (nt s29 2)) fun v33 h34 l35 =>
 ob (rSl h34.get T_omap_pair_string_int 2 (nt s29 0) (some (nt s29 1)) none none) fun v36 =>
 hv (call (.fn N_k202) [v36,nt s29 3] h34) fun v37 h38 l39 =>
 fin h (rsT (nt s29 0) (some [])) h38 (l39 ++ (l35 ++ l31))) fun j28 => fork v27
 (ob (bI .add (nt s17 1) (nt s17 3)) fun v40 =>
 ob (rSl h25.get T_omap_pair_string_int 2 v21 (some v40) none none) fun v41 =>
 ob (rSl h25.get T_omap_pair_string_int 2 v21 (some (nt s17 1)) none none) fun v42 =>
 hv (rCopy h25 2 v41 v42) fun v43 h44 l45 =>
 dr [0,0,0,6,15,0,0,96,255] [mP h25,mP h25,mP h25,mP h25,mR h25 (rdS v21),mP h25,mP h25,mR h25 (rdS v21),mH h25 (rdL [v41,v42]) l45 h44] fun l46 =>
 ob (rSl h44.get T_omap_pair_string_int 2 v21 (some (nt s17 1)) none none) fun v47 =>
 hv (rCopy h44 2 v47 (nt s17 2)) fun v48 h49 l50 =>
 fin h (rsT v21 (some [])) h49 (l50 ++ (l46 ++ (l26 ++ l19))))
 (j28 [v21,nt s17 1,nt s17 2,nt s17 3,nt s17 4] h25 (l26 ++ l19))) fun j16 => fork v15
 (ob (rSl h11.get T_omap_pair_string_int 2 (nt s10 0) none (some (nt s10 1)) none) fun v51 =>
 ob (bI .add (nt s10 4) (nt s10 3)) fun v52 =>
 ob (bI .sub v52 (nt s10 1)) fun v53 =>
 hv (rAppZ h11 T_omap_pair_string_int 2 24 [(.string ⟨#[]⟩),(.int .i64 0)] v51 v53) fun v54 h55 l56 =>
 ob (rSl h55.get T_omap_pair_string_int 2 v54 (some (nt s10 1)) none none) fun v57 =>
 hv (rCopy h55 2 v57 (nt s10 2)) fun v58 h59 l60 =>
 ob (bI .add (nt s10 1) (nt s10 3)) fun v61 =>
 ob (rSl h59.get T_omap_pair_string_int 2 v54 (some v61) none none) fun v62 =>
 ob (rSl h59.get T_omap_pair_string_int 2 (nt s10 0) (some (nt s10 1)) none none) fun v63 =>
 hv (rCopy h59 2 v62 v63) fun v64 h65 l66 =>
 dr [0,0,0,6,15,0,0,96,255] [mP h59,mP h59,mP h59,mP h59,mR h59 (rdS v54),mP h59,mP h59,mR h59 (rdS (nt s10 0)),mH h59 (rdL [v62,v63]) l66 h65] fun l67 =>
 fin h (rsT v54 (some [])) h65 (l67 ++ (l60 ++ (l56 ++ l12))))
 (j16 [nt s10 0,nt s10 1,nt s10 2,nt s10 3,nt s10 4] h11 l12)) fun j9 => fork v8
 (hv (rApp h5 T_omap_pair_string_int 2 24 [(.string ⟨#[]⟩),(.int .i64 0)] (nt s4 0) (nt s4 2)) fun v68 h69 l70 =>
 fin h (rsT v68 (some [])) h69 (l70 ++ l6))
 (j9 [nt s4 0,nt s4 1,nt s4 2,nt s4 3,v7] h5 l6)) fun j3 => fork v2
 (fin h (rsT x0 (some [])) h [])
 (j3 [x0,x1,x2,v1] h [])

--
noncomputable def F_k186 (call:CallF) (lp:LoopF) (x0:Value) (x1:Value) (x2:Value) (h:H) : Option R3 :=
 ob (rLenL x0) fun v0 =>
 ob (rSl h.get T_omap_pair_string_int 2 x0 (some x1) (some x2) (some v0)) fun v1 =>
 ob (bI .eql x1 x2) fun v2 =>
 jn3 (fun s4 h5 l6 =>
 ob (rLenL (nt s4 0)) fun v7 =>
 ob (rSl h5.get T_omap_pair_string_int 2 (nt s4 0) none (some (nt s4 1)) none) fun v8 =>
 ob (rSl h5.get T_omap_pair_string_int 2 (nt s4 0) (some (nt s4 2)) none none) fun v9 =>
 hv (rApp h5 T_omap_pair_string_int 2 24 [(.string ⟨#[]⟩),(.int .i64 0)] v8 v9) fun v10 h11 l12 =>
 dr [0,0,3,0,0,24,63,127] [mP h5,mP h5,mR h5 (rdS (nt s4 0)),mP h5,mP h5,mR h5 (rdS (nt s4 0)),mH h5 (rdL [v8,v9]) l12 h11,mP h11] fun l13 =>
 ob (rLenL v10) fun v14 =>
 ob (rSl h11.get T_omap_pair_string_int 2 v10 (some v14) (some v7) none) fun v15 =>
 hv (rClear h11 (tyO 2 24 [(.string ⟨#[]⟩),(.int .i64 0)]) v15) fun v16 h17 l18 =>
 fin h (rsT v10 (some [])) h17 (l18 ++ (l13 ++ l6))) fun j3 => fork v2
 (fin h (rsT x0 (some [])) h [])
 (j3 [x0,x1,x2] h [])

--
noncomputable def F_k187_L58 (call:CallF) (lp:LoopF) : List Value → H → Option LOut := fun s5 h6 =>
 ob (bI .lss (nt s5 4) (nt s5 3)) fun v7 =>
 jn3 (fun s9 h10 l11 =>
 jn3 (fun s13 h14 l15 =>
 ob (bI .add (nt s13 4) (.int .i64 1)) fun v16 =>
 some ⟨.normal,[nt s13 0,nt s13 1,nt s13 2,nt s13 3,v16],h14,l15⟩) fun j12 =>
 ob (rIdxS 1 (nt s9 0) (nt s9 4)) fun v17 =>
 ob (rLd1 h10.get v17) fun v18 =>
 ob (binV pgB.ty (tyD .string) .eql (nt s9 1) v18) fun v19 =>
 jn3 (fun s21 h22 l23 =>
 j12 [nt s21 0,nt s21 1,nt s21 2,nt s21 3,nt s21 4] h22 l23) fun j20 => fork v19
 (some ⟨.ret,[nt s9 0,nt s9 1,nt s9 4,nt s9 3,nt s9 4],h10,l11⟩)
 (j20 [nt s9 0,nt s9 1,nt s9 2,nt s9 3,nt s9 4] h10 l11)) fun j8 => fork v7
 (j8 [nt s5 0,nt s5 1,nt s5 2,nt s5 3,nt s5 4] h6 [])
 (some ⟨(.exit 0),[nt s5 0,nt s5 1,nt s5 2,nt s5 3,nt s5 4],h6,[]⟩)
noncomputable def F_k187 (call:CallF) (lp:LoopF) (x0:Value) (x1:Value) (h:H) : Option R3 :=
 ob (rLenL x0) fun v0 =>
 jn3 (fun s2 h3 l4 =>
 fin h (rsT (.int .i64 (-1)) (some [])) h3 l4) fun j1 =>
 ob (lp (F_k187_L58 call lp) [x0,x1,(.int .i64 0),v0,(.int .i64 0)] h) fun o24 =>
 onEx o24.ex (j1 [] o24.h (o24.lg ++ [])) (fun i25 => bif Nat.beq i25 0 then j1 [] o24.h (o24.lg ++ []) else none) (fin h (rsT (nt o24.vs 2) (some [])) o24.h (o24.lg ++ []))

--
noncomputable def F_k188_L58 (call:CallF) (lp:LoopF) : List Value → H → Option LOut := fun s5 h6 =>
 ob (bI .lss (nt s5 4) (nt s5 3)) fun v7 =>
 jn3 (fun s9 h10 l11 =>
 jn3 (fun s13 h14 l15 =>
 ob (bI .add (nt s13 4) (.int .i64 1)) fun v16 =>
 some ⟨.normal,[nt s13 0,nt s13 1,nt s13 2,nt s13 3,v16],h14,l15⟩) fun j12 =>
 ob (rIdxS 1 (nt s9 0) (nt s9 4)) fun v17 =>
 ob (rLd1 h10.get v17) fun v18 =>
 hv (callV call h10 (nt s9 1) [v18]) fun v19 h20 l21 =>
 jn3 (fun s23 h24 l25 =>
 j12 [nt s23 0,nt s23 1,nt s23 2,nt s23 3,nt s23 4] h24 l25) fun j22 => fork v19
 (some ⟨.ret,[nt s9 0,nt s9 1,nt s9 4,nt s9 3,nt s9 4],h20,(l21 ++ l11)⟩)
 (j22 [nt s9 0,nt s9 1,nt s9 2,nt s9 3,nt s9 4] h20 (l21 ++ l11))) fun j8 => fork v7
 (j8 [nt s5 0,nt s5 1,nt s5 2,nt s5 3,nt s5 4] h6 [])
 (some ⟨(.exit 0),[nt s5 0,nt s5 1,nt s5 2,nt s5 3,nt s5 4],h6,[]⟩)
noncomputable def F_k188 (call:CallF) (lp:LoopF) (x0:Value) (x1:Value) (h:H) : Option R3 :=
 ob (rLenL x0) fun v0 =>
 jn3 (fun s2 h3 l4 =>
 fin h (rsT (.int .i64 (-1)) (some [])) h3 l4) fun j1 =>
 ob (lp (F_k188_L58 call lp) [x0,x1,(.int .i64 0),v0,(.int .i64 0)] h) fun o26 =>
 onEx o26.ex (j1 [] o26.h (o26.lg ++ [])) (fun i27 => bif Nat.beq i27 0 then j1 [] o26.h (o26.lg ++ []) else none) (fin h (rsT (nt o26.vs 2) (some [])) o26.h (o26.lg ++ []))

--
noncomputable def F_k192 (call:CallF) (lp:LoopF) (x0:Value) (x1:Value) (x2:Value) (x3:Value) (h:H) : Option R3 :=
 ob (bI .sub x1 (.int .i64 1)) fun v0 =>
 ob (bI .add x1 (.int .i64 1)) fun v1 =>
 hv (call (.fn N_k193) [x0,v0,x1,v1,x2,x3] h) fun v2 h3 l4 =>
 fin h (rsT v2 (some [])) h3 (l4 ++ [])

--
noncomputable def F_k193 (call:CallF) (lp:LoopF) (x0:Value) (x1:Value) (x2:Value) (x3:Value) (x4:Value) (x5:Value) (h:H) : Option R3 :=
 hv (call (.fn N_k203) [x0,x1,x2,x4,x5] h) fun v0 h1 l2 =>
 ob (rExtract 0 v0) fun v3 =>
 ob (rExtract 1 v0) fun v4 =>
 hv (call (.fn N_k203) [x0,v4,x3,x4,x5] h1) fun v5 h6 l7 =>
 ob (rExtract 0 v5) fun v8 =>
 ob (rExtract 1 v5) fun v9 =>
 hv (call (.fn N_k203) [x0,v3,v8,x4,x5] h6) fun v10 h11 l12 =>
 ob (rExtract 0 v10) fun v13 =>
 ob (rExtract 1 v10) fun v14 =>
 fin h (rsT v14 (some [])) h11 (l12 ++ (l7 ++ (l2 ++ [])))

--
noncomputable def F_k197 (call:CallF) (lp:LoopF) (x0:Value) (h:H) : Option R3 :=
 ob (binV pgB.ty (tyD (.pointer 0)) .eql x0 (.pointer none)) fun v0 =>
 jn3 (fun s2 h3 l4 =>
 ob (rNil (nt s2 0)) fun v5 =>
 ob (rFld 1 v5) fun v6 =>
 ob (rLd1 h3.get v6) fun v7 =>
 ob (rLenL v7) fun v8 =>
 fin h (rsT v8 (some [])) h3 l4) fun j1 => fork v0
 (fin h (rsT (.int .i64 0) (some [])) h [])
 (j1 [x0] h [])

--
noncomputable def F_k198 (call:CallF) (lp:LoopF) (x0:Value) (x1:Value) (h:H) : Option R3 :=
 hv (call (.fn N_k205) [x0,x1] h) fun v0 h1 l2 =>
 fin h (rsT v0 (some [])) h1 (l2 ++ [])

--
noncomputable def F_k199_L124 (call:CallF) (lp:LoopF) : List Value → H → Option LOut := fun s17 h18 =>
 ob (bI .lss (nt s17 6) (nt s17 7)) fun v19 =>
 jn3 (fun s21 h22 l23 =>
 jn3 (fun s25 h26 l27 =>
 some ⟨.normal,[nt s25 0,nt s25 1,nt s25 2,nt s25 3,nt s25 4,nt s25 5,nt s25 6,nt s25 7,nt s25 8,nt s25 9,nt s25 10,nt s25 11,nt s25 12,nt s25 13,nt s25 14,nt s25 15],h26,l27⟩) fun j24 =>
 ob (bI .add (nt s21 6) (nt s21 7)) fun v28 =>
 ob (rCvI .u64 v28) fun v29 =>
 ob (binV pgB.ty (tyD (.int .u64)) .shr v29 (.int .u64 1)) fun v30 =>
 ob (rCvI .i64 v30) fun v31 =>
 ob (rIdxS 2 (nt s21 0) v31) fun v32 =>
 ob (rLdA h22.get 2 v32) fun v33 =>
 hv (callV call h22 (nt s21 2) [v33,nt s21 1]) fun v34 h35 l36 =>
 ob (bI .lss v34 (.int .i64 0)) fun v37 =>
 jn3 (fun s39 h40 l41 =>
 j24 [nt s39 0,nt s39 1,nt s39 2,nt s39 3,nt s39 4,nt s39 5,nt s39 6,nt s39 7,nt s39 8,nt s39 9,nt s39 10,nt s39 11,nt s39 12,nt s39 13,nt s39 14,nt s39 15] h40 l41) fun j38 => fork v37
 (ob (bI .add v31 (.int .i64 1)) fun v42 =>
 j38 [nt s21 0,nt s21 1,nt s21 2,nt s21 3,nt s21 4,nt s21 5,v42,nt s21 7,nt s21 8,nt s21 9,nt s21 10,nt s21 11,nt s21 12,nt s21 13,nt s21 14,nt s21 15] h35 (l36 ++ l23))
 (j38 [nt s21 0,nt s21 1,nt s21 2,nt s21 3,nt s21 4,nt s21 5,nt s21 6,v31,nt s21 8,nt s21 9,nt s21 10,nt s21 11,nt s21 12,nt s21 13,nt s21 14,nt s21 15] h35 (l36 ++ l23))) fun j20 => fork v19
 (j20 [nt s17 0,nt s17 1,nt s17 2,nt s17 3,nt s17 4,nt s17 5,nt s17 6,nt s17 7,nt s17 8,nt s17 9,nt s17 10,nt s17 11,nt s17 12,nt s17 13,nt s17 14,nt s17 15] h18 [])
 (some ⟨(.exit 0),[nt s17 0,nt s17 1,nt s17 2,nt s17 3,nt s17 4,nt s17 5,nt s17 6,nt s17 7,nt s17 8,nt s17 9,nt s17 10,nt s17 11,nt s17 12,nt s17 13,nt s17 14,nt s17 15],h18,[]⟩)
noncomputable def F_k199 (call:CallF) (lp:LoopF) (x0:Value) (x1:Value) (x2:Value) (h:H) : Option R3 :=
 ob (rLenL x0) fun v0 =>
 jn3 (fun s2 h3 l4 =>
 ob (bI .lss (nt s2 4) (nt s2 3)) fun v5 =>
 gP (gd v5 true) (some (nt s2 2)) fun v6 =>
 gP (gd v5 true) (some (nt s2 0)) fun v7 =>
 gP (gd v5 true) (some (nt s2 4)) fun v8 =>
 gP (gd v5 true) (rIdxS 2 v7 v8) fun v9 =>
 gP (gd v5 true) (rLdA h3.get 2 v9) fun v10 =>
 gP (gd v5 true) (some (nt s2 1)) fun v11 =>
 hv (gV (gd v5 true) (callV call h3 v6 [v10,v11]) h3) fun v12 h13 l14 =>
 gP (gd v5 true) (bI .eql v12 (.int .i64 0)) fun v15 =>
 ob (rPick v5 v15 (.bool false)) fun v16 =>
 fin h (rsT (nt s2 4) (rsT v16 (some []))) h13 (l14 ++ l4)) fun j1 =>
 ob (lp (F_k199_L124 call lp) [x0,x1,x2,(.int .i64 0),(.bool false),v0,(.int .i64 0),v0,poison,poison,poison,poison,poison,poison,poison,poison] h) fun o43 =>
 onEx o43.ex (j1 [(nt o43.vs 0),(nt o43.vs 1),(nt o43.vs 2),(nt o43.vs 5),(nt o43.vs 6),(nt o43.vs 8),(nt o43.vs 9),(nt o43.vs 10),(nt o43.vs 11),(nt o43.vs 12),(nt o43.vs 13),(nt o43.vs 14),(nt o43.vs 15)] o43.h (o43.lg ++ [])) (fun i44 => bif Nat.beq i44 0 then j1 [(nt o43.vs 0),(nt o43.vs 1),(nt o43.vs 2),(nt o43.vs 5),(nt o43.vs 6),(nt o43.vs 8),(nt o43.vs 9),(nt o43.vs 10),(nt o43.vs 11),(nt o43.vs 12),(nt o43.vs 13),(nt o43.vs 14),(nt o43.vs 15)] o43.h (o43.lg ++ []) else none) (fin h (rsT (nt o43.vs 3) (rsT (nt o43.vs 4) (some []))) o43.h (o43.lg ++ []))

--
noncomputable def F_k200 (call:CallF) (lp:LoopF) (x0:Value) (x1:Value) (x2:Value) (h:H) : Option R3 :=
 al (aBx h.n T_omap_pair_string_int 2 x0) h fun v0 h1 =>
 ob (rLd1 h1.get x2) fun v2 =>
 ob (rNil v2) fun v3 =>
 ob (rFld 0 v3) fun v4 =>
 ob (rLd1 h1.get v4) fun v5 =>
 ob (rFld 0 v0) fun v6 =>
 ob (rLd1 h1.get v6) fun v7 =>
 hv (callV call h1 v5 [v7,x1]) fun v8 h9 l10 =>
 dr [0,1,3,7,0,16,0,127,255] [mR h1 (rdP x2),mP h1,mP h1,mR h1 (rdP v4),mP h1,mR h1 (rdP v6),mP h1,mH h1 (rdL [v7,x1]) l10 h9,mP h9] fun l11 =>
 fin h (rsT v8 (some [])) h9 (l11 ++ [])

--
noncomputable def F_k203 (call:CallF) (lp:LoopF) (x0:Value) (x1:Value) (x2:Value) (x3:Value) (x4:Value) (h:H) : Option R3 :=
 ob (rIdxS 2 x0 x2) fun v0 =>
 ob (rLdA h.get 2 v0) fun v1 =>
 ob (rIdxS 2 x0 x1) fun v2 =>
 ob (rLdA h.get 2 v2) fun v3 =>
 hv (callV call h x4 [v1,v3]) fun v4 h5 l6 =>
 ob (bI .lss v4 (.int .i64 0)) fun v7 =>
 dr [0,0,0,6,14,0,0,96,224,511,1023] [mP h,mP h,mP h,mP h,mR h (rdP v0),mP h,mP h,mP h,mR h (rdP v2),mH h (rdL [v1,v3]) l6 h5,mP h5] fun l8 =>
 jn3 (fun s10 h11 l12 =>
 fin h (rsT (nt s10 0) (rsT (nt s10 1) (some []))) h11 l12) fun j9 => fork v7
 (ob (rNil x3) fun v13 =>
 ob (rLd1 h5.get v13) fun v14 =>
 ob (bI .add v14 (.int .i64 1)) fun v15 =>
 ob (rNil x3) fun v16 =>
 hv (rStore h5 1 v16 v15) fun v17 h18 l19 =>
 fin h (rsT x2 (rsT x1 (some []))) h18 (l19 ++ (l8 ++ [])))
 (j9 [x1,x2] h5 (l8 ++ []))

end Go.L1
