import Derived.Test.YtbmpmjljbiepiaaGreatSeatPg
set_option autoImplicit true
set_option relaxedAutoImplicit true
set_option linter.all false
set_option linter.unusedVariables false
set_option linter.unusedSimpArgs false
set_option linter.unusedVariables false
namespace Go.L1
open Go Go.Proofs
noncomputable abbrev bI (op : BinOp) (x y : Value) : Option Value := binV pgB.ty (tyD (.int .i64)) op x y
abbrev jn3 {ρ : Type} (K : List Value → H → List Nat → Option ρ) (F : (List Value → H → List Nat → Option ρ) → Option ρ) : Option ρ := jn K F
-- 8 asterism/asterismlaw16.IndexNone
noncomputable def F_k8 (call : CallF) (lp : LoopF) (h : H) : Option (Value × H × List Nat) :=
 hv (call (.fn N_k23) [] h) fun v0 h1 l2 =>
 hv (call (.fn N_k22) [(.pointer none), v0] h1) fun v3 h4 l5 =>
 hv (call (.fn N_k24) [] h4) fun v6 h7 l8 =>
 gP (gd v6 true) (some (.pointer none)) fun v9 =>
 hv (gV (gd v6 true) (call (.fn N_k26) [(.int .i64 1)] h7) h7) fun v10 h11 l12 =>
 hv (gV (gd v6 true) (call (.fn N_k25) [v9, v10] h11) h11) fun v13 h14 l15 =>
 hv (gV (gd v6 true) (call (.fn N_k27) [v13] h14) h14) fun v16 h17 l18 =>
 gP (gd v6 true) (bI .eql v16 (.int .i64 0)) fun v19 =>
 ob (rPick v6 v19 (.bool false)) fun v20 =>
 gP (gd v20 true) (some (.pointer none)) fun v21 =>
 hv (gV (gd v20 true) (call (.fn N_k28) [v21] h17) h17) fun v22 h23 l24 =>
 gP (gd v20 true) (rLenL v22) fun v25 =>
 gP (gd v20 true) (bI .eql v25 (.int .i64 0)) fun v26 =>
 ob (rPick v20 v26 (.bool false)) fun v27 =>
 gP (gd v27 true) (some (.pointer none)) fun v28 =>
 gP (gd v27 true) (oBuild pgB T_api_Value []) fun v29 =>
 hv (gV (gd v27 true) (call (.fn N_k29) [v28, (.int .i64 7), v29] h23) h23) fun v30 h31 l32 =>
 hv (gV (gd v27 true) (call (.fn N_k27) [v30] h31) h31) fun v33 h34 l35 =>
 gP (gd v27 true) (bI .eql v33 (.int .i64 0)) fun v36 =>
 ob (rPick v27 v36 (.bool false)) fun v37 =>
 fin h (rsT v37 (some [])) h34 (l35 ++ (l32 ++ (l24 ++ (l18 ++ (l15 ++ (l12 ++ (l8 ++ (l5 ++ (l2 ++ [])))))))))

-- 9 asterism/asterismlaw15.begun
noncomputable def F_k9 (call : CallF) (lp : LoopF) (h : H) : Option (Value × H × List Nat) :=
 hv (call (.fn N_k17) [] h) fun v0 h1 l2 =>
 ob (rExtract 0 v0) fun v3 =>
 ob (rExtract 1 v0) fun v4 =>
 ob (binV pgB.ty (tyD (.pointer 0)) .eql v3 (.pointer none)) fun v5 =>
 gP (gd v5 false) (some v3) fun v6 =>
 hv (gV (gd v5 false) (call (.fn N_k20) [v6, (.string ⟨#[108, 97, 110, 100]⟩)] h1) h1) fun v7 h8 l9 =>
 gP (gd v5 false) (binV pgB.ty (tyD (.pointer 0)) .eql v7 (.pointer none)) fun v10 =>
 ob (rPick v5 (.bool true) v10) fun v11 =>
 jn3 (fun vs13 h14 l15 =>
 hv (call (.fn N_k18) [(.int .i64 1)] h14) fun v16 h17 l18 =>
 hv (call (.fn N_k19) [(.string ⟨#[120]⟩)] h17) fun v19 h20 l21 =>
 ob (oBuild pgB T_api_Value []) fun v22 =>
 hv (call (.fn N_k18) [(.int .i64 9)] h20) fun v23 h24 l25 =>
 al (aBuildS pgB h24.n T_Lapi_Value 4 [(0, v16), (1, v19), (2, v22), (3, v23)]) h24 fun v26 h27 =>
 ob (oBuild pgB T_api_Op [(0, (.int .i64 1)), (1, (.string ⟨#[115, 104, 111, 112]⟩)), (4, v26)]) fun v28 =>
 hv (call (.fn N_k18) [(.int .i64 9)] h27) fun v29 h30 l31 =>
 ob (oBuild pgB T_api_Value []) fun v32 =>
 al (aBuildS pgB h30.n T_Lapi_Value 2 [(0, v29), (1, v32)]) h30 fun v33 h34 =>
 ob (oBuild pgB T_api_Op [(0, (.int .i64 1)), (1, (.string ⟨#[108, 97, 110, 100]⟩)), (4, v33)]) fun v35 =>
 al (aBuildS pgB h34.n T_Lapi_Op 2 [(0, v28), (1, v35)]) h34 fun v36 h37 =>
 hv (call (.fn N_k13) [(nt vs13 0), v36] h37) fun v38 h39 l40 =>
 ob (rExtract 0 v38) fun v41 =>
 ob (rExtract 1 v38) fun v42 =>
 ob (rExtract 2 v38) fun v43 =>
 al (aNew h39.n T_api_Fault [(.int .i64 0), (.int .i64 0), (.string ⟨#[]⟩), (.int .i64 0), (.string ⟨#[]⟩)]) h39 fun v44 h45 =>
 hv (rStore h45 5 v44 v43) fun v46 h47 l48 =>
 ob (rSl h47.get T_api_Op 5 v36 none (some (.int .i64 1)) none) fun v49 =>
 hv (call (.fn N_k13) [(nt vs13 0), v49] h47) fun v50 h51 l52 =>
 ob (rExtract 0 v50) fun v53 =>
 ob (rExtract 1 v50) fun v54 =>
 ob (rExtract 2 v50) fun v55 =>
 al (aNew h51.n T_api_Fault [(.int .i64 0), (.int .i64 0), (.string ⟨#[]⟩), (.int .i64 0), (.string ⟨#[]⟩)]) h51 fun v56 h57 =>
 hv (rStore h57 5 v56 v55) fun v58 h59 l60 =>
 ob (binV pgB.ty (tyD (.pointer 0)) .eql v41 (.pointer none)) fun v61 =>
 gP (gd v61 false) (some v41) fun v62 =>
 hv (gV (gd v61 false) (call (.fn N_k20) [v62, (.string ⟨#[115, 104, 111, 112]⟩)] h59) h59) fun v63 h64 l65 =>
 gP (gd v61 false) (binV pgB.ty (tyD (.pointer 0)) .eql v63 (.pointer none)) fun v66 =>
 ob (rPick v61 (.bool true) v66) fun v67 =>
 jn3 (fun vs69 h70 l71 =>
 hv (call (.fn N_k30) [] h70) fun v72 h73 l74 =>
 hv (gV (gd v72 true) (call (.fn N_k31) [] h73) h73) fun v75 h76 l77 =>
 ob (rPick v72 v75 (.bool false)) fun v78 =>
 gP (gd v78 true) (rFld 0 (nt vs69 3)) fun v79 =>
 gP (gd v78 true) (rLd1 h76.get v79) fun v80 =>
 gP (gd v78 true) (bI .eql v80 (.int .i64 0)) fun v81 =>
 ob (rPick v78 v81 (.bool false)) fun v82 =>
 gP (gd v82 true) (some (nt vs69 2)) fun v83 =>
 gP (gd v82 true) (rLenL v83) fun v84 =>
 gP (gd v82 true) (bI .eql v84 (.int .i64 2)) fun v85 =>
 ob (rPick v82 v85 (.bool false)) fun v86 =>
 gP (gd v86 true) (some (nt vs69 4)) fun v87 =>
 gP (gd v86 true) (binV pgB.ty (tyD (.pointer 0)) .eql v87 (.pointer none)) fun v88 =>
 ob (rPick v86 v88 (.bool false)) fun v89 =>
 gP (gd v89 true) (rFld 0 (nt vs69 5)) fun v90 =>
 gP (gd v89 true) (rLd1 h76.get v90) fun v91 =>
 gP (gd v89 true) (bI .eql v91 (.int .i64 9)) fun v92 =>
 ob (rPick v89 v92 (.bool false)) fun v93 =>
 gP (gd v93 true) (rFld 1 (nt vs69 5)) fun v94 =>
 gP (gd v93 true) (rLd1 h76.get v94) fun v95 =>
 gP (gd v93 true) (bI .eql v95 (.int .i64 1)) fun v96 =>
 ob (rPick v93 v96 (.bool false)) fun v97 =>
 gP (gd v97 true) (rFld 2 (nt vs69 5)) fun v98 =>
 gP (gd v97 true) (rLd1 h76.get v98) fun v99 =>
 gP (gd v97 true) (binV pgB.ty (tyD .string) .eql v99 (.string ⟨#[115, 104, 111, 112]⟩)) fun v100 =>
 ob (rPick v97 v100 (.bool false)) fun v101 =>
 gP (gd v101 true) (rFld 4 (nt vs69 5)) fun v102 =>
 gP (gd v101 true) (rLd1 h76.get v102) fun v103 =>
 gP (gd v101 true) (binV pgB.ty (tyD .string) .eql v103 (.string ⟨#[108, 97, 110, 100]⟩)) fun v104 =>
 ob (rPick v101 v104 (.bool false)) fun v105 =>
 gP (gd v105 true) (some (nt vs69 0)) fun v106 =>
 hv (gV (gd v105 true) (call (.fn N_k20) [v106, (.string ⟨#[115, 104, 111, 112]⟩)] h76) h76) fun v107 h108 l109 =>
 hv (gV (gd v105 true) (call (.fn N_k32) [v107] h108) h108) fun v110 h111 l112 =>
 hv (gV (gd v105 true) (call (.fn N_k27) [v110] h111) h111) fun v113 h114 l115 =>
 gP (gd v105 true) (bI .eql v113 (.int .i64 0)) fun v116 =>
 ob (rPick v105 v116 (.bool false)) fun v117 =>
 gP (gd v117 true) (some (nt vs69 1)) fun v118 =>
 hv (gV (gd v117 true) (call (.fn N_k20) [v118, (.string ⟨#[115, 104, 111, 112]⟩)] h114) h114) fun v119 h120 l121 =>
 hv (gV (gd v117 true) (call (.fn N_k32) [v119] h120) h120) fun v122 h123 l124 =>
 hv (gV (gd v117 true) (call (.fn N_k27) [v122] h123) h123) fun v125 h126 l127 =>
 gP (gd v117 true) (bI .eql v125 (.int .i64 1)) fun v128 =>
 ob (rPick v117 v128 (.bool false)) fun v129 =>
 fin h (rsT v129 (some [])) h126 (l127 ++ (l124 ++ (l121 ++ (l115 ++ (l112 ++ (l109 ++ (l77 ++ (l74 ++ l71))))))))) fun j68 => fork v67
 (fin h (rsT (.bool false) (some [])) h64 (l65 ++ (l60 ++ (l52 ++ (l48 ++ (l40 ++ (l31 ++ (l25 ++ (l21 ++ (l18 ++ l15))))))))))
 (j68 [(nt vs13 0), v41, v42, v44, v53, v56, (nt vs13 4), (nt vs13 5), (nt vs13 6), (nt vs13 7), (nt vs13 8), (nt vs13 9), (nt vs13 10), (nt vs13 11), (nt vs13 12), (nt vs13 13), (nt vs13 14), (nt vs13 15), (nt vs13 16), (nt vs13 17), (nt vs13 18), (nt vs13 19), (nt vs13 20), (nt vs13 21), (nt vs13 22), (nt vs13 23), (nt vs13 24), (nt vs13 25), (nt vs13 26), (nt vs13 27), (nt vs13 28), (nt vs13 29), (nt vs13 30), (nt vs13 31), (nt vs13 32), (nt vs13 33), (nt vs13 34)] h64 (l65 ++ (l60 ++ (l52 ++ (l48 ++ (l40 ++ (l31 ++ (l25 ++ (l21 ++ (l18 ++ l15))))))))))) fun j12 => fork v11
 (fin h (rsT (.bool false) (some [])) h8 (l9 ++ (l2 ++ [])))
 (j12 [v3, poison, poison, poison, poison, poison, poison, poison, poison, poison, poison, poison, poison, poison, poison, poison, poison, poison, poison, poison, poison, poison, poison, poison, poison, poison, poison, poison, poison, poison, poison, poison, poison, poison, poison] h8 (l9 ++ (l2 ++ [])))

-- 11 asterism/check.Check
noncomputable def F_k11_L58 (call : CallF) (lp : LoopF) : List Value → H → Option LOut := fun vs20 h21 =>
 ob (bI .lss (nt vs20 4) (nt vs20 3)) fun v22 =>
 jn3 (fun vs24 h25 l26 =>
 jn3 (fun vs28 h29 l30 =>
 ob (bI .add (nt vs28 4) (.int .i64 1)) fun v31 =>
 some ⟨.normal, [(nt vs28 0), (nt vs28 1), (nt vs28 2), (nt vs28 3), v31], h29, l30⟩) fun j27 =>
 ob (rIdxS 1 (nt vs24 2) (nt vs24 4)) fun v32 =>
 ob (rLd1 h25.get v32) fun v33 =>
 al (aNew h25.n T_string [(.string ⟨#[]⟩)]) h25 fun v34 h35 =>
 hv (rStore h35 1 v34 v33) fun v36 h37 l38 =>
 ob (rLd1 h37.get (nt vs24 0)) fun v39 =>
 ob (rLd1 h37.get v34) fun v40 =>
 hv (call (.fn N_k20) [v39, v40] h37) fun v41 h42 l43 =>
 ob (rLd1 h42.get v34) fun v44 =>
 hv (call (.fn N_k36) [v44, v41] h42) fun v45 h46 l47 =>
 al (aNew h46.n T_api_Fault [(.int .i64 0), (.int .i64 0), (.string ⟨#[]⟩), (.int .i64 0), (.string ⟨#[]⟩)]) h46 fun v48 h49 =>
 hv (rStore h49 5 v48 v45) fun v50 h51 l52 =>
 ob (rFld 0 v48) fun v53 =>
 ob (rLd1 h51.get v53) fun v54 =>
 ob (bI .neq v54 (.int .i64 0)) fun v55 =>
 jn3 (fun vs57 h58 l59 =>
 al (aNew h58.n T_Li64 [(.slice none 0 0)]) h58 fun v60 h61 =>
 hv (call (.fn N_k32) [(nt vs57 3)] h61) fun v62 h63 l64 =>
 hv (call (.fn N_k37) [v62] h63) fun v65 h66 l67 =>
 jn3 (fun vs69 h70 l71 =>
 j27 [(nt vs69 0), (nt vs69 1), (nt vs69 2), (nt vs69 3), (nt vs69 4)] h70 l71) fun j68 =>
 ob (rangeV call N_k11 (((((Env.ofList [1, 2, 4, 5, 12, 13, 14] vs57).set 7 v60).set 28 (nt vs57 3)).set 29 v62).set 30 v65) h66 v65 #[31] (rfA (cAt [1, 0, 1, 0, 0, 1, 1, 0, 0, 1, 1, 1, 1, 1, 0] (Tryz.f11.body.getD .skip))) (rfB (cAt [1, 0, 1, 0, 0, 1, 1, 0, 0, 1, 1, 1, 1, 1, 0] (Tryz.f11.body.getD .skip)))) fun r72 =>
 onEx r72.1 (j68 [(nt vs57 0), (nt vs57 1), (nt vs57 4), (nt vs57 5), (nt vs57 6)] r72.2.1 (r72.2.2 ++ (l67 ++ (l64 ++ l59)))) (fun i73 => bif Nat.beq i73 2 then j68 [(nt vs57 0), (nt vs57 1), (nt vs57 4), (nt vs57 5), (nt vs57 6)] r72.2.1 (r72.2.2 ++ (l67 ++ (l64 ++ l59))) else bif Nat.beq i73 1 then j27 [(nt vs57 0), (nt vs57 1), (nt vs57 4), (nt vs57 5), (nt vs57 6)] r72.2.1 (r72.2.2 ++ (l67 ++ (l64 ++ l59))) else some ⟨(.exit i73), [(nt vs57 0), (nt vs57 1), (nt vs57 4), (nt vs57 5), (nt vs57 6)], r72.2.1, (r72.2.2 ++ (l67 ++ (l64 ++ l59)))⟩) (some ⟨.ret, [(nt vs57 0), (nt vs57 1), (nt vs57 4), (nt vs57 5), (nt vs57 6)], r72.2.1, (r72.2.2 ++ (l67 ++ (l64 ++ l59)))⟩)) fun j56 => fork v55
 (ob (rLdA h51.get 5 v48) fun v74 =>
 hv (rStore h51 5 (nt vs24 1) v74) fun v75 h76 l77 =>
 some ⟨.ret, [(nt vs24 0), (nt vs24 1), (nt vs24 2), (nt vs24 3), (nt vs24 4)], h76, (l77 ++ (l52 ++ (l47 ++ (l43 ++ (l38 ++ l26)))))⟩)
 (j56 [(nt vs24 0), (nt vs24 1), v34, v41, (nt vs24 2), (nt vs24 3), (nt vs24 4)] h51 (l52 ++ (l47 ++ (l43 ++ (l38 ++ l26)))))) fun j23 => fork v22
 (j23 [(nt vs20 0), (nt vs20 1), (nt vs20 2), (nt vs20 3), (nt vs20 4)] h21 [])
 (some ⟨(.exit 0), [(nt vs20 0), (nt vs20 1), (nt vs20 2), (nt vs20 3), (nt vs20 4)], h21, []⟩)
noncomputable def F_k11 (call : CallF) (lp : LoopF) (x0 : Value) (h : H) : Option (Value × H × List Nat) :=
 al (aBx h.n T_Pdata_DB 1 x0) h fun v0 h1 =>
 al (aNew h1.n T_api_Fault [(.int .i64 0), (.int .i64 0), (.string ⟨#[]⟩), (.int .i64 0), (.string ⟨#[]⟩)]) h1 fun v2 h3 =>
 ob (rLd1 h3.get v0) fun v4 =>
 hv (call (.fn N_k34) [v4] h3) fun v5 h6 l7 =>
 hv (call (.fn N_k35) [v5] h6) fun v8 h9 l10 =>
 ob (rLenL v8) fun v11 =>
 jn3 (fun vs13 h14 l15 =>
 ob (oBuild pgB T_api_Fault []) fun v16 =>
 hv (rStore h14 5 (nt vs13 0) v16) fun v17 h18 l19 =>
 fin h (rsK (rLdA h18.get 5 (nt vs13 0)) (some [])) h18 (l19 ++ l15)) fun j12 =>
 ob (lp (F_k11_L58 call lp) [v0, v2, v8, v11, (.int .i64 0)] h9) fun o78 =>
 onEx o78.ex (j12 [(nt o78.vs 1)] o78.h (o78.lg ++ (l10 ++ (l7 ++ [])))) (fun i79 => bif Nat.beq i79 0 then j12 [(nt o78.vs 1)] o78.h (o78.lg ++ (l10 ++ (l7 ++ []))) else none) (fin h (rsK (rLdA o78.h.get 5 (nt o78.vs 1)) (some [])) o78.h (o78.lg ++ (l10 ++ (l7 ++ []))))

-- 13 asterism/load.Load
noncomputable def F_k13 (call : CallF) (lp : LoopF) (x0 : Value) (x1 : Value) (h : H) : Option (Value × H × List Nat) :=
 al (aNew h.n T_api_Fault [(.int .i64 0), (.int .i64 0), (.string ⟨#[]⟩), (.int .i64 0), (.string ⟨#[]⟩)]) h fun v0 h1 =>
 hv (call (.fn N_k41) [x0] h1) fun v2 h3 l4 =>
 hv (call (.fn N_k42) [v2, x1] h3) fun v5 h6 l7 =>
 ob (rExtract 0 v5) fun v8 =>
 ob (rExtract 1 v5) fun v9 =>
 al (aNew h6.n T_api_Fault [(.int .i64 0), (.int .i64 0), (.string ⟨#[]⟩), (.int .i64 0), (.string ⟨#[]⟩)]) h6 fun v10 h11 =>
 hv (rStore h11 5 v10 v9) fun v12 h13 l14 =>
 ob (rFld 0 v10) fun v15 =>
 ob (rLd1 h13.get v15) fun v16 =>
 ob (bI .neq v16 (.int .i64 0)) fun v17 =>
 jn3 (fun vs19 h20 l21 =>
 hv (call (.fn N_k11) [(nt vs19 2)] h20) fun v22 h23 l24 =>
 hv (rStore h23 5 (nt vs19 4) v22) fun v25 h26 l27 =>
 ob (rFld 0 (nt vs19 4)) fun v28 =>
 ob (rLd1 h26.get v28) fun v29 =>
 ob (bI .neq v29 (.int .i64 0)) fun v30 =>
 jn3 (fun vs32 h33 l34 =>
 ob (oBuild pgB T_api_Fault []) fun v35 =>
 hv (rStore h33 5 (nt vs32 0) v35) fun v36 h37 l38 =>
 fin h (rsT (nt vs32 1) (rsT (nt vs32 2) (rsK (rLdA h37.get 5 (nt vs32 0)) (some [])))) h37 (l38 ++ l34)) fun j31 => fork v30
 (ob (rLenL (nt vs19 0)) fun v39 =>
 ob (rFld 1 (nt vs19 4)) fun v40 =>
 hv (rStore h26 1 v40 v39) fun v41 h42 l43 =>
 ob (rLdA h42.get 5 (nt vs19 4)) fun v44 =>
 hv (rStore h42 5 (nt vs19 1) v44) fun v45 h46 l47 =>
 dr [0, 0, 2, 7] [mR h42 (rdP (nt vs19 4)), mP h42, mP h42, mH h42 [] l47 h46] fun l48 =>
 fin h (rsT (.pointer none) (rsT (.slice none 0 0) (rsK (rLdA h46.get 5 (nt vs19 1)) (some [])))) h46 (l48 ++ (l43 ++ (l27 ++ (l24 ++ l21)))))
 (j31 [(nt vs19 1), (nt vs19 2), (nt vs19 3)] h26 (l27 ++ (l24 ++ l21)))) fun j18 => fork v17
 (ob (rLdA h13.get 5 v10) fun v49 =>
 hv (rStore h13 5 v0 v49) fun v50 h51 l52 =>
 dr [0, 0, 2, 7] [mR h13 (rdP v10), mP h13, mP h13, mH h13 [] l52 h51] fun l53 =>
 fin h (rsT (.pointer none) (rsT (.slice none 0 0) (rsK (rLdA h51.get 5 v0) (some [])))) h51 (l53 ++ (l14 ++ (l7 ++ (l4 ++ [])))))
 (j18 [x1, v0, v2, v8, v10] h13 (l14 ++ (l7 ++ (l4 ++ []))))

-- 17 asterism/asterismlaw12.Star
noncomputable def F_k17_L250 (call : CallF) (lp : LoopF) : List Value → H → Option LOut := fun vs13 h14 =>
 ob (rLenL (nt vs13 4)) fun v15 =>
 ob (bI .lss (nt vs13 5) v15) fun v16 =>
 jn3 (fun vs18 h19 l20 =>
 jn3 (fun vs22 h23 l24 =>
 ob (bI .add (nt vs22 5) (.int .i64 1)) fun v25 =>
 some ⟨.normal, [(nt vs22 0), (nt vs22 1), (nt vs22 2), (nt vs22 3), (nt vs22 4), v25], h23, l24⟩) fun j21 =>
 ob (rIdxS 4 (nt vs18 4) (nt vs18 5)) fun v26 =>
 ob (rLdA h19.get 4 v26) fun v27 =>
 hv (call (.fn N_k48) [(nt vs18 2), v27] h19) fun v28 h29 l30 =>
 ob (rIdxS 4 (nt vs18 4) (nt vs18 5)) fun v31 =>
 ob (rLdA h29.get 4 v31) fun v32 =>
 hv (call (.fn N_k49) [(nt vs18 3), v32] h29) fun v33 h34 l35 =>
 j21 [(nt vs18 0), (nt vs18 1), (nt vs18 2), (nt vs18 3), (nt vs18 4), (nt vs18 5)] h34 (l35 ++ (l30 ++ l20))) fun j17 => fork v16
 (j17 [(nt vs13 0), (nt vs13 1), (nt vs13 2), (nt vs13 3), (nt vs13 4), (nt vs13 5)] h14 [])
 (some ⟨(.exit 0), [(nt vs13 0), (nt vs13 1), (nt vs13 2), (nt vs13 3), (nt vs13 4), (nt vs13 5)], h14, []⟩)
noncomputable def F_k17 (call : CallF) (lp : LoopF) (h : H) : Option (Value × H × List Nat) :=
 hv (call (.fn N_k23) [] h) fun v0 h1 l2 =>
 ob (oBuild pgB T_asterismref12_DB []) fun v3 =>
 al (aBx h1.n T_asterismref12_DB 3 v3) h1 fun v4 h5 =>
 hv (call (.fn N_k47) [] h5) fun v6 h7 l8 =>
 jn3 (fun vs10 h11 l12 =>
 fin h (rsT (nt vs10 0) (rsT (nt vs10 1) (some []))) h11 l12) fun j9 =>
 ob (lp (F_k17_L250 call lp) [(.pointer none), (.pointer none), v0, v4, v6, (.int .i64 0)] h7) fun o36 =>
 onEx o36.ex (j9 [(nt o36.vs 2), (nt o36.vs 3)] o36.h (o36.lg ++ (l8 ++ (l2 ++ [])))) (fun i37 => bif Nat.beq i37 0 then j9 [(nt o36.vs 2), (nt o36.vs 3)] o36.h (o36.lg ++ (l8 ++ (l2 ++ []))) else none) (fin h (rsT (nt o36.vs 0) (rsT (nt o36.vs 1) (some []))) o36.h (o36.lg ++ (l8 ++ (l2 ++ []))))

-- 18 asterism/asterismlaw15.num
noncomputable def F_k18 (call : CallF) (lp : LoopF) (x0 : Value) (h : H) : Option (Value × H × List Nat) :=
 al (aNew h.n T_api_Value [(.int .i64 0), (.int .i64 0), (.string ⟨#[]⟩)]) h fun v0 h1 =>
 ob (oBuild pgB T_api_Value [(0, (.int .i64 1)), (1, x0)]) fun v2 =>
 hv (rStore h1 3 v0 v2) fun v3 h4 l5 =>
 fin h (rsK (rLdA h4.get 3 v0) (some [])) h4 (l5 ++ [])

-- 19 asterism/asterismlaw15.text
noncomputable def F_k19 (call : CallF) (lp : LoopF) (x0 : Value) (h : H) : Option (Value × H × List Nat) :=
 al (aNew h.n T_api_Value [(.int .i64 0), (.int .i64 0), (.string ⟨#[]⟩)]) h fun v0 h1 =>
 ob (oBuild pgB T_api_Value [(0, (.int .i64 2)), (2, x0)]) fun v2 =>
 hv (rStore h1 3 v0 v2) fun v3 h4 l5 =>
 fin h (rsK (rLdA h4.get 3 v0) (some [])) h4 (l5 ++ [])

-- 20 (*asterism/data.DB).Table
noncomputable def F_k20 (call : CallF) (lp : LoopF) (x0 : Value) (x1 : Value) (h : H) : Option (Value × H × List Nat) :=
 ob (binV pgB.ty (tyD (.pointer 0)) .eql x0 (.pointer none)) fun v0 =>
 jn3 (fun vs2 h3 l4 =>
 ob (rNil (nt vs2 0)) fun v5 =>
 ob (rFld 1 v5) fun v6 =>
 ob (rLd1 h3.get v6) fun v7 =>
 ob (oLk pgB h3.get T_MstringPtable_Table v7 (nt vs2 1) false) fun v8 =>
 fin h (rsT v8 (some [])) h3 l4) fun j1 => fork v0
 (fin h (rsT (.pointer none) (some [])) h [])
 (j1 [x0, x1] h [])

-- 21 (*asterism/table.Table).Next
noncomputable def F_k21 (call : CallF) (lp : LoopF) (x0 : Value) (h : H) : Option (Value × H × List Nat) :=
 ob (binV pgB.ty (tyD (.pointer 0)) .eql x0 (.pointer none)) fun v0 =>
 jn3 (fun vs2 h3 l4 =>
 ob (rNil (nt vs2 0)) fun v5 =>
 ob (rFld 6 v5) fun v6 =>
 ob (rLd1 h3.get v6) fun v7 =>
 fin h (rsT v7 (some [])) h3 l4) fun j1 => fork v0
 (fin h (rsT (.int .i64 0) (some [])) h [])
 (j1 [x0] h [])

-- 22 (*asterism/index.Index).Update
noncomputable def F_k22 (call : CallF) (lp : LoopF) (x0 : Value) (x1 : Value) (h : H) : Option (Value × H × List Nat) :=
 al (aBx h.n T_Pindex_Index 1 x0) h fun v0 h1 =>
 al (aBx h1.n T_Pdata_DB 1 x1) h1 fun v2 h3 =>
 ob (rLd1 h3.get v0) fun v4 =>
 ob (binV pgB.ty (tyD (.pointer 0)) .eql v4 (.pointer none)) fun v5 =>
 jn3 (fun vs7 h8 l9 =>
 hv (call (.fn N_k50) [(.func (.func N_k51) #[] #[])] h8) fun v10 h11 l12 =>
 al (aNew h11.n T_Pomap_Map_api_Value_int [(.pointer none)]) h11 fun v13 h14 =>
 hv (rStore h14 1 v13 v10) fun v15 h16 l17 =>
 ob (rLd1 h16.get (nt vs7 1)) fun v18 =>
 ob (rLd1 h16.get (nt vs7 0)) fun v19 =>
 ob (rNil v19) fun v20 =>
 ob (rFld 0 v20) fun v21 =>
 ob (rLd1 h16.get v21) fun v22 =>
 hv (call (.fn N_k20) [v18, v22] h16) fun v23 h24 l25 =>
 hv (call (.fn N_k32) [v23] h24) fun v26 h27 l28 =>
 hv (call (.fn N_k37) [v26] h27) fun v29 h30 l31 =>
 dr [0, 0, 2, 6, 14, 31, 63, 127] [mR h16 (rdP (nt vs7 1)), mR h16 (rdP (nt vs7 0)), mP h16, mP h16, mR h16 (rdP v21), mH h16 (rdL [v18, v22]) l25 h24, mH h24 (rdL [v23]) l28 h27, mH h27 (rdL [v26]) l31 h30] fun l32 =>
 jn3 (fun vs34 h35 l36 =>
 ob (rLd1 h35.get (nt vs34 0)) fun v37 =>
 hv (call (.fn N_k55) [(.func (.func N_k51) #[] #[])] h35) fun v38 h39 l40 =>
 ob (rNil v37) fun v41 =>
 ob (rFld 2 v41) fun v42 =>
 hv (rStore h39 1 v42 v38) fun v43 h44 l45 =>
 dr [0, 0, 3, 7, 15] [mR h35 (rdP (nt vs34 0)), mH h35 (rdL [(.func (.func N_k51) #[] #[])]) l40 h39, mP h39, mP h39, mH h39 [] l45 h44] fun l46 =>
 ob (rLd1 h44.get (nt vs34 1)) fun v47 =>
 hv (call (.fn N_k56) [v47] h44) fun v48 h49 l50 =>
 jn3 (fun vs52 h53 l54 =>
 fin h (some []) h53 l54) fun j51 =>
 ob (rangeV call N_k22 (((((((Env.ofList [2, 4] vs34).set 51 v37).set 52 v38).set 53 v41).set 54 v42).set 55 v47).set 56 v48) h49 v48 #[57, 58] (rfA (cAt [1, 1, 1, 1, 1, 1, 0] (Tryz.f22.body.getD .skip))) (rfB (cAt [1, 1, 1, 1, 1, 1, 0] (Tryz.f22.body.getD .skip)))) fun r55 =>
 onEx r55.1 (j51 [] r55.2.1 (r55.2.2 ++ (l50 ++ (l46 ++ l36)))) (fun i56 => bif Nat.beq i56 2 then j51 [] r55.2.1 (r55.2.2 ++ (l50 ++ (l46 ++ l36))) else none) (fin h (some []) r55.2.1 (r55.2.2 ++ (l50 ++ (l46 ++ l36))))) fun j33 =>
 ob (rangeV call N_k22 (((((((((((Env.ofList [2, 3] vs7).set 14 v10).set 4 v13).set 15 v18).set 16 v19).set 17 v20).set 18 v21).set 19 v22).set 20 v23).set 21 v26).set 22 v29) h30 v29 #[23] (rfA (cAt [1, 1, 1, 0, 1, 0] (Tryz.f22.body.getD .skip))) (rfB (cAt [1, 1, 1, 0, 1, 0] (Tryz.f22.body.getD .skip)))) fun r57 =>
 onEx r57.1 (j33 [(nt vs7 0), v13] r57.2.1 (r57.2.2 ++ (l32 ++ (l17 ++ (l12 ++ l9))))) (fun i58 => bif Nat.beq i58 0 then j33 [(nt vs7 0), v13] r57.2.1 (r57.2.2 ++ (l32 ++ (l17 ++ (l12 ++ l9)))) else none) (fin h (some []) r57.2.1 (r57.2.2 ++ (l32 ++ (l17 ++ (l12 ++ l9)))))) fun j6 => fork v5
 (fin h (some []) h3 [])
 (j6 [v0, v2] h3 [])

-- 23 asterism/data.New
noncomputable def F_k23 (call : CallF) (lp : LoopF) (h : H) : Option (Value × H × List Nat) :=
 hv (call (.fn N_k59) [] h) fun v0 h1 l2 =>
 al (aMap h1.n) h1 fun v3 h4 =>
 ob (oBuild pgB T_data_DB [(0, v0), (1, v3)]) fun v5 =>
 al (aBx h4.n T_data_DB 2 v5) h4 fun v6 h7 =>
 fin h (rsT v6 (some [])) h7 (l2 ++ [])

-- 24 asterism/asterismlaw16.begun
noncomputable def F_k24 (call : CallF) (lp : LoopF) (h : H) : Option (Value × H × List Nat) :=
 hv (call (.fn N_k17) [] h) fun v0 h1 l2 =>
 ob (rExtract 0 v0) fun v3 =>
 ob (rExtract 1 v0) fun v4 =>
 ob (binV pgB.ty (tyD (.pointer 0)) .eql v3 (.pointer none)) fun v5 =>
 gP (gd v5 false) (some v3) fun v6 =>
 hv (gV (gd v5 false) (call (.fn N_k20) [v6, (.string ⟨#[108, 97, 110, 100]⟩)] h1) h1) fun v7 h8 l9 =>
 gP (gd v5 false) (binV pgB.ty (tyD (.pointer 0)) .eql v7 (.pointer none)) fun v10 =>
 ob (rPick v5 (.bool true) v10) fun v11 =>
 jn3 (fun vs13 h14 l15 =>
 hv (call (.fn N_k26) [(.int .i64 1)] h14) fun v16 h17 l18 =>
 hv (call (.fn N_k61) [(.string ⟨#[97]⟩)] h17) fun v19 h20 l21 =>
 al (aBuildS pgB h20.n T_Lapi_Value 2 [(0, v16), (1, v19)]) h20 fun v22 h23 =>
 ob (oBuild pgB T_api_Op [(0, (.int .i64 1)), (1, (.string ⟨#[108, 97, 110, 100]⟩)), (4, v22)]) fun v24 =>
 hv (call (.fn N_k26) [(.int .i64 2)] h23) fun v25 h26 l27 =>
 hv (call (.fn N_k61) [(.string ⟨#[97]⟩)] h26) fun v28 h29 l30 =>
 al (aBuildS pgB h29.n T_Lapi_Value 2 [(0, v25), (1, v28)]) h29 fun v31 h32 =>
 ob (oBuild pgB T_api_Op [(0, (.int .i64 1)), (1, (.string ⟨#[108, 97, 110, 100]⟩)), (4, v31)]) fun v33 =>
 al (aBuildS pgB h32.n T_Lapi_Op 2 [(0, v24), (1, v33)]) h32 fun v34 h35 =>
 hv (call (.fn N_k60) [(nt vs13 0), (nt vs13 1), v34] h35) fun v36 h37 l38 =>
 al (aBuildS pgB h37.n T_api_Path 1 [(0, (.string ⟨#[110, 97, 109, 101]⟩))]) h37 fun v39 h40 =>
 hv (call (.fn N_k62) [(nt vs13 0), (.string ⟨#[108, 97, 110, 100]⟩), v39] h40) fun v41 h42 l43 =>
 ob (rExtract 0 v41) fun v44 =>
 ob (rExtract 1 v41) fun v45 =>
 al (aBuildS pgB h42.n T_api_Path 1 [(0, (.string ⟨#[120]⟩))]) h42 fun v46 h47 =>
 hv (call (.fn N_k62) [(nt vs13 0), (.string ⟨#[108, 97, 110, 100]⟩), v46] h47) fun v48 h49 l50 =>
 ob (rExtract 0 v48) fun v51 =>
 ob (rExtract 1 v48) fun v52 =>
 ob (bI .neq v45 (.int .i64 0)) fun v53 =>
 gP (gd v53 false) (some v44) fun v54 =>
 gP (gd v53 false) (binV pgB.ty (tyD (.pointer 0)) .eql v54 (.pointer none)) fun v55 =>
 ob (rPick v53 (.bool true) v55) fun v56 =>
 jn3 (fun vs58 h59 l60 =>
 hv (call (.fn N_k61) [(.string ⟨#[97]⟩)] h59) fun v61 h62 l63 =>
 hv (call (.fn N_k25) [(nt vs58 1), v61] h62) fun v64 h65 l66 =>
 hv (call (.fn N_k27) [v64] h65) fun v67 h68 l69 =>
 hv (call (.fn N_k20) [(nt vs58 0), (.string ⟨#[108, 97, 110, 100]⟩)] h68) fun v70 h71 l72 =>
 hv (call (.fn N_k63) [v70, (.int .i64 0)] h71) fun v73 h74 l75 =>
 hv (call (.fn N_k22) [(nt vs58 1), (nt vs58 0)] h74) fun v76 h77 l78 =>
 hv (call (.fn N_k64) [] h77) fun v79 h80 l81 =>
 gP (gd v79 true) (some (nt vs58 2)) fun v82 =>
 gP (gd v79 true) (bI .eql v82 (.int .i64 3)) fun v83 =>
 ob (rPick v79 v83 (.bool false)) fun v84 =>
 gP (gd v84 true) (some v67) fun v85 =>
 gP (gd v84 true) (bI .eql v85 (.int .i64 2)) fun v86 =>
 ob (rPick v84 v86 (.bool false)) fun v87 =>
 gP (gd v87 true) (some (nt vs58 1)) fun v88 =>
 hv (gV (gd v87 true) (call (.fn N_k61) [(.string ⟨#[97]⟩)] h80) h80) fun v89 h90 l91 =>
 hv (gV (gd v87 true) (call (.fn N_k25) [v88, v89] h90) h90) fun v92 h93 l94 =>
 hv (gV (gd v87 true) (call (.fn N_k27) [v92] h93) h93) fun v95 h96 l97 =>
 gP (gd v87 true) (bI .eql v95 (.int .i64 1)) fun v98 =>
 ob (rPick v87 v98 (.bool false)) fun v99 =>
 gP (gd v99 true) (some (nt vs58 1)) fun v100 =>
 hv (gV (gd v99 true) (call (.fn N_k61) [(.string ⟨#[97]⟩)] h96) h96) fun v101 h102 l103 =>
 hv (gV (gd v99 true) (call (.fn N_k25) [v100, v101] h102) h102) fun v104 h105 l106 =>
 hv (gV (gd v99 true) (call (.fn N_k65) [v104, (.int .i64 1)] h105) h105) fun v107 h108 l109 =>
 ob (rPick v99 v107 (.bool false)) fun v110 =>
 gP (gd v110 true) (some (nt vs58 1)) fun v111 =>
 hv (gV (gd v110 true) (call (.fn N_k26) [(.int .i64 1)] h108) h108) fun v112 h113 l114 =>
 hv (gV (gd v110 true) (call (.fn N_k25) [v111, v112] h113) h113) fun v115 h116 l117 =>
 hv (gV (gd v110 true) (call (.fn N_k27) [v115] h116) h116) fun v118 h119 l120 =>
 gP (gd v110 true) (bI .eql v118 (.int .i64 0)) fun v121 =>
 ob (rPick v110 v121 (.bool false)) fun v122 =>
 gP (gd v122 true) (some (nt vs58 1)) fun v123 =>
 hv (gV (gd v122 true) (call (.fn N_k28) [v123] h119) h119) fun v124 h125 l126 =>
 gP (gd v122 true) (rLenL v124) fun v127 =>
 gP (gd v122 true) (bI .eql v127 (.int .i64 1)) fun v128 =>
 ob (rPick v122 v128 (.bool false)) fun v129 =>
 gP (gd v129 true) (some (nt vs58 1)) fun v130 =>
 hv (gV (gd v129 true) (call (.fn N_k61) [(.string ⟨#[97]⟩)] h125) h125) fun v131 h132 l133 =>
 hv (gV (gd v129 true) (call (.fn N_k29) [v130, (.int .i64 6), v131] h132) h132) fun v134 h135 l136 =>
 hv (gV (gd v129 true) (call (.fn N_k27) [v134] h135) h135) fun v137 h138 l139 =>
 gP (gd v129 true) (bI .eql v137 (.int .i64 1)) fun v140 =>
 ob (rPick v129 v140 (.bool false)) fun v141 =>
 fin h (rsT v141 (some [])) h138 (l139 ++ (l136 ++ (l133 ++ (l126 ++ (l120 ++ (l117 ++ (l114 ++ (l109 ++ (l106 ++ (l103 ++ (l97 ++ (l94 ++ (l91 ++ (l81 ++ (l78 ++ (l75 ++ (l72 ++ (l69 ++ (l66 ++ (l63 ++ l60))))))))))))))))))))) fun j57 => fork v56
 (fin h (rsT (.bool false) (some [])) h49 (l50 ++ (l43 ++ (l38 ++ (l30 ++ (l27 ++ (l21 ++ (l18 ++ l15))))))))
 (j57 [(nt vs13 0), v44, v52, (nt vs13 4), (nt vs13 5), (nt vs13 6), (nt vs13 7), (nt vs13 8), (nt vs13 9), (nt vs13 10), (nt vs13 11), (nt vs13 12), (nt vs13 13), (nt vs13 14), (nt vs13 15), (nt vs13 16), (nt vs13 17), (nt vs13 18), (nt vs13 19), (nt vs13 20), (nt vs13 21), (nt vs13 22), (nt vs13 23), (nt vs13 24), (nt vs13 25), (nt vs13 26), (nt vs13 27), (nt vs13 28), (nt vs13 29), (nt vs13 30)] h49 (l50 ++ (l43 ++ (l38 ++ (l30 ++ (l27 ++ (l21 ++ (l18 ++ l15))))))))) fun j12 => fork v11
 (fin h (rsT (.bool false) (some [])) h8 (l9 ++ (l2 ++ [])))
 (j12 [v3, v4, poison, poison, poison, poison, poison, poison, poison, poison, poison, poison, poison, poison, poison, poison, poison, poison, poison, poison, poison, poison, poison, poison, poison, poison, poison, poison, poison, poison, poison] h8 (l9 ++ (l2 ++ [])))

-- 25 (*asterism/index.Index).Get
noncomputable def F_k25 (call : CallF) (lp : LoopF) (x0 : Value) (x1 : Value) (h : H) : Option (Value × H × List Nat) :=
 al (aBx h.n T_api_Value 3 x1) h fun v0 h1 =>
 al (aNew h1.n T_bitmap_Map [(.slice none 0 0)]) h1 fun v2 h3 =>
 ob (binV pgB.ty (tyD (.pointer 0)) .eql x0 (.pointer none)) fun v4 =>
 jn3 (fun vs6 h7 l8 =>
 ob (rNil (nt vs6 0)) fun v9 =>
 ob (rFld 2 v9) fun v10 =>
 ob (rLd1 h7.get v10) fun v11 =>
 ob (rLdA h7.get 3 (nt vs6 1)) fun v12 =>
 hv (call (.fn N_k66) [v11, v12] h7) fun v13 h14 l15 =>
 ob (rExtract 0 v13) fun v16 =>
 ob (rExtract 1 v13) fun v17 =>
 al (aNew h14.n T_bitmap_Map [(.slice none 0 0)]) h14 fun v18 h19 =>
 hv (rStore h19 1 v18 v16) fun v20 h21 l22 =>
 dr [0, 1, 3, 7, 0, 31, 63, 127, 127, 0, 767, 2047] [mP h7, mP h7, mP h7, mR h7 (rdP v10), mR h7 (rdP (nt vs6 1)), mH h7 (rdL [v11, v12]) l15 h14, mP h14, mP h14, mP h14, mA h14 [], mH h19 [] l22 h21, mP h21] fun l23 =>
 ob (rLdA h21.get 1 v18) fun v24 =>
 hv (rStore h21 1 (nt vs6 2) v24) fun v25 h26 l27 =>
 fin h (rsK (rLdA h26.get 1 (nt vs6 2)) (some [])) h26 (l27 ++ (l23 ++ l8))) fun j5 => fork v4
 (ob (oBuild pgB T_bitmap_Map []) fun v28 =>
 hv (rStore h3 1 v2 v28) fun v29 h30 l31 =>
 fin h (rsK (rLdA h30.get 1 v2) (some [])) h30 (l31 ++ []))
 (j5 [x0, v0, v2] h3 [])

-- 26 asterism/asterismlaw16.num
noncomputable def F_k26 (call : CallF) (lp : LoopF) (x0 : Value) (h : H) : Option (Value × H × List Nat) :=
 al (aNew h.n T_api_Value [(.int .i64 0), (.int .i64 0), (.string ⟨#[]⟩)]) h fun v0 h1 =>
 ob (oBuild pgB T_api_Value [(0, (.int .i64 1)), (1, x0)]) fun v2 =>
 hv (rStore h1 3 v0 v2) fun v3 h4 l5 =>
 fin h (rsK (rLdA h4.get 3 v0) (some [])) h4 (l5 ++ [])

-- 27 (asterism/bitmap.Map).Count
noncomputable def F_k27 (call : CallF) (lp : LoopF) (x0 : Value) (h : H) : Option (Value × H × List Nat) :=
 al (aBx h.n T_bitmap_Map 1 x0) h fun v0 h1 =>
 ob (rLdA h1.get 1 v0) fun v2 =>
 hv (call (.fn N_k67) [v2, (.int .i64 65536)] h1) fun v3 h4 l5 =>
 fin h (rsT v3 (some [])) h4 (l5 ++ [])

-- 28 (*asterism/index.Index).Values
noncomputable def F_k28 (call : CallF) (lp : LoopF) (x0 : Value) (h : H) : Option (Value × H × List Nat) :=
 ob (binV pgB.ty (tyD (.pointer 0)) .eql x0 (.pointer none)) fun v0 =>
 jn3 (fun vs2 h3 l4 =>
 al (aNew h3.n T_Lapi_Value [(.slice none 0 0)]) h3 fun v5 h6 =>
 ob (rNil (nt vs2 0)) fun v7 =>
 ob (rFld 2 v7) fun v8 =>
 ob (rLd1 h6.get v8) fun v9 =>
 hv (call (.fn N_k68) [v9] h6) fun v10 h11 l12 =>
 jn3 (fun vs14 h15 l16 =>
 ob (rLd1 h15.get (nt vs14 0)) fun v17 =>
 fin h (rsT v17 (some [])) h15 l16) fun j13 =>
 ob (rangeV call N_k28 (((((((Env.ofList [0, 2] vs2).set 3 v5).set 7 (nt vs2 0)).set 8 v7).set 9 v8).set 10 v9).set 11 v10) h11 v10 #[12, 13] (rfA (cAt [1, 1, 1, 0, 1, 0] (Tryz.f28.body.getD .skip))) (rfB (cAt [1, 1, 1, 0, 1, 0] (Tryz.f28.body.getD .skip)))) fun r18 =>
 onEx r18.1 (j13 [v5] r18.2.1 (r18.2.2 ++ (l12 ++ l4))) (fun i19 => bif Nat.beq i19 0 then j13 [v5] r18.2.1 (r18.2.2 ++ (l12 ++ l4)) else none) (fin h (rsT (nt vs2 1) (some [])) r18.2.1 (r18.2.2 ++ (l12 ++ l4)))) fun j1 => fork v0
 (fin h (rsT (.slice none 0 0) (some [])) h [])
 (j1 [x0, (.slice none 0 0)] h [])

-- 29 (*asterism/index.Index).Test
noncomputable def F_k29_L122 (call : CallF) (lp : LoopF) : List Value → H → Option LOut := fun vs18 h19 =>
 ob (bI .lss (nt vs18 7) (nt vs18 6)) fun v20 =>
 jn3 (fun vs22 h23 l24 =>
 jn3 (fun vs26 h27 l28 =>
 ob (bI .add (nt vs26 7) (.int .i64 1)) fun v29 =>
 some ⟨.normal, [(nt vs26 0), (nt vs26 1), (nt vs26 2), (nt vs26 3), (nt vs26 4), (nt vs26 5), (nt vs26 6), v29], h27, l28⟩) fun j25 =>
 ob (rIdxS 3 (nt vs22 5) (nt vs22 7)) fun v30 =>
 ob (rLdA h23.get 3 v30) fun v31 =>
 al (aNew h23.n T_api_Value [(.int .i64 0), (.int .i64 0), (.string ⟨#[]⟩)]) h23 fun v32 h33 =>
 hv (rStore h33 3 v32 v31) fun v34 h35 l36 =>
 ob (rLdA h35.get 3 v32) fun v37 =>
 ob (rLdA h35.get 3 (nt vs22 2)) fun v38 =>
 hv (call (.fn N_k69) [(nt vs22 1), v37, v38] h35) fun v39 h40 l41 =>
 jn3 (fun vs43 h44 l45 =>
 j25 [(nt vs43 0), (nt vs43 1), (nt vs43 2), (nt vs43 3), (nt vs43 4), (nt vs43 5), (nt vs43 6), (nt vs43 7)] h44 l45) fun j42 => fork v39
 (ob (rLdA h40.get 1 (nt vs22 4)) fun v46 =>
 ob (rLdA h40.get 3 v32) fun v47 =>
 hv (call (.fn N_k25) [(nt vs22 0), v47] h40) fun v48 h49 l50 =>
 hv (call (.fn N_k70) [v46, v48] h49) fun v51 h52 l53 =>
 hv (rStore h52 1 (nt vs22 4) v51) fun v54 h55 l56 =>
 dr [0, 0, 0, 6, 15, 31] [mR h40 (rdP (nt vs22 4)), mP h40, mR h40 (rdP v32), mH h40 (rdL [(nt vs22 0), v47]) l50 h49, mH h49 (rdL [v46, v48]) l53 h52, mH h52 [] l56 h55] fun l57 =>
 j42 [(nt vs22 0), (nt vs22 1), (nt vs22 2), (nt vs22 3), (nt vs22 4), (nt vs22 5), (nt vs22 6), (nt vs22 7)] h55 (l57 ++ (l41 ++ (l36 ++ l24))))
 (j42 [(nt vs22 0), (nt vs22 1), (nt vs22 2), (nt vs22 3), (nt vs22 4), (nt vs22 5), (nt vs22 6), (nt vs22 7)] h40 (l41 ++ (l36 ++ l24)))) fun j21 => fork v20
 (j21 [(nt vs18 0), (nt vs18 1), (nt vs18 2), (nt vs18 3), (nt vs18 4), (nt vs18 5), (nt vs18 6), (nt vs18 7)] h19 [])
 (some ⟨(.exit 0), [(nt vs18 0), (nt vs18 1), (nt vs18 2), (nt vs18 3), (nt vs18 4), (nt vs18 5), (nt vs18 6), (nt vs18 7)], h19, []⟩)
noncomputable def F_k29 (call : CallF) (lp : LoopF) (x0 : Value) (x1 : Value) (x2 : Value) (h : H) : Option (Value × H × List Nat) :=
 al (aBx h.n T_api_Value 3 x2) h fun v0 h1 =>
 al (aNew h1.n T_bitmap_Map [(.slice none 0 0)]) h1 fun v2 h3 =>
 al (aNew h3.n T_bitmap_Map [(.slice none 0 0)]) h3 fun v4 h5 =>
 hv (call (.fn N_k28) [x0] h5) fun v6 h7 l8 =>
 ob (rLenL v6) fun v9 =>
 jn3 (fun vs11 h12 l13 =>
 ob (rLdA h12.get 1 (nt vs11 1)) fun v14 =>
 hv (rStore h12 1 (nt vs11 0) v14) fun v15 h16 l17 =>
 fin h (rsK (rLdA h16.get 1 (nt vs11 0)) (some [])) h16 (l17 ++ l13)) fun j10 =>
 ob (lp (F_k29_L122 call lp) [x0, x1, v0, v2, v4, v6, v9, (.int .i64 0)] h7) fun o58 =>
 onEx o58.ex (j10 [(nt o58.vs 3), (nt o58.vs 4)] o58.h (o58.lg ++ (l8 ++ []))) (fun i59 => bif Nat.beq i59 0 then j10 [(nt o58.vs 3), (nt o58.vs 4)] o58.h (o58.lg ++ (l8 ++ [])) else none) (fin h (rsK (rLdA o58.h.get 1 (nt o58.vs 3)) (some [])) o58.h (o58.lg ++ (l8 ++ [])))

-- 30 asterism/asterismlaw13.Begun
noncomputable def F_k30 (call : CallF) (lp : LoopF) (h : H) : Option (Value × H × List Nat) :=
 hv (call (.fn N_k71) [] h) fun v0 h1 l2 =>
 fin h (rsT v0 (some [])) h1 (l2 ++ [])

-- 31 asterism/asterismlaw14.Begun
noncomputable def F_k31 (call : CallF) (lp : LoopF) (h : H) : Option (Value × H × List Nat) :=
 hv (call (.fn N_k72) [] h) fun v0 h1 l2 =>
 fin h (rsT v0 (some [])) h1 (l2 ++ [])

-- 32 (*asterism/table.Table).Live
noncomputable def F_k32 (call : CallF) (lp : LoopF) (x0 : Value) (h : H) : Option (Value × H × List Nat) :=
 al (aNew h.n T_bitmap_Map [(.slice none 0 0)]) h fun v0 h1 =>
 ob (binV pgB.ty (tyD (.pointer 0)) .eql x0 (.pointer none)) fun v2 =>
 jn3 (fun vs4 h5 l6 =>
 ob (rNil (nt vs4 0)) fun v7 =>
 ob (rFld 5 v7) fun v8 =>
 ob (rLdA h5.get 1 v8) fun v9 =>
 hv (rStore h5 1 (nt vs4 1) v9) fun v10 h11 l12 =>
 fin h (rsK (rLdA h11.get 1 (nt vs4 1)) (some [])) h11 (l12 ++ l6)) fun j3 => fork v2
 (ob (oBuild pgB T_bitmap_Map []) fun v13 =>
 hv (rStore h1 1 v0 v13) fun v14 h15 l16 =>
 fin h (rsK (rLdA h15.get 1 v0) (some [])) h15 (l16 ++ []))
 (j3 [x0, v0] h1 [])

-- 34 (*asterism/data.DB).Schema
noncomputable def F_k34 (call : CallF) (lp : LoopF) (x0 : Value) (h : H) : Option (Value × H × List Nat) :=
 ob (binV pgB.ty (tyD (.pointer 0)) .eql x0 (.pointer none)) fun v0 =>
 jn3 (fun vs2 h3 l4 =>
 ob (rNil (nt vs2 0)) fun v5 =>
 ob (rFld 0 v5) fun v6 =>
 ob (rLd1 h3.get v6) fun v7 =>
 fin h (rsT v7 (some [])) h3 l4) fun j1 => fork v0
 (fin h (rsT (.pointer none) (some [])) h [])
 (j1 [x0] h [])

-- 35 (*asterism/schema.Schema).Names
noncomputable def F_k35_L250 (call : CallF) (lp : LoopF) : List Value → H → Option LOut := fun vs13 h14 =>
 ob (bI .lss (nt vs13 4) (nt vs13 3)) fun v15 =>
 jn3 (fun vs17 h18 l19 =>
 jn3 (fun vs21 h22 l23 =>
 ob (bI .add (nt vs21 4) (.int .i64 1)) fun v24 =>
 some ⟨.normal, [(nt vs21 0), (nt vs21 1), (nt vs21 2), (nt vs21 3), v24], h22, l23⟩) fun j20 =>
 ob (rIdxS 4 (nt vs17 2) (nt vs17 4)) fun v25 =>
 ob (rLdA h18.get 4 v25) fun v26 =>
 al (aNew h18.n T_api_Table [(.string ⟨#[]⟩), (.slice none 0 0), (.string ⟨#[]⟩), (.slice none 0 0)]) h18 fun v27 h28 =>
 hv (rStore h28 4 v27 v26) fun v29 h30 l31 =>
 ob (rFld 0 v27) fun v32 =>
 ob (rLd1 h30.get v32) fun v33 =>
 al (aBuildS pgB h30.n T_Lstring 1 [(0, v33)]) h30 fun v34 h35 =>
 hv (rApp h35 T_string 1 16 [(.string ⟨#[]⟩)] (nt vs17 1) v34) fun v36 h37 l38 =>
 j20 [(nt vs17 0), v36, (nt vs17 2), (nt vs17 3), (nt vs17 4)] h37 (l38 ++ (l31 ++ l19))) fun j16 => fork v15
 (j16 [(nt vs13 0), (nt vs13 1), (nt vs13 2), (nt vs13 3), (nt vs13 4)] h14 [])
 (some ⟨(.exit 0), [(nt vs13 0), (nt vs13 1), (nt vs13 2), (nt vs13 3), (nt vs13 4)], h14, []⟩)
noncomputable def F_k35 (call : CallF) (lp : LoopF) (x0 : Value) (h : H) : Option (Value × H × List Nat) :=
 ob (binV pgB.ty (tyD (.pointer 0)) .eql x0 (.pointer none)) fun v0 =>
 jn3 (fun vs2 h3 l4 =>
 ob (rNil (nt vs2 0)) fun v5 =>
 ob (rFld 0 v5) fun v6 =>
 ob (rLd1 h3.get v6) fun v7 =>
 ob (rLenL v7) fun v8 =>
 jn3 (fun vs10 h11 l12 =>
 fin h (rsT (nt vs10 0) (some [])) h11 l12) fun j9 =>
 ob (lp (F_k35_L250 call lp) [(nt vs2 1), (.slice none 0 0), v7, v8, (.int .i64 0)] h3) fun o39 =>
 onEx o39.ex (j9 [(nt o39.vs 1)] o39.h (o39.lg ++ l4)) (fun i40 => bif Nat.beq i40 0 then j9 [(nt o39.vs 1)] o39.h (o39.lg ++ l4) else none) (fin h (rsT (nt o39.vs 0) (some [])) o39.h (o39.lg ++ l4))) fun j1 => fork v0
 (fin h (rsT (.slice none 0 0) (some [])) h [])
 (j1 [x0, (.slice none 0 0)] h [])

-- 36 asterism/check.limits
noncomputable def F_k36_L122 (call : CallF) (lp : LoopF) : List Value → H → Option LOut := fun vs26 h27 =>
 ob (bI .lss (nt vs26 5) (nt vs26 4)) fun v28 =>
 jn3 (fun vs30 h31 l32 =>
 jn3 (fun vs34 h35 l36 =>
 ob (bI .add (nt vs34 5) (.int .i64 1)) fun v37 =>
 some ⟨.normal, [(nt vs34 0), (nt vs34 1), (nt vs34 2), (nt vs34 3), (nt vs34 4), v37], h35, l36⟩) fun j33 =>
 ob (rIdxS 4 (nt vs30 3) (nt vs30 5)) fun v38 =>
 ob (rLdA h31.get 4 v38) fun v39 =>
 al (aNew h31.n T_api_Col [(.string ⟨#[]⟩), (.int .i64 0), (.bool false), (.string ⟨#[]⟩)]) h31 fun v40 h41 =>
 hv (rStore h41 4 v40 v39) fun v42 h43 l44 =>
 ob (rFld 0 v40) fun v45 =>
 ob (rLd1 h43.get v45) fun v46 =>
 hv (call (.fn N_k74) [(nt vs30 1), v46] h43) fun v47 h48 l49 =>
 ob (bI .gtr v47 (.int .i64 40)) fun v50 =>
 jn3 (fun vs52 h53 l54 =>
 j33 [(nt vs52 0), (nt vs52 1), (nt vs52 2), (nt vs52 3), (nt vs52 4), (nt vs52 5)] h53 l54) fun j51 => fork v50
 (ob (rFld 0 v40) fun v55 =>
 ob (rLd1 h48.get v55) fun v56 =>
 ob (oBuild pgB T_api_Fault [(0, (.int .i64 5)), (2, (nt vs30 0)), (4, v56)]) fun v57 =>
 hv (rStore h48 5 (nt vs30 2) v57) fun v58 h59 l60 =>
 some ⟨.ret, [(nt vs30 0), (nt vs30 1), (nt vs30 2), (nt vs30 3), (nt vs30 4), (nt vs30 5)], h59, (l60 ++ (l49 ++ (l44 ++ l32)))⟩)
 (j51 [(nt vs30 0), (nt vs30 1), (nt vs30 2), (nt vs30 3), (nt vs30 4), (nt vs30 5)] h48 (l49 ++ (l44 ++ l32)))) fun j29 => fork v28
 (j29 [(nt vs26 0), (nt vs26 1), (nt vs26 2), (nt vs26 3), (nt vs26 4), (nt vs26 5)] h27 [])
 (some ⟨(.exit 0), [(nt vs26 0), (nt vs26 1), (nt vs26 2), (nt vs26 3), (nt vs26 4), (nt vs26 5)], h27, []⟩)
noncomputable def F_k36 (call : CallF) (lp : LoopF) (x0 : Value) (x1 : Value) (h : H) : Option (Value × H × List Nat) :=
 al (aNew h.n T_api_Fault [(.int .i64 0), (.int .i64 0), (.string ⟨#[]⟩), (.int .i64 0), (.string ⟨#[]⟩)]) h fun v0 h1 =>
 hv (call (.fn N_k32) [x1] h1) fun v2 h3 l4 =>
 hv (call (.fn N_k27) [v2] h3) fun v5 h6 l7 =>
 ob (bI .gtr v5 (.int .i64 64)) fun v8 =>
 jn3 (fun vs10 h11 l12 =>
 hv (call (.fn N_k73) [(nt vs10 1)] h11) fun v13 h14 l15 =>
 ob (rPart1 1 v13) fun v16 =>
 ob (rLenL v16) fun v17 =>
 jn3 (fun vs19 h20 l21 =>
 ob (oBuild pgB T_api_Fault []) fun v22 =>
 hv (rStore h20 5 (nt vs19 0) v22) fun v23 h24 l25 =>
 fin h (rsK (rLdA h24.get 5 (nt vs19 0)) (some [])) h24 (l25 ++ l21)) fun j18 =>
 ob (lp (F_k36_L122 call lp) [(nt vs10 0), (nt vs10 1), (nt vs10 2), v16, v17, (.int .i64 0)] h14) fun o61 =>
 onEx o61.ex (j18 [(nt o61.vs 2)] o61.h (o61.lg ++ (l15 ++ l12))) (fun i62 => bif Nat.beq i62 0 then j18 [(nt o61.vs 2)] o61.h (o61.lg ++ (l15 ++ l12)) else none) (fin h (rsK (rLdA o61.h.get 5 (nt o61.vs 2)) (some [])) o61.h (o61.lg ++ (l15 ++ l12)))) fun j9 => fork v8
 (ob (oBuild pgB T_api_Fault [(0, (.int .i64 5)), (2, x0)]) fun v63 =>
 hv (rStore h6 5 v0 v63) fun v64 h65 l66 =>
 fin h (rsK (rLdA h65.get 5 v0) (some [])) h65 (l66 ++ (l7 ++ (l4 ++ []))))
 (j9 [x0, x1, v0] h6 (l7 ++ (l4 ++ [])))

-- 37 (asterism/bitmap.Map).All
noncomputable def F_k37 (call : CallF) (lp : LoopF) (x0 : Value) (h : H) : Option (Value × H × List Nat) :=
 al (aBx h.n T_bitmap_Map 1 x0) h fun v0 h1 =>
 ob (oFunc N_k75 #[] #[v0]) fun v2 =>
 fin h (rsT v2 (some [])) h1 []

-- 38 asterism/check.row
noncomputable def F_k38_L522854 (call : CallF) (lp : LoopF) : List Value → H → Option LOut := fun vs67 h68 =>
 ob (bI .lss (nt vs67 11) (nt vs67 10)) fun v69 =>
 jn3 (fun vs71 h72 l73 =>
 jn3 (fun vs75 h76 l77 =>
 ob (bI .add (nt vs75 11) (.int .i64 1)) fun v78 =>
 some ⟨.normal, [(nt vs75 0), (nt vs75 1), (nt vs75 2), (nt vs75 3), (nt vs75 4), (nt vs75 5), (nt vs75 6), (nt vs75 7), (nt vs75 8), (nt vs75 9), (nt vs75 10), v78], h76, l77⟩) fun j74 =>
 ob (rIdxS 1 (nt vs71 9) (nt vs71 11)) fun v79 =>
 ob (rLd1 h72.get v79) fun v80 =>
 ob (rLdA h72.get 2 (nt vs71 5)) fun v81 =>
 hv (call (.fn N_k79) [(nt vs71 4), v81, v80, (nt vs71 1)] h72) fun v82 h83 l84 =>
 jn3 (fun vs86 h87 l88 =>
 j74 [(nt vs86 0), (nt vs86 1), (nt vs86 2), (nt vs86 3), (nt vs86 4), (nt vs86 5), (nt vs86 6), (nt vs86 7), (nt vs86 8), (nt vs86 9), (nt vs86 10), (nt vs86 11)] h87 l88) fun j85 => fork v82
 (ob (rFld 1 (nt vs71 5)) fun v89 =>
 ob (rLd1 h83.get v89) fun v90 =>
 ob (oBuild pgB T_api_Fault [(0, (.int .i64 10)), (2, (nt vs71 0)), (3, (nt vs71 1)), (4, v90)]) fun v91 =>
 hv (rStore h83 5 (nt vs71 3) v91) fun v92 h93 l94 =>
 some ⟨.ret, [(nt vs71 0), (nt vs71 1), (nt vs71 2), (nt vs71 3), (nt vs71 4), (nt vs71 5), (nt vs71 6), (nt vs71 7), (nt vs71 8), (nt vs71 9), (nt vs71 10), (nt vs71 11)], h93, (l94 ++ (l84 ++ l73))⟩)
 (j85 [(nt vs71 0), (nt vs71 1), (nt vs71 2), (nt vs71 3), (nt vs71 4), (nt vs71 5), (nt vs71 6), (nt vs71 7), (nt vs71 8), (nt vs71 9), (nt vs71 10), (nt vs71 11)] h83 (l84 ++ l73))) fun j70 => fork v69
 (j70 [(nt vs67 0), (nt vs67 1), (nt vs67 2), (nt vs67 3), (nt vs67 4), (nt vs67 5), (nt vs67 6), (nt vs67 7), (nt vs67 8), (nt vs67 9), (nt vs67 10), (nt vs67 11)] h68 [])
 (some ⟨(.exit 8), [(nt vs67 0), (nt vs67 1), (nt vs67 2), (nt vs67 3), (nt vs67 4), (nt vs67 5), (nt vs67 6), (nt vs67 7), (nt vs67 8), (nt vs67 9), (nt vs67 10), (nt vs67 11)], h68, []⟩)
noncomputable def F_k38_L2042 (call : CallF) (lp : LoopF) : List Value → H → Option LOut := fun vs43 h44 =>
 ob (bI .lss (nt vs43 7) (nt vs43 6)) fun v45 =>
 jn3 (fun vs47 h48 l49 =>
 jn3 (fun vs51 h52 l53 =>
 ob (bI .add (nt vs51 7) (.int .i64 1)) fun v54 =>
 some ⟨.normal, [(nt vs51 0), (nt vs51 1), (nt vs51 2), (nt vs51 3), (nt vs51 4), (nt vs51 5), (nt vs51 6), v54], h52, l53⟩) fun j50 =>
 ob (rIdxS 2 (nt vs47 5) (nt vs47 7)) fun v55 =>
 ob (rLdA h48.get 2 v55) fun v56 =>
 al (aNew h48.n T_api_Dep [(.slice none 0 0), (.string ⟨#[]⟩)]) h48 fun v57 h58 =>
 hv (rStore h58 2 v57 v56) fun v59 h60 l61 =>
 ob (rLenL (nt vs47 2)) fun v62 =>
 jn3 (fun vs64 h65 l66 =>
 j50 [(nt vs64 0), (nt vs64 1), (nt vs64 2), (nt vs64 3), (nt vs64 4), (nt vs64 5), (nt vs64 6), (nt vs64 7)] h65 l66) fun j63 =>
 ob (lp (F_k38_L522854 call lp) [(nt vs47 0), (nt vs47 1), (nt vs47 2), (nt vs47 3), (nt vs47 4), v57, (nt vs47 5), (nt vs47 6), (nt vs47 7), (nt vs47 2), v62, (.int .i64 0)] h60) fun o95 =>
 onEx o95.ex (j63 [(nt o95.vs 0), (nt o95.vs 1), (nt o95.vs 2), (nt o95.vs 3), (nt o95.vs 4), (nt o95.vs 6), (nt o95.vs 7), (nt o95.vs 8)] o95.h (o95.lg ++ (l61 ++ l49))) (fun i96 => bif Nat.beq i96 8 then j63 [(nt o95.vs 0), (nt o95.vs 1), (nt o95.vs 2), (nt o95.vs 3), (nt o95.vs 4), (nt o95.vs 6), (nt o95.vs 7), (nt o95.vs 8)] o95.h (o95.lg ++ (l61 ++ l49)) else bif Nat.beq i96 7 then j50 [(nt o95.vs 0), (nt o95.vs 1), (nt o95.vs 2), (nt o95.vs 3), (nt o95.vs 4), (nt o95.vs 6), (nt o95.vs 7), (nt o95.vs 8)] o95.h (o95.lg ++ (l61 ++ l49)) else some ⟨(.exit i96), [(nt o95.vs 0), (nt o95.vs 1), (nt o95.vs 2), (nt o95.vs 3), (nt o95.vs 4), (nt o95.vs 6), (nt o95.vs 7), (nt o95.vs 8)], o95.h, (o95.lg ++ (l61 ++ l49))⟩) (some ⟨.ret, [(nt o95.vs 0), (nt o95.vs 1), (nt o95.vs 2), (nt o95.vs 3), (nt o95.vs 4), (nt o95.vs 6), (nt o95.vs 7), (nt o95.vs 8)], o95.h, (o95.lg ++ (l61 ++ l49))⟩)) fun j46 => fork v45
 (j46 [(nt vs43 0), (nt vs43 1), (nt vs43 2), (nt vs43 3), (nt vs43 4), (nt vs43 5), (nt vs43 6), (nt vs43 7)] h44 [])
 (some ⟨(.exit 6), [(nt vs43 0), (nt vs43 1), (nt vs43 2), (nt vs43 3), (nt vs43 4), (nt vs43 5), (nt vs43 6), (nt vs43 7)], h44, []⟩)
noncomputable def F_k38_L1018 (call : CallF) (lp : LoopF) : List Value → H → Option LOut := fun vs99 h100 =>
 ob (bI .lss (nt vs99 9) (nt vs99 8)) fun v101 =>
 jn3 (fun vs103 h104 l105 =>
 jn3 (fun vs107 h108 l109 =>
 ob (bI .add (nt vs107 9) (.int .i64 1)) fun v110 =>
 some ⟨.normal, [(nt vs107 0), (nt vs107 1), (nt vs107 2), (nt vs107 3), (nt vs107 4), (nt vs107 5), (nt vs107 6), (nt vs107 7), (nt vs107 8), v110, (nt vs107 10), (nt vs107 11), (nt vs107 12)], h108, l109⟩) fun j106 =>
 ob (rIdxS 4 (nt vs103 7) (nt vs103 9)) fun v111 =>
 ob (rLdA h104.get 4 v111) fun v112 =>
 al (aNew h104.n T_api_Col [(.string ⟨#[]⟩), (.int .i64 0), (.bool false), (.string ⟨#[]⟩)]) h104 fun v113 h114 =>
 hv (rStore h114 4 v113 v112) fun v115 h116 l117 =>
 ob (rFld 0 v113) fun v118 =>
 ob (rLd1 h116.get v118) fun v119 =>
 hv (call (.fn N_k76) [(nt vs103 5), (nt vs103 2), v119] h116) fun v120 h121 l122 =>
 ob (rExtract 0 v120) fun v123 =>
 ob (rExtract 1 v120) fun v124 =>
 al (aNew h121.n T_api_Value [(.int .i64 0), (.int .i64 0), (.string ⟨#[]⟩)]) h121 fun v125 h126 =>
 hv (rStore h126 3 v125 v123) fun v127 h128 l129 =>
 ob (rFld 3 v113) fun v130 =>
 ob (rLd1 h128.get v130) fun v131 =>
 ob (binV pgB.ty (tyD .string) .eql v131 (.string ⟨#[]⟩)) fun v132 =>
 gP (gd v132 false) (rFld 0 v125) fun v133 =>
 gP (gd v132 false) (rLd1 h128.get v133) fun v134 =>
 gP (gd v132 false) (bI .eql v134 (.int .i64 0)) fun v135 =>
 ob (rPick v132 (.bool true) v135) fun v136 =>
 jn3 (fun vs138 h139 l140 =>
 ob (rFld 3 (nt vs138 7)) fun v141 =>
 ob (rLd1 h139.get v141) fun v142 =>
 ob (rLdA h139.get 3 (nt vs138 8)) fun v143 =>
 hv (call (.fn N_k78) [(nt vs138 0), v142, v143] h139) fun v144 h145 l146 =>
 ob (rExtract 0 v144) fun v147 =>
 ob (rExtract 1 v144) fun v148 =>
 ob (unV .not v148) fun v149 =>
 jn3 (fun vs151 h152 l153 =>
 j106 [(nt vs151 0), (nt vs151 1), (nt vs151 2), (nt vs151 3), (nt vs151 4), (nt vs151 5), (nt vs151 6), (nt vs151 7), (nt vs151 8), (nt vs151 9), (nt vs151 10), (nt vs151 11), (nt vs151 12)] h152 l153) fun j150 => fork v149
 (ob (rFld 0 (nt vs138 7)) fun v154 =>
 ob (rLd1 h145.get v154) fun v155 =>
 ob (oBuild pgB T_api_Fault [(0, (.int .i64 9)), (2, (nt vs138 1)), (3, (nt vs138 2)), (4, v155)]) fun v156 =>
 hv (rStore h145 5 (nt vs138 4) v156) fun v157 h158 l159 =>
 some ⟨.ret, [(nt vs138 0), (nt vs138 1), (nt vs138 2), (nt vs138 3), (nt vs138 4), (nt vs138 5), (nt vs138 6), (nt vs138 9), (nt vs138 10), (nt vs138 11), (nt vs138 12), (nt vs138 13), (nt vs138 14)], h158, (l159 ++ (l146 ++ l140))⟩)
 (j150 [(nt vs138 0), (nt vs138 1), (nt vs138 2), (nt vs138 3), (nt vs138 4), (nt vs138 5), (nt vs138 6), (nt vs138 9), (nt vs138 10), (nt vs138 11), (nt vs138 12), (nt vs138 13), (nt vs138 14)] h145 (l146 ++ l140))) fun j137 => fork v136
 (j106 [(nt vs103 0), (nt vs103 1), (nt vs103 2), (nt vs103 3), (nt vs103 4), (nt vs103 5), (nt vs103 6), (nt vs103 7), (nt vs103 8), (nt vs103 9), v133, v134, v135] h128 (l129 ++ (l122 ++ (l117 ++ l105))))
 (j137 [(nt vs103 0), (nt vs103 1), (nt vs103 2), (nt vs103 3), (nt vs103 4), (nt vs103 5), (nt vs103 6), v113, v125, (nt vs103 7), (nt vs103 8), (nt vs103 9), v133, v134, v135] h128 (l129 ++ (l122 ++ (l117 ++ l105))))) fun j102 => fork v101
 (j102 [(nt vs99 0), (nt vs99 1), (nt vs99 2), (nt vs99 3), (nt vs99 4), (nt vs99 5), (nt vs99 6), (nt vs99 7), (nt vs99 8), (nt vs99 9), (nt vs99 10), (nt vs99 11), (nt vs99 12)] h100 [])
 (some ⟨(.exit 4), [(nt vs99 0), (nt vs99 1), (nt vs99 2), (nt vs99 3), (nt vs99 4), (nt vs99 5), (nt vs99 6), (nt vs99 7), (nt vs99 8), (nt vs99 9), (nt vs99 10), (nt vs99 11), (nt vs99 12)], h100, []⟩)
noncomputable def F_k38_L506 (call : CallF) (lp : LoopF) : List Value → H → Option LOut := fun vs162 h163 =>
 ob (bI .lss (nt vs162 9) (nt vs162 8)) fun v164 =>
 jn3 (fun vs166 h167 l168 =>
 jn3 (fun vs170 h171 l172 =>
 ob (bI .add (nt vs170 9) (.int .i64 1)) fun v173 =>
 some ⟨.normal, [(nt vs170 0), (nt vs170 1), (nt vs170 2), (nt vs170 3), (nt vs170 4), (nt vs170 5), (nt vs170 6), (nt vs170 7), (nt vs170 8), v173, (nt vs170 10), (nt vs170 11), (nt vs170 12), (nt vs170 13), (nt vs170 14), (nt vs170 15), (nt vs170 16), (nt vs170 17), (nt vs170 18)], h171, l172⟩) fun j169 =>
 ob (rIdxS 1 (nt vs166 7) (nt vs166 9)) fun v174 =>
 ob (rLd1 h167.get v174) fun v175 =>
 ob (rFld 2 (nt vs166 6)) fun v176 =>
 ob (rLd1 h167.get v176) fun v177 =>
 ob (binV pgB.ty (tyD .string) .neq v177 (.string ⟨#[]⟩)) fun v178 =>
 gP (gd v178 true) (some (nt vs166 5)) fun v179 =>
 gP (gd v178 true) (some v175) fun v180 =>
 gP (gd v178 true) (some (nt vs166 2)) fun v181 =>
 gP (gd v178 true) (rFld 2 (nt vs166 6)) fun v182 =>
 gP (gd v178 true) (rLd1 h167.get v182) fun v183 =>
 hv (gV (gd v178 true) (call (.fn N_k77) [v179, v180, v181, v183] h167) h167) fun v184 h185 l186 =>
 ob (rPick v178 v184 (.bool false)) fun v187 =>
 jn3 (fun vs189 h190 l191 =>
 j169 [(nt vs189 0), (nt vs189 1), (nt vs189 2), (nt vs189 3), (nt vs189 4), (nt vs189 5), (nt vs189 6), (nt vs189 7), (nt vs189 8), (nt vs189 9), (nt vs189 10), (nt vs189 11), (nt vs189 12), (nt vs189 13), (nt vs189 14), (nt vs189 15), (nt vs189 16), (nt vs189 17), (nt vs189 18)] h190 l191) fun j188 => fork v187
 (ob (rFld 2 (nt vs166 6)) fun v192 =>
 ob (rLd1 h185.get v192) fun v193 =>
 ob (oBuild pgB T_api_Fault [(0, (.int .i64 8)), (2, (nt vs166 1)), (3, (nt vs166 2)), (4, v193)]) fun v194 =>
 hv (rStore h185 5 (nt vs166 4) v194) fun v195 h196 l197 =>
 some ⟨.ret, [(nt vs166 0), (nt vs166 1), (nt vs166 2), (nt vs166 3), (nt vs166 4), (nt vs166 5), (nt vs166 6), (nt vs166 7), (nt vs166 8), (nt vs166 9), v179, v180, v181, v182, v183, v184, (nt vs166 16), (nt vs166 17), (nt vs166 18)], h196, (l197 ++ (l186 ++ l168))⟩)
 (j188 [(nt vs166 0), (nt vs166 1), (nt vs166 2), (nt vs166 3), (nt vs166 4), (nt vs166 5), (nt vs166 6), (nt vs166 7), (nt vs166 8), (nt vs166 9), v179, v180, v181, v182, v183, v184, (nt vs166 16), (nt vs166 17), (nt vs166 18)] h185 (l186 ++ l168))) fun j165 => fork v164
 (j165 [(nt vs162 0), (nt vs162 1), (nt vs162 2), (nt vs162 3), (nt vs162 4), (nt vs162 5), (nt vs162 6), (nt vs162 7), (nt vs162 8), (nt vs162 9), (nt vs162 10), (nt vs162 11), (nt vs162 12), (nt vs162 13), (nt vs162 14), (nt vs162 15), (nt vs162 16), (nt vs162 17), (nt vs162 18)] h163 [])
 (some ⟨(.exit 2), [(nt vs162 0), (nt vs162 1), (nt vs162 2), (nt vs162 3), (nt vs162 4), (nt vs162 5), (nt vs162 6), (nt vs162 7), (nt vs162 8), (nt vs162 9), (nt vs162 10), (nt vs162 11), (nt vs162 12), (nt vs162 13), (nt vs162 14), (nt vs162 15), (nt vs162 16), (nt vs162 17), (nt vs162 18)], h163, []⟩)
noncomputable def F_k38_L250 (call : CallF) (lp : LoopF) : List Value → H → Option LOut := fun vs200 h201 =>
 ob (bI .lss (nt vs200 9) (nt vs200 8)) fun v202 =>
 jn3 (fun vs204 h205 l206 =>
 jn3 (fun vs208 h209 l210 =>
 ob (bI .add (nt vs208 9) (.int .i64 1)) fun v211 =>
 some ⟨.normal, [(nt vs208 0), (nt vs208 1), (nt vs208 2), (nt vs208 3), (nt vs208 4), (nt vs208 5), (nt vs208 6), (nt vs208 7), (nt vs208 8), v211, (nt vs208 10), (nt vs208 11), (nt vs208 12), (nt vs208 13), (nt vs208 14), (nt vs208 15), (nt vs208 16), (nt vs208 17), (nt vs208 18), (nt vs208 19), (nt vs208 20), (nt vs208 21)], h209, l210⟩) fun j207 =>
 ob (rIdxS 4 (nt vs204 7) (nt vs204 9)) fun v212 =>
 ob (rLdA h205.get 4 v212) fun v213 =>
 al (aNew h205.n T_api_Col [(.string ⟨#[]⟩), (.int .i64 0), (.bool false), (.string ⟨#[]⟩)]) h205 fun v214 h215 =>
 hv (rStore h215 4 v214 v213) fun v216 h217 l218 =>
 ob (rFld 0 v214) fun v219 =>
 ob (rLd1 h217.get v219) fun v220 =>
 hv (call (.fn N_k76) [(nt vs204 5), (nt vs204 2), v220] h217) fun v221 h222 l223 =>
 ob (rExtract 0 v221) fun v224 =>
 ob (rExtract 1 v221) fun v225 =>
 al (aNew h222.n T_api_Value [(.int .i64 0), (.int .i64 0), (.string ⟨#[]⟩)]) h222 fun v226 h227 =>
 hv (rStore h227 3 v226 v224) fun v228 h229 l230 =>
 ob (rFld 2 v214) fun v231 =>
 ob (rLd1 h229.get v231) fun v232 =>
 gP (gd v232 true) (rFld 0 v226) fun v233 =>
 gP (gd v232 true) (rLd1 h229.get v233) fun v234 =>
 gP (gd v232 true) (bI .eql v234 (.int .i64 0)) fun v235 =>
 ob (rPick v232 v235 (.bool false)) fun v236 =>
 jn3 (fun vs238 h239 l240 =>
 j207 [(nt vs238 0), (nt vs238 1), (nt vs238 2), (nt vs238 3), (nt vs238 4), (nt vs238 5), (nt vs238 6), (nt vs238 7), (nt vs238 8), (nt vs238 9), (nt vs238 10), (nt vs238 11), (nt vs238 12), (nt vs238 13), (nt vs238 14), (nt vs238 15), (nt vs238 16), (nt vs238 17), (nt vs238 18), (nt vs238 19), (nt vs238 20), (nt vs238 21)] h239 l240) fun j237 => fork v236
 (ob (rFld 0 v214) fun v241 =>
 ob (rLd1 h229.get v241) fun v242 =>
 ob (oBuild pgB T_api_Fault [(0, (.int .i64 7)), (2, (nt vs204 1)), (3, (nt vs204 2)), (4, v242)]) fun v243 =>
 hv (rStore h229 5 (nt vs204 4) v243) fun v244 h245 l246 =>
 some ⟨.ret, [(nt vs204 0), (nt vs204 1), (nt vs204 2), (nt vs204 3), (nt vs204 4), (nt vs204 5), (nt vs204 6), (nt vs204 7), (nt vs204 8), (nt vs204 9), v233, v234, v235, (nt vs204 13), (nt vs204 14), (nt vs204 15), (nt vs204 16), (nt vs204 17), (nt vs204 18), (nt vs204 19), (nt vs204 20), (nt vs204 21)], h245, (l246 ++ (l230 ++ (l223 ++ (l218 ++ l206))))⟩)
 (j237 [(nt vs204 0), (nt vs204 1), (nt vs204 2), (nt vs204 3), (nt vs204 4), (nt vs204 5), (nt vs204 6), (nt vs204 7), (nt vs204 8), (nt vs204 9), v233, v234, v235, (nt vs204 13), (nt vs204 14), (nt vs204 15), (nt vs204 16), (nt vs204 17), (nt vs204 18), (nt vs204 19), (nt vs204 20), (nt vs204 21)] h229 (l230 ++ (l223 ++ (l218 ++ l206))))) fun j203 => fork v202
 (j203 [(nt vs200 0), (nt vs200 1), (nt vs200 2), (nt vs200 3), (nt vs200 4), (nt vs200 5), (nt vs200 6), (nt vs200 7), (nt vs200 8), (nt vs200 9), (nt vs200 10), (nt vs200 11), (nt vs200 12), (nt vs200 13), (nt vs200 14), (nt vs200 15), (nt vs200 16), (nt vs200 17), (nt vs200 18), (nt vs200 19), (nt vs200 20), (nt vs200 21)] h201 [])
 (some ⟨(.exit 0), [(nt vs200 0), (nt vs200 1), (nt vs200 2), (nt vs200 3), (nt vs200 4), (nt vs200 5), (nt vs200 6), (nt vs200 7), (nt vs200 8), (nt vs200 9), (nt vs200 10), (nt vs200 11), (nt vs200 12), (nt vs200 13), (nt vs200 14), (nt vs200 15), (nt vs200 16), (nt vs200 17), (nt vs200 18), (nt vs200 19), (nt vs200 20), (nt vs200 21)], h201, []⟩)
noncomputable def F_k38 (call : CallF) (lp : LoopF) (x0 : Value) (x1 : Value) (x2 : Value) (x3 : Value) (h : H) : Option (Value × H × List Nat) :=
 al (aNew h.n T_api_Fault [(.int .i64 0), (.int .i64 0), (.string ⟨#[]⟩), (.int .i64 0), (.string ⟨#[]⟩)]) h fun v0 h1 =>
 hv (call (.fn N_k20) [x0, x1] h1) fun v2 h3 l4 =>
 hv (call (.fn N_k73) [v2] h3) fun v5 h6 l7 =>
 al (aNew h6.n T_api_Table [(.string ⟨#[]⟩), (.slice none 0 0), (.string ⟨#[]⟩), (.slice none 0 0)]) h6 fun v8 h9 =>
 hv (rStore h9 4 v8 v5) fun v10 h11 l12 =>
 ob (rFld 1 v8) fun v13 =>
 ob (rLd1 h11.get v13) fun v14 =>
 ob (rLenL v14) fun v15 =>
 jn3 (fun vs17 h18 l19 =>
 ob (rLenL (nt vs17 3)) fun v20 =>
 jn3 (fun vs22 h23 l24 =>
 ob (rFld 1 (nt vs22 6)) fun v25 =>
 ob (rLd1 h23.get v25) fun v26 =>
 ob (rLenL v26) fun v27 =>
 jn3 (fun vs29 h30 l31 =>
 ob (rFld 3 (nt vs29 5)) fun v32 =>
 ob (rLd1 h30.get v32) fun v33 =>
 ob (rLenL v33) fun v34 =>
 jn3 (fun vs36 h37 l38 =>
 ob (oBuild pgB T_api_Fault []) fun v39 =>
 hv (rStore h37 5 (nt vs36 0) v39) fun v40 h41 l42 =>
 fin h (rsK (rLdA h41.get 5 (nt vs36 0)) (some [])) h41 (l42 ++ l38)) fun j35 =>
 ob (lp (F_k38_L2042 call lp) [(nt vs29 0), (nt vs29 1), (nt vs29 2), (nt vs29 3), (nt vs29 4), v33, v34, (.int .i64 0)] h30) fun o97 =>
 onEx o97.ex (j35 [(nt o97.vs 3)] o97.h (o97.lg ++ l31)) (fun i98 => bif Nat.beq i98 6 then j35 [(nt o97.vs 3)] o97.h (o97.lg ++ l31) else none) (fin h (rsK (rLdA o97.h.get 5 (nt o97.vs 3)) (some [])) o97.h (o97.lg ++ l31))) fun j28 =>
 ob (lp (F_k38_L1018 call lp) [(nt vs22 0), (nt vs22 1), (nt vs22 2), (nt vs22 3), (nt vs22 4), (nt vs22 5), (nt vs22 6), v26, v27, (.int .i64 0), (nt vs22 7), (nt vs22 8), (nt vs22 9)] h23) fun o160 =>
 onEx o160.ex (j28 [(nt o160.vs 1), (nt o160.vs 2), (nt o160.vs 3), (nt o160.vs 4), (nt o160.vs 5), (nt o160.vs 6)] o160.h (o160.lg ++ l24)) (fun i161 => bif Nat.beq i161 4 then j28 [(nt o160.vs 1), (nt o160.vs 2), (nt o160.vs 3), (nt o160.vs 4), (nt o160.vs 5), (nt o160.vs 6)] o160.h (o160.lg ++ l24) else none) (fin h (rsK (rLdA o160.h.get 5 (nt o160.vs 4)) (some [])) o160.h (o160.lg ++ l24))) fun j21 =>
 ob (lp (F_k38_L506 call lp) [(nt vs17 0), (nt vs17 1), (nt vs17 2), (nt vs17 3), (nt vs17 4), (nt vs17 5), (nt vs17 6), (nt vs17 3), v20, (.int .i64 0), (nt vs17 7), (nt vs17 8), (nt vs17 9), (nt vs17 10), (nt vs17 11), (nt vs17 12), (nt vs17 13), (nt vs17 14), (nt vs17 15)] h18) fun o198 =>
 onEx o198.ex (j21 [(nt o198.vs 0), (nt o198.vs 1), (nt o198.vs 2), (nt o198.vs 3), (nt o198.vs 4), (nt o198.vs 5), (nt o198.vs 6), (nt o198.vs 16), (nt o198.vs 17), (nt o198.vs 18)] o198.h (o198.lg ++ l19)) (fun i199 => bif Nat.beq i199 2 then j21 [(nt o198.vs 0), (nt o198.vs 1), (nt o198.vs 2), (nt o198.vs 3), (nt o198.vs 4), (nt o198.vs 5), (nt o198.vs 6), (nt o198.vs 16), (nt o198.vs 17), (nt o198.vs 18)] o198.h (o198.lg ++ l19) else none) (fin h (rsK (rLdA o198.h.get 5 (nt o198.vs 4)) (some [])) o198.h (o198.lg ++ l19))) fun j16 =>
 ob (lp (F_k38_L250 call lp) [x0, x1, x2, x3, v0, v2, v8, v14, v15, (.int .i64 0), poison, poison, poison, poison, poison, poison, poison, poison, poison, poison, poison, poison] h11) fun o247 =>
 onEx o247.ex (j16 [(nt o247.vs 0), (nt o247.vs 1), (nt o247.vs 2), (nt o247.vs 3), (nt o247.vs 4), (nt o247.vs 5), (nt o247.vs 6), (nt o247.vs 13), (nt o247.vs 14), (nt o247.vs 15), (nt o247.vs 16), (nt o247.vs 17), (nt o247.vs 18), (nt o247.vs 19), (nt o247.vs 20), (nt o247.vs 21)] o247.h (o247.lg ++ (l12 ++ (l7 ++ (l4 ++ []))))) (fun i248 => bif Nat.beq i248 0 then j16 [(nt o247.vs 0), (nt o247.vs 1), (nt o247.vs 2), (nt o247.vs 3), (nt o247.vs 4), (nt o247.vs 5), (nt o247.vs 6), (nt o247.vs 13), (nt o247.vs 14), (nt o247.vs 15), (nt o247.vs 16), (nt o247.vs 17), (nt o247.vs 18), (nt o247.vs 19), (nt o247.vs 20), (nt o247.vs 21)] o247.h (o247.lg ++ (l12 ++ (l7 ++ (l4 ++ [])))) else none) (fin h (rsK (rLdA o247.h.get 5 (nt o247.vs 4)) (some [])) o247.h (o247.lg ++ (l12 ++ (l7 ++ (l4 ++ [])))))

-- 41 (*asterism/data.DB).Copy
noncomputable def F_k41_L250 (call : CallF) (lp : LoopF) : List Value → H → Option LOut := fun vs19 h20 =>
 ob (bI .lss (nt vs19 5) (nt vs19 4)) fun v21 =>
 jn3 (fun vs23 h24 l25 =>
 jn3 (fun vs27 h28 l29 =>
 ob (bI .add (nt vs27 5) (.int .i64 1)) fun v30 =>
 some ⟨.normal, [(nt vs27 0), (nt vs27 1), (nt vs27 2), (nt vs27 3), (nt vs27 4), v30], h28, l29⟩) fun j26 =>
 ob (rIdxS 1 (nt vs23 3) (nt vs23 5)) fun v31 =>
 ob (rLd1 h24.get v31) fun v32 =>
 ob (rNil (nt vs23 0)) fun v33 =>
 ob (rFld 0 v33) fun v34 =>
 ob (rLd1 h24.get v34) fun v35 =>
 hv (call (.fn N_k81) [v35, v32] h24) fun v36 h37 l38 =>
 ob (rExtract 0 v36) fun v39 =>
 ob (rExtract 1 v36) fun v40 =>
 al (aNew h37.n T_api_Table [(.string ⟨#[]⟩), (.slice none 0 0), (.string ⟨#[]⟩), (.slice none 0 0)]) h37 fun v41 h42 =>
 hv (rStore h42 4 v41 v39) fun v43 h44 l45 =>
 ob (rNil (nt vs23 2)) fun v46 =>
 ob (rFld 0 v46) fun v47 =>
 ob (rLd1 h44.get v47) fun v48 =>
 ob (rLdA h44.get 4 v41) fun v49 =>
 hv (call (.fn N_k82) [v48, v49] h44) fun v50 h51 l52 =>
 dr [0, 1, 3, 7, 0, 31] [mP h44, mP h44, mP h44, mR h44 (rdP v47), mR h44 (rdP v41), mH h44 (rdL [v48, v49]) l52 h51] fun l53 =>
 ob (rNil (nt vs23 2)) fun v54 =>
 ob (rFld 1 v54) fun v55 =>
 ob (rLd1 h51.get v55) fun v56 =>
 ob (rNil (nt vs23 0)) fun v57 =>
 ob (rFld 1 v57) fun v58 =>
 ob (rLd1 h51.get v58) fun v59 =>
 ob (oLk pgB h51.get T_MstringPtable_Table v59 v32 false) fun v60 =>
 hv (call (.fn N_k83) [v60] h51) fun v61 h62 l63 =>
 hv (rMapUpd h62 v56 v32 v61) fun v64 h65 l66 =>
 dr [0, 1, 3, 7, 0, 0, 32, 96, 224, 0, 992, 2016, 4095] [mP h51, mP h51, mP h51, mR h51 (rdP v55), mP h51, mP h51, mP h51, mP h51, mR h51 (rdP v58), mP h51, mR h51 (rdM v59), mH h51 (rdL [v60]) l63 h62, mH h62 [] l66 h65] fun l67 =>
 j26 [(nt vs23 0), (nt vs23 1), (nt vs23 2), (nt vs23 3), (nt vs23 4), (nt vs23 5)] h65 (l67 ++ (l53 ++ (l45 ++ (l38 ++ l25))))) fun j22 => fork v21
 (j22 [(nt vs19 0), (nt vs19 1), (nt vs19 2), (nt vs19 3), (nt vs19 4), (nt vs19 5)] h20 [])
 (some ⟨(.exit 0), [(nt vs19 0), (nt vs19 1), (nt vs19 2), (nt vs19 3), (nt vs19 4), (nt vs19 5)], h20, []⟩)
noncomputable def F_k41 (call : CallF) (lp : LoopF) (x0 : Value) (h : H) : Option (Value × H × List Nat) :=
 ob (binV pgB.ty (tyD (.pointer 0)) .eql x0 (.pointer none)) fun v0 =>
 jn3 (fun vs2 h3 l4 =>
 hv (call (.fn N_k23) [] h3) fun v5 h6 l7 =>
 ob (rNil (nt vs2 0)) fun v8 =>
 ob (rFld 0 v8) fun v9 =>
 ob (rLd1 h6.get v9) fun v10 =>
 hv (call (.fn N_k35) [v10] h6) fun v11 h12 l13 =>
 ob (rLenL v11) fun v14 =>
 jn3 (fun vs16 h17 l18 =>
 fin h (rsT (nt vs16 0) (some [])) h17 l18) fun j15 =>
 ob (lp (F_k41_L250 call lp) [(nt vs2 0), (nt vs2 1), v5, v11, v14, (.int .i64 0)] h12) fun o68 =>
 onEx o68.ex (j15 [(nt o68.vs 2)] o68.h (o68.lg ++ (l13 ++ (l7 ++ l4)))) (fun i69 => bif Nat.beq i69 0 then j15 [(nt o68.vs 2)] o68.h (o68.lg ++ (l13 ++ (l7 ++ l4))) else none) (fin h (rsT (nt o68.vs 1) (some [])) o68.h (o68.lg ++ (l13 ++ (l7 ++ l4))))) fun j1 => fork v0
 (fin h (rsT (.pointer none) (some [])) h [])
 (j1 [x0, (.pointer none)] h [])

-- 42 asterism/batch.Apply
noncomputable def F_k42_L250 (call : CallF) (lp : LoopF) : List Value → H → Option LOut := fun vs21 h22 =>
 ob (bI .lss (nt vs21 6) (nt vs21 5)) fun v23 =>
 jn3 (fun vs25 h26 l27 =>
 jn3 (fun vs29 h30 l31 =>
 ob (bI .add (nt vs29 6) (.int .i64 1)) fun v32 =>
 some ⟨.normal, [(nt vs29 0), (nt vs29 1), (nt vs29 2), (nt vs29 3), (nt vs29 4), (nt vs29 5), v32], h30, l31⟩) fun j28 =>
 ob (rIdxS 5 (nt vs25 4) (nt vs25 6)) fun v33 =>
 ob (rLdA h26.get 5 v33) fun v34 =>
 al (aNew h26.n T_api_Op [(.int .i64 0), (.string ⟨#[]⟩), (.int .i64 0), (.string ⟨#[]⟩), (.slice none 0 0)]) h26 fun v35 h36 =>
 hv (rStore h36 5 v35 v34) fun v37 h38 l39 =>
 ob (rLdA h38.get 5 v35) fun v40 =>
 hv (call (.fn N_k84) [(nt vs25 0), v40] h38) fun v41 h42 l43 =>
 ob (rExtract 0 v41) fun v44 =>
 ob (rExtract 1 v41) fun v45 =>
 ob (bI .neq v45 (.int .i64 0)) fun v46 =>
 jn3 (fun vs48 h49 l50 =>
 ob (rFld 0 (nt vs48 4)) fun v51 =>
 ob (rLd1 h49.get v51) fun v52 =>
 ob (bI .eql v52 (.int .i64 1)) fun v53 =>
 jn3 (fun vs55 h56 l57 =>
 j28 [(nt vs55 0), (nt vs55 1), (nt vs55 2), (nt vs55 3), (nt vs55 4), (nt vs55 5), (nt vs55 6)] h56 l57) fun j54 => fork v53
 (al (aBuildS pgB h49.n T_Li64 1 [(0, (nt vs48 5))]) h49 fun v58 h59 =>
 hv (rApp h59 T_i64_b 1 8 [(.int .i64 0)] (nt vs48 3) v58) fun v60 h61 l62 =>
 j54 [(nt vs48 0), (nt vs48 1), (nt vs48 2), v60, (nt vs48 6), (nt vs48 7), (nt vs48 8)] h61 (l62 ++ l50))
 (j54 [(nt vs48 0), (nt vs48 1), (nt vs48 2), (nt vs48 3), (nt vs48 6), (nt vs48 7), (nt vs48 8)] h49 l50)) fun j47 => fork v46
 (ob (rFld 1 v35) fun v63 =>
 ob (rLd1 h42.get v63) fun v64 =>
 ob (oBuild pgB T_api_Fault [(0, v45), (1, (nt vs25 6)), (2, v64)]) fun v65 =>
 hv (rStore h42 5 (nt vs25 2) v65) fun v66 h67 l68 =>
 dr [0, 0, 0, 4, 15, 0, 63] [mP h42, mP h42, mP h42, mR h42 (rdP v63), mP h42, mP h42, mH h42 [] l68 h67] fun l69 =>
 some ⟨.ret, [(nt vs25 0), (.slice none 0 0), (nt vs25 2), (nt vs25 3), (nt vs25 4), (nt vs25 5), (nt vs25 6)], h67, (l69 ++ (l43 ++ (l39 ++ l27)))⟩)
 (j47 [(nt vs25 0), (nt vs25 1), (nt vs25 2), (nt vs25 3), v35, v44, (nt vs25 4), (nt vs25 5), (nt vs25 6)] h42 (l43 ++ (l39 ++ l27)))) fun j24 => fork v23
 (j24 [(nt vs21 0), (nt vs21 1), (nt vs21 2), (nt vs21 3), (nt vs21 4), (nt vs21 5), (nt vs21 6)] h22 [])
 (some ⟨(.exit 0), [(nt vs21 0), (nt vs21 1), (nt vs21 2), (nt vs21 3), (nt vs21 4), (nt vs21 5), (nt vs21 6)], h22, []⟩)
noncomputable def F_k42 (call : CallF) (lp : LoopF) (x0 : Value) (x1 : Value) (h : H) : Option (Value × H × List Nat) :=
 al (aNew h.n T_api_Fault [(.int .i64 0), (.int .i64 0), (.string ⟨#[]⟩), (.int .i64 0), (.string ⟨#[]⟩)]) h fun v0 h1 =>
 ob (rLenL x1) fun v2 =>
 ob (bI .eql v2 (.int .i64 0)) fun v3 =>
 gP (gd v3 false) (some x1) fun v4 =>
 gP (gd v3 false) (rLenL v4) fun v5 =>
 gP (gd v3 false) (bI .gtr v5 (.int .i64 40)) fun v6 =>
 ob (rPick v3 (.bool true) v6) fun v7 =>
 jn3 (fun vs9 h10 l11 =>
 ob (rLenL (nt vs9 1)) fun v12 =>
 jn3 (fun vs14 h15 l16 =>
 ob (oBuild pgB T_api_Fault []) fun v17 =>
 hv (rStore h15 5 (nt vs14 0) v17) fun v18 h19 l20 =>
 fin h (rsT (nt vs14 1) (rsK (rLdA h19.get 5 (nt vs14 0)) (some []))) h19 (l20 ++ l16)) fun j13 =>
 ob (lp (F_k42_L250 call lp) [(nt vs9 0), (nt vs9 2), (nt vs9 3), (.slice none 0 0), (nt vs9 1), v12, (.int .i64 0)] h10) fun o70 =>
 onEx o70.ex (j13 [(nt o70.vs 2), (nt o70.vs 3)] o70.h (o70.lg ++ l11)) (fun i71 => bif Nat.beq i71 0 then j13 [(nt o70.vs 2), (nt o70.vs 3)] o70.h (o70.lg ++ l11) else none) (fin h (rsT (nt o70.vs 1) (rsK (rLdA o70.h.get 5 (nt o70.vs 2)) (some []))) o70.h (o70.lg ++ l11))) fun j8 => fork v7
 (ob (oBuild pgB T_api_Fault [(0, (.int .i64 5))]) fun v72 =>
 hv (rStore h1 5 v0 v72) fun v73 h74 l75 =>
 fin h (rsT (.slice none 0 0) (rsK (rLdA h74.get 5 v0) (some []))) h74 (l75 ++ []))
 (j8 [x0, x1, (.slice none 0 0), v0] h1 [])

-- 46 (*asterism/asterismref12.DB).Check
noncomputable def F_k46_L29854 (call : CallF) (lp : LoopF) : List Value → H → Option LOut := fun vs51 h52 =>
 ob (rNil (nt vs51 0)) fun v53 =>
 ob (rFld 1 v53) fun v54 =>
 ob (rLd1 h52.get v54) fun v55 =>
 ob (rIdxS 1 v55 (nt vs51 2)) fun v56 =>
 ob (rLd1 h52.get v56) fun v57 =>
 ob (rLenL v57) fun v58 =>
 ob (bI .lss (nt vs51 4) v58) fun v59 =>
 jn3 (fun vs61 h62 l63 =>
 jn3 (fun vs65 h66 l67 =>
 ob (bI .add (nt vs65 4) (.int .i64 1)) fun v68 =>
 some ⟨.normal, [(nt vs65 0), (nt vs65 1), (nt vs65 2), (nt vs65 3), v68], h66, l67⟩) fun j64 =>
 hv (call (.fn N_k89) [(nt vs61 0), (nt vs61 2), (nt vs61 4)] h62) fun v69 h70 l71 =>
 ob (rExtract 0 v69) fun v72 =>
 ob (rExtract 1 v69) fun v73 =>
 ob (bI .neq v72 (.int .i64 0)) fun v74 =>
 jn3 (fun vs76 h77 l78 =>
 j64 [(nt vs76 0), (nt vs76 1), (nt vs76 2), (nt vs76 3), (nt vs76 4)] h77 l78) fun j75 => fork v74
 (ob (rNil (nt vs61 0)) fun v79 =>
 ob (rFld 1 v79) fun v80 =>
 ob (rLd1 h70.get v80) fun v81 =>
 ob (rIdxS 1 v81 (nt vs61 2)) fun v82 =>
 ob (rLd1 h70.get v82) fun v83 =>
 ob (rIdxS 2 v83 (nt vs61 4)) fun v84 =>
 ob (rFld 0 v84) fun v85 =>
 ob (rLd1 h70.get v85) fun v86 =>
 ob (oBuild pgB T_api_Fault [(0, v72), (2, (nt vs61 3)), (3, v86), (4, v73)]) fun v87 =>
 hv (rStore h70 5 (nt vs61 1) v87) fun v88 h89 l90 =>
 some ⟨.ret, [(nt vs61 0), (nt vs61 1), (nt vs61 2), (nt vs61 3), (nt vs61 4)], h89, (l90 ++ (l71 ++ l63))⟩)
 (j75 [(nt vs61 0), (nt vs61 1), (nt vs61 2), (nt vs61 3), (nt vs61 4)] h70 (l71 ++ l63))) fun j60 => fork v59
 (j60 [(nt vs51 0), (nt vs51 1), (nt vs51 2), (nt vs51 3), (nt vs51 4)] h52 [])
 (some ⟨(.exit 4), [(nt vs51 0), (nt vs51 1), (nt vs51 2), (nt vs51 3), (nt vs51 4)], h52, []⟩)
noncomputable def F_k46_L29850 (call : CallF) (lp : LoopF) : List Value → H → Option LOut := fun vs93 h94 =>
 ob (rNil (nt vs93 0)) fun v95 =>
 ob (rFld 0 v95) fun v96 =>
 ob (rLd1 h94.get v96) fun v97 =>
 ob (rIdxS 4 v97 (nt vs93 2)) fun v98 =>
 ob (rFld 1 v98) fun v99 =>
 ob (rLd1 h94.get v99) fun v100 =>
 ob (rLenL v100) fun v101 =>
 ob (bI .lss (nt vs93 4) v101) fun v102 =>
 jn3 (fun vs104 h105 l106 =>
 jn3 (fun vs108 h109 l110 =>
 ob (bI .add (nt vs108 4) (.int .i64 1)) fun v111 =>
 some ⟨.normal, [(nt vs108 0), (nt vs108 1), (nt vs108 2), (nt vs108 3), v111], h109, l110⟩) fun j107 =>
 hv (call (.fn N_k88) [(nt vs104 0), (nt vs104 2), (nt vs104 4)] h105) fun v112 h113 l114 =>
 ob (bI .gtr v112 (.int .i64 40)) fun v115 =>
 jn3 (fun vs117 h118 l119 =>
 j107 [(nt vs117 0), (nt vs117 1), (nt vs117 2), (nt vs117 3), (nt vs117 4)] h118 l119) fun j116 => fork v115
 (ob (rNil (nt vs104 0)) fun v120 =>
 ob (rFld 0 v120) fun v121 =>
 ob (rLd1 h113.get v121) fun v122 =>
 ob (rIdxS 4 v122 (nt vs104 2)) fun v123 =>
 ob (rFld 1 v123) fun v124 =>
 ob (rLd1 h113.get v124) fun v125 =>
 ob (rIdxS 4 v125 (nt vs104 4)) fun v126 =>
 ob (rFld 0 v126) fun v127 =>
 ob (rLd1 h113.get v127) fun v128 =>
 ob (oBuild pgB T_api_Fault [(0, (.int .i64 5)), (2, (nt vs104 3)), (4, v128)]) fun v129 =>
 hv (rStore h113 5 (nt vs104 1) v129) fun v130 h131 l132 =>
 some ⟨.ret, [(nt vs104 0), (nt vs104 1), (nt vs104 2), (nt vs104 3), (nt vs104 4)], h131, (l132 ++ (l114 ++ l106))⟩)
 (j116 [(nt vs104 0), (nt vs104 1), (nt vs104 2), (nt vs104 3), (nt vs104 4)] h113 (l114 ++ l106))) fun j103 => fork v102
 (j103 [(nt vs93 0), (nt vs93 1), (nt vs93 2), (nt vs93 3), (nt vs93 4)] h94 [])
 (some ⟨(.exit 2), [(nt vs93 0), (nt vs93 1), (nt vs93 2), (nt vs93 3), (nt vs93 4)], h94, []⟩)
noncomputable def F_k46_L58 (call : CallF) (lp : LoopF) : List Value → H → Option LOut := fun vs10 h11 =>
 ob (rNil (nt vs10 0)) fun v12 =>
 ob (rFld 0 v12) fun v13 =>
 ob (rLd1 h11.get v13) fun v14 =>
 ob (rLenL v14) fun v15 =>
 ob (bI .lss (nt vs10 2) v15) fun v16 =>
 jn3 (fun vs18 h19 l20 =>
 jn3 (fun vs22 h23 l24 =>
 ob (bI .add (nt vs22 2) (.int .i64 1)) fun v25 =>
 some ⟨.normal, [(nt vs22 0), (nt vs22 1), v25], h23, l24⟩) fun j21 =>
 ob (rNil (nt vs18 0)) fun v26 =>
 ob (rFld 0 v26) fun v27 =>
 ob (rLd1 h19.get v27) fun v28 =>
 ob (rIdxS 4 v28 (nt vs18 2)) fun v29 =>
 ob (rFld 0 v29) fun v30 =>
 ob (rLd1 h19.get v30) fun v31 =>
 ob (rNil (nt vs18 0)) fun v32 =>
 ob (rFld 1 v32) fun v33 =>
 ob (rLd1 h19.get v33) fun v34 =>
 ob (rIdxS 1 v34 (nt vs18 2)) fun v35 =>
 ob (rLd1 h19.get v35) fun v36 =>
 ob (rLenL v36) fun v37 =>
 ob (bI .gtr v37 (.int .i64 64)) fun v38 =>
 jn3 (fun vs40 h41 l42 =>
 jn3 (fun vs44 h45 l46 =>
 jn3 (fun vs48 h49 l50 =>
 j21 [(nt vs48 0), (nt vs48 1), (nt vs48 2)] h49 l50) fun j47 =>
 ob (lp (F_k46_L29854 call lp) [(nt vs44 0), (nt vs44 1), (nt vs44 2), (nt vs44 3), (.int .i64 0)] h45) fun o91 =>
 onEx o91.ex (j47 [(nt o91.vs 0), (nt o91.vs 1), (nt o91.vs 2)] o91.h (o91.lg ++ l46)) (fun i92 => bif Nat.beq i92 4 then j47 [(nt o91.vs 0), (nt o91.vs 1), (nt o91.vs 2)] o91.h (o91.lg ++ l46) else bif Nat.beq i92 1 then j21 [(nt o91.vs 0), (nt o91.vs 1), (nt o91.vs 2)] o91.h (o91.lg ++ l46) else some ⟨(.exit i92), [(nt o91.vs 0), (nt o91.vs 1), (nt o91.vs 2)], o91.h, (o91.lg ++ l46)⟩) (some ⟨.ret, [(nt o91.vs 0), (nt o91.vs 1), (nt o91.vs 2)], o91.h, (o91.lg ++ l46)⟩)) fun j43 =>
 ob (lp (F_k46_L29850 call lp) [(nt vs40 0), (nt vs40 1), (nt vs40 2), (nt vs40 3), (.int .i64 0)] h41) fun o133 =>
 onEx o133.ex (j43 [(nt o133.vs 0), (nt o133.vs 1), (nt o133.vs 2), (nt o133.vs 3)] o133.h (o133.lg ++ l42)) (fun i134 => bif Nat.beq i134 2 then j43 [(nt o133.vs 0), (nt o133.vs 1), (nt o133.vs 2), (nt o133.vs 3)] o133.h (o133.lg ++ l42) else bif Nat.beq i134 1 then j21 [(nt o133.vs 0), (nt o133.vs 1), (nt o133.vs 2)] o133.h (o133.lg ++ l42) else some ⟨(.exit i134), [(nt o133.vs 0), (nt o133.vs 1), (nt o133.vs 2)], o133.h, (o133.lg ++ l42)⟩) (some ⟨.ret, [(nt o133.vs 0), (nt o133.vs 1), (nt o133.vs 2)], o133.h, (o133.lg ++ l42)⟩)) fun j39 => fork v38
 (ob (oBuild pgB T_api_Fault [(0, (.int .i64 5)), (2, v31)]) fun v135 =>
 hv (rStore h19 5 (nt vs18 1) v135) fun v136 h137 l138 =>
 some ⟨.ret, [(nt vs18 0), (nt vs18 1), (nt vs18 2)], h137, (l138 ++ l20)⟩)
 (j39 [(nt vs18 0), (nt vs18 1), (nt vs18 2), v31] h19 l20)) fun j17 => fork v16
 (j17 [(nt vs10 0), (nt vs10 1), (nt vs10 2)] h11 [])
 (some ⟨(.exit 0), [(nt vs10 0), (nt vs10 1), (nt vs10 2)], h11, []⟩)
noncomputable def F_k46 (call : CallF) (lp : LoopF) (x0 : Value) (h : H) : Option (Value × H × List Nat) :=
 al (aNew h.n T_api_Fault [(.int .i64 0), (.int .i64 0), (.string ⟨#[]⟩), (.int .i64 0), (.string ⟨#[]⟩)]) h fun v0 h1 =>
 jn3 (fun vs3 h4 l5 =>
 ob (oBuild pgB T_api_Fault []) fun v6 =>
 hv (rStore h4 5 (nt vs3 0) v6) fun v7 h8 l9 =>
 fin h (rsK (rLdA h8.get 5 (nt vs3 0)) (some [])) h8 (l9 ++ l5)) fun j2 =>
 ob (lp (F_k46_L58 call lp) [x0, v0, (.int .i64 0)] h1) fun o139 =>
 onEx o139.ex (j2 [(nt o139.vs 1)] o139.h (o139.lg ++ [])) (fun i140 => bif Nat.beq i140 0 then j2 [(nt o139.vs 1)] o139.h (o139.lg ++ []) else none) (fin h (rsK (rLdA o139.h.get 5 (nt o139.vs 1)) (some [])) o139.h (o139.lg ++ []))

-- 47 asterism/asterismlaw9.Star
noncomputable def F_k47 (call : CallF) (lp : LoopF) (h : H) : Option (Value × H × List Nat) :=
 ob (oBuild pgB T_api_Col [(0, (.string ⟨#[105, 100]⟩)), (1, (.int .i64 1))]) fun v0 =>
 ob (oBuild pgB T_api_Col [(0, (.string ⟨#[110, 97, 109, 101]⟩)), (1, (.int .i64 2))]) fun v1 =>
 al (aBuildS pgB h.n T_Lapi_Col 2 [(0, v0), (1, v1)]) h fun v2 h3 =>
 ob (oBuild pgB T_api_Table [(0, (.string ⟨#[108, 97, 110, 100]⟩)), (1, v2), (2, (.string ⟨#[105, 100]⟩))]) fun v4 =>
 ob (oBuild pgB T_api_Col [(0, (.string ⟨#[105, 100]⟩)), (1, (.int .i64 1))]) fun v5 =>
 ob (oBuild pgB T_api_Col [(0, (.string ⟨#[99, 105, 116, 121]⟩)), (1, (.int .i64 2)), (2, (.bool true))]) fun v6 =>
 ob (oBuild pgB T_api_Col [(0, (.string ⟨#[122, 111, 110, 101]⟩)), (1, (.int .i64 2))]) fun v7 =>
 ob (oBuild pgB T_api_Col [(0, (.string ⟨#[108, 97, 110, 100]⟩)), (1, (.int .i64 1)), (3, (.string ⟨#[108, 97, 110, 100]⟩))]) fun v8 =>
 al (aBuildS pgB h3.n T_Lapi_Col 4 [(0, v5), (1, v6), (2, v7), (3, v8)]) h3 fun v9 h10 =>
 al (aBuildS pgB h10.n T_Lstring 1 [(0, (.string ⟨#[99, 105, 116, 121]⟩))]) h10 fun v11 h12 =>
 ob (oBuild pgB T_api_Dep [(0, v11), (1, (.string ⟨#[122, 111, 110, 101]⟩))]) fun v13 =>
 al (aBuildS pgB h12.n T_Lapi_Dep 1 [(0, v13)]) h12 fun v14 h15 =>
 ob (oBuild pgB T_api_Table [(0, (.string ⟨#[115, 104, 111, 112]⟩)), (1, v9), (2, (.string ⟨#[105, 100]⟩)), (3, v14)]) fun v16 =>
 ob (oBuild pgB T_api_Col [(0, (.string ⟨#[100]⟩)), (1, (.int .i64 2))]) fun v17 =>
 ob (oBuild pgB T_api_Col [(0, (.string ⟨#[109, 111, 110, 116, 104]⟩)), (1, (.int .i64 1)), (2, (.bool true))]) fun v18 =>
 ob (oBuild pgB T_api_Col [(0, (.string ⟨#[121, 101, 97, 114]⟩)), (1, (.int .i64 1))]) fun v19 =>
 al (aBuildS pgB h15.n T_Lapi_Col 3 [(0, v17), (1, v18), (2, v19)]) h15 fun v20 h21 =>
 al (aBuildS pgB h21.n T_Lstring 1 [(0, (.string ⟨#[109, 111, 110, 116, 104]⟩))]) h21 fun v22 h23 =>
 ob (oBuild pgB T_api_Dep [(0, v22), (1, (.string ⟨#[121, 101, 97, 114]⟩))]) fun v24 =>
 al (aBuildS pgB h23.n T_Lapi_Dep 1 [(0, v24)]) h23 fun v25 h26 =>
 ob (oBuild pgB T_api_Table [(0, (.string ⟨#[100, 97, 121]⟩)), (1, v20), (2, (.string ⟨#[100]⟩)), (3, v25)]) fun v27 =>
 ob (oBuild pgB T_api_Col [(0, (.string ⟨#[115, 104, 111, 112]⟩)), (1, (.int .i64 1)), (3, (.string ⟨#[115, 104, 111, 112]⟩))]) fun v28 =>
 ob (oBuild pgB T_api_Col [(0, (.string ⟨#[100, 97, 121]⟩)), (1, (.int .i64 2)), (3, (.string ⟨#[100, 97, 121]⟩))]) fun v29 =>
 ob (oBuild pgB T_api_Col [(0, (.string ⟨#[110]⟩)), (1, (.int .i64 1))]) fun v30 =>
 ob (oBuild pgB T_api_Col [(0, (.string ⟨#[116, 97, 103]⟩)), (1, (.int .i64 2))]) fun v31 =>
 al (aBuildS pgB h26.n T_Lapi_Col 4 [(0, v28), (1, v29), (2, v30), (3, v31)]) h26 fun v32 h33 =>
 ob (oBuild pgB T_api_Table [(0, (.string ⟨#[115, 97, 108, 101]⟩)), (1, v32)]) fun v34 =>
 al (aBuildS pgB h33.n T_Lapi_Table 4 [(0, v4), (1, v16), (2, v27), (3, v34)]) h33 fun v35 h36 =>
 fin h (rsT v35 (some [])) h36 []

-- 48 (*asterism/data.DB).Add
noncomputable def F_k48 (call : CallF) (lp : LoopF) (x0 : Value) (x1 : Value) (h : H) : Option (Value × H × List Nat) :=
 al (aBx h.n T_api_Table 4 x1) h fun v0 h1 =>
 ob (binV pgB.ty (tyD (.pointer 0)) .eql x0 (.pointer none)) fun v2 =>
 jn3 (fun vs4 h5 l6 =>
 ob (rNil (nt vs4 0)) fun v7 =>
 ob (rFld 0 v7) fun v8 =>
 ob (rLd1 h5.get v8) fun v9 =>
 ob (rLdA h5.get 4 (nt vs4 1)) fun v10 =>
 hv (call (.fn N_k82) [v9, v10] h5) fun v11 h12 l13 =>
 dr [0, 1, 3, 7, 0, 31, 63] [mP h5, mP h5, mP h5, mR h5 (rdP v8), mR h5 (rdP (nt vs4 1)), mH h5 (rdL [v9, v10]) l13 h12, mP h12] fun l14 =>
 ob (bI .neq v11 (.int .i64 0)) fun v15 =>
 jn3 (fun vs17 h18 l19 =>
 ob (rNil (nt vs17 0)) fun v20 =>
 ob (rFld 0 v20) fun v21 =>
 ob (rLd1 h18.get v21) fun v22 =>
 ob (rFld 0 (nt vs17 1)) fun v23 =>
 ob (rLd1 h18.get v23) fun v24 =>
 hv (call (.fn N_k81) [v22, v24] h18) fun v25 h26 l27 =>
 ob (rExtract 0 v25) fun v28 =>
 ob (rExtract 1 v25) fun v29 =>
 al (aNew h26.n T_api_Table [(.string ⟨#[]⟩), (.slice none 0 0), (.string ⟨#[]⟩), (.slice none 0 0)]) h26 fun v30 h31 =>
 hv (rStore h31 4 v30 v28) fun v32 h33 l34 =>
 dr [0, 1, 3, 7, 0, 16, 63, 127, 255, 255, 0, 1535, 4095] [mP h18, mP h18, mP h18, mR h18 (rdP v21), mP h18, mR h18 (rdP v23), mH h18 (rdL [v22, v24]) l27 h26, mP h26, mP h26, mP h26, mA h26 [], mH h31 [] l34 h33, mP h33] fun l35 =>
 ob (rNil (nt vs17 0)) fun v36 =>
 ob (rFld 1 v36) fun v37 =>
 ob (rLd1 h33.get v37) fun v38 =>
 ob (rFld 0 (nt vs17 1)) fun v39 =>
 ob (rLd1 h33.get v39) fun v40 =>
 ob (rLdA h33.get 4 v30) fun v41 =>
 hv (call (.fn N_k90) [v41] h33) fun v42 h43 l44 =>
 hv (rMapUpd h43 v38 v40 v42) fun v45 h46 l47 =>
 dr [0, 1, 3, 7, 0, 16, 0, 64, 255] [mP h33, mP h33, mP h33, mR h33 (rdP v37), mP h33, mR h33 (rdP v39), mR h33 (rdP v30), mH h33 (rdL [v41]) l44 h43, mH h43 [] l47 h46] fun l48 =>
 fin h (rsT (.int .i64 0) (some [])) h46 (l48 ++ (l35 ++ l19))) fun j16 => fork v15
 (fin h (rsT v11 (some [])) h12 (l14 ++ l6))
 (j16 [(nt vs4 0), (nt vs4 1)] h12 (l14 ++ l6))) fun j3 => fork v2
 (fin h (rsT (.int .i64 6) (some [])) h1 [])
 (j3 [x0, v0] h1 [])

-- 49 (*asterism/asterismref12.DB).Add
noncomputable def F_k49 (call : CallF) (lp : LoopF) (x0 : Value) (x1 : Value) (h : H) : Option (Value × H × List Nat) :=
 al (aBx h.n T_api_Table 4 x1) h fun v0 h1 =>
 ob (rNil x0) fun v2 =>
 ob (rFld 0 v2) fun v3 =>
 ob (rLd1 h1.get v3) fun v4 =>
 ob (rLdA h1.get 4 v0) fun v5 =>
 hv (call (.fn N_k91) [v4, v5] h1) fun v6 h7 l8 =>
 dr [0, 1, 3, 7, 0, 31, 63] [mP h1, mP h1, mP h1, mR h1 (rdP v3), mR h1 (rdP v0), mH h1 (rdL [v4, v5]) l8 h7, mP h7] fun l9 =>
 ob (bI .neq v6 (.int .i64 0)) fun v10 =>
 jn3 (fun vs12 h13 l14 =>
 ob (rNil (nt vs12 0)) fun v15 =>
 ob (rFld 0 v15) fun v16 =>
 ob (rLd1 h13.get v16) fun v17 =>
 ob (rLdA h13.get 4 (nt vs12 1)) fun v18 =>
 hv (call (.fn N_k92) [v18] h13) fun v19 h20 l21 =>
 al (aBuildS pgB h20.n T_asterismref8_Schema 1 [(0, v19)]) h20 fun v22 h23 =>
 hv (rApp h23 T_api_Table 4 80 [(.string ⟨#[]⟩), (.slice none 0 0), (.string ⟨#[]⟩), (.slice none 0 0)] v17 v22) fun v24 h25 l26 =>
 ob (rNil (nt vs12 0)) fun v27 =>
 ob (rFld 0 v27) fun v28 =>
 hv (rStore h25 1 v28 v24) fun v29 h30 l31 =>
 dr [0, 0, 2, 6, 14, 0, 32, 96, 254, 511, 1023, 2047] [mP h13, mP h13, mP h13, mP h13, mR h13 (rdP v16), mR h13 (rdP (nt vs12 1)), mH h13 (rdL [v18]) l21 h20, mA h20 [], mH h23 (rdL [v17, v22]) l26 h25, mP h25, mP h25, mH h25 [] l31 h30] fun l32 =>
 ob (rNil (nt vs12 0)) fun v33 =>
 ob (rFld 1 v33) fun v34 =>
 ob (rLd1 h30.get v34) fun v35 =>
 al (aBuildS pgB h30.n T_LLasterismref12_Row 1 [(0, (.slice none 0 0))]) h30 fun v36 h37 =>
 hv (rApp h37 T_Lasterismref12_Row 1 24 [(.slice none 0 0)] v35 v36) fun v38 h39 l40 =>
 ob (rNil (nt vs12 0)) fun v41 =>
 ob (rFld 2 v41) fun v42 =>
 ob (rLd1 h39.get v42) fun v43 =>
 al (aBuildS pgB h39.n T_Li64 1 [(0, (.int .i64 0))]) h39 fun v44 h45 =>
 hv (rApp h45 T_i64_b 1 8 [(.int .i64 0)] v43 v44) fun v46 h47 l48 =>
 ob (rNil (nt vs12 0)) fun v49 =>
 ob (rFld 1 v49) fun v50 =>
 hv (rStore h47 1 v50 v38) fun v51 h52 l53 =>
 ob (rNil (nt vs12 0)) fun v54 =>
 ob (rFld 2 v54) fun v55 =>
 hv (rStore h52 1 v55 v46) fun v56 h57 l58 =>
 dr [0, 0, 0, 4, 12, 28, 0, 124, 0, 256, 768, 1792, 0, 8188, 16381, 32765, 65533, 131071, 262143, 524287] [mP h30, mP h30, mP h30, mP h30, mP h30, mR h30 (rdP v34), mA h30 [], mH h37 (rdL [v35, v36]) l40 h39, mP h39, mP h39, mP h39, mR h39 (rdP v42), mA h39 [], mH h45 (rdL [v43, v44]) l48 h47, mP h47, mP h47, mH h47 [] l53 h52, mP h52, mP h52, mH h52 [] l58 h57] fun l59 =>
 fin h (rsT (.int .i64 0) (some [])) h57 (l59 ++ (l32 ++ l14))) fun j11 => fork v10
 (fin h (rsT v6 (some [])) h7 (l9 ++ []))
 (j11 [x0, v0] h7 (l9 ++ []))

-- 50 asterism/omap.New[asterism/api.Value,[]int]
noncomputable def F_k50 (call : CallF) (lp : LoopF) (x0 : Value) (h : H) : Option (Value × H × List Nat) :=
 ob (oBuild pgB T_omap_Map_api_Value_int [(0, x0)]) fun v0 =>
 al (aBx h.n T_omap_Map_api_Value_int 2 v0) h fun v1 h2 =>
 fin h (rsT v1 (some [])) h2 []

-- 51 asterism/val.Compare
noncomputable def F_k51 (call : CallF) (lp : LoopF) (x0 : Value) (x1 : Value) (h : H) : Option (Value × H × List Nat) :=
 al (aBx h.n T_api_Value 3 x0) h fun v0 h1 =>
 al (aBx h1.n T_api_Value 3 x1) h1 fun v2 h3 =>
 ob (rFld 0 v0) fun v4 =>
 ob (rLd1 h3.get v4) fun v5 =>
 ob (rFld 0 v2) fun v6 =>
 ob (rLd1 h3.get v6) fun v7 =>
 hv (call (.fn N_k94) [v5, v7] h3) fun v8 h9 l10 =>
 ob (rFld 1 v0) fun v11 =>
 ob (rLd1 h9.get v11) fun v12 =>
 ob (rFld 1 v2) fun v13 =>
 ob (rLd1 h9.get v13) fun v14 =>
 hv (call (.fn N_k95) [v12, v14] h9) fun v15 h16 l17 =>
 ob (rFld 2 v0) fun v18 =>
 ob (rLd1 h16.get v18) fun v19 =>
 ob (rFld 2 v2) fun v20 =>
 ob (rLd1 h16.get v20) fun v21 =>
 hv (call (.fn N_k96) [v19, v21] h16) fun v22 h23 l24 =>
 al (aBuildS pgB h23.n T_Li64 3 [(0, v8), (1, v15), (2, v22)]) h23 fun v25 h26 =>
 hv (call (.fn N_k93) [v25] h26) fun v27 h28 l29 =>
 dr [0, 1, 0, 4, 15, 0, 32, 0, 128, 511, 0, 1024, 0, 4096, 16383, 32767, 65535, 131071] [mP h3, mR h3 (rdP v4), mP h3, mR h3 (rdP v6), mH h3 (rdL [v5, v7]) l10 h9, mP h9, mR h9 (rdP v11), mP h9, mR h9 (rdP v13), mH h9 (rdL [v12, v14]) l17 h16, mP h16, mR h16 (rdP v18), mP h16, mR h16 (rdP v20), mH h16 (rdL [v19, v21]) l24 h23, mA h23 [], mH h26 (rdL [v25]) l29 h28, mP h28] fun l30 =>
 fin h (rsT v27 (some [])) h28 (l30 ++ [])

-- 52 (*asterism/data.DB).Value
noncomputable def F_k52_L122 (call : CallF) (lp : LoopF) : List Value → H → Option LOut := fun vs59 h60 =>
 ob (bI .lss (nt vs59 8) (nt vs59 7)) fun v61 =>
 jn3 (fun vs63 h64 l65 =>
 jn3 (fun vs67 h68 l69 =>
 ob (bI .add (nt vs67 8) (.int .i64 1)) fun v70 =>
 some ⟨.normal, [(nt vs67 0), (nt vs67 1), (nt vs67 2), (nt vs67 3), (nt vs67 4), (nt vs67 5), (nt vs67 6), (nt vs67 7), v70], h68, l69⟩) fun j66 =>
 ob (rIdxS 1 (nt vs63 6) (nt vs63 8)) fun v71 =>
 ob (rLd1 h64.get v71) fun v72 =>
 ob (rNil (nt vs63 0)) fun v73 =>
 ob (rFld 0 v73) fun v74 =>
 ob (rLd1 h64.get v74) fun v75 =>
 hv (call (.fn N_k98) [v75, (nt vs63 1), v72] h64) fun v76 h77 l78 =>
 ob (rExtract 0 v76) fun v79 =>
 ob (rExtract 1 v76) fun v80 =>
 al (aNew h77.n T_api_Col [(.string ⟨#[]⟩), (.int .i64 0), (.bool false), (.string ⟨#[]⟩)]) h77 fun v81 h82 =>
 hv (rStore h82 4 v81 v79) fun v83 h84 l85 =>
 hv (call (.fn N_k20) [(nt vs63 0), (nt vs63 1)] h84) fun v86 h87 l88 =>
 hv (call (.fn N_k76) [v86, (nt vs63 2), v72] h87) fun v89 h90 l91 =>
 ob (rExtract 0 v89) fun v92 =>
 ob (rExtract 1 v89) fun v93 =>
 al (aNew h90.n T_api_Value [(.int .i64 0), (.int .i64 0), (.string ⟨#[]⟩)]) h90 fun v94 h95 =>
 hv (rStore h95 3 v94 v92) fun v96 h97 l98 =>
 ob (rFld 3 v81) fun v99 =>
 ob (rLd1 h97.get v99) fun v100 =>
 ob (rLdA h97.get 3 v94) fun v101 =>
 hv (call (.fn N_k78) [(nt vs63 0), v100, v101] h97) fun v102 h103 l104 =>
 ob (rExtract 0 v102) fun v105 =>
 ob (rExtract 1 v102) fun v106 =>
 ob (unV .not v106) fun v107 =>
 jn3 (fun vs109 h110 l111 =>
 ob (rFld 3 (nt vs109 4)) fun v112 =>
 ob (rLd1 h110.get v112) fun v113 =>
 j66 [(nt vs109 0), v113, (nt vs109 5), (nt vs109 1), (nt vs109 2), (nt vs109 3), (nt vs109 6), (nt vs109 7), (nt vs109 8)] h110 l111) fun j108 => fork v107
 (ob (oBuild pgB T_api_Value []) fun v114 =>
 hv (rStore h103 3 (nt vs63 4) v114) fun v115 h116 l117 =>
 some ⟨.ret, [(nt vs63 0), (nt vs63 1), (nt vs63 2), (nt vs63 3), (nt vs63 4), (.bool true), (nt vs63 6), (nt vs63 7), (nt vs63 8)], h116, (l117 ++ (l104 ++ (l98 ++ (l91 ++ (l88 ++ (l85 ++ (l78 ++ l65)))))))⟩)
 (j108 [(nt vs63 0), (nt vs63 3), (nt vs63 4), (nt vs63 5), v81, v105, (nt vs63 6), (nt vs63 7), (nt vs63 8)] h103 (l104 ++ (l98 ++ (l91 ++ (l88 ++ (l85 ++ (l78 ++ l65)))))))) fun j62 => fork v61
 (j62 [(nt vs59 0), (nt vs59 1), (nt vs59 2), (nt vs59 3), (nt vs59 4), (nt vs59 5), (nt vs59 6), (nt vs59 7), (nt vs59 8)] h60 [])
 (some ⟨(.exit 0), [(nt vs59 0), (nt vs59 1), (nt vs59 2), (nt vs59 3), (nt vs59 4), (nt vs59 5), (nt vs59 6), (nt vs59 7), (nt vs59 8)], h60, []⟩)
noncomputable def F_k52 (call : CallF) (lp : LoopF) (x0 : Value) (x1 : Value) (x2 : Value) (x3 : Value) (h : H) : Option (Value × H × List Nat) :=
 al (aNew h.n T_api_Value [(.int .i64 0), (.int .i64 0), (.string ⟨#[]⟩)]) h fun v0 h1 =>
 hv (call (.fn N_k34) [x0] h1) fun v2 h3 l4 =>
 hv (call (.fn N_k97) [v2, x1, x3] h3) fun v5 h6 l7 =>
 ob (rExtract 0 v5) fun v8 =>
 ob (rExtract 1 v5) fun v9 =>
 ob (rExtract 2 v5) fun v10 =>
 al (aNew h6.n T_api_Col [(.string ⟨#[]⟩), (.int .i64 0), (.bool false), (.string ⟨#[]⟩)]) h6 fun v11 h12 =>
 hv (rStore h12 4 v11 v8) fun v13 h14 l15 =>
 ob (bI .neq v10 (.int .i64 0)) fun v16 =>
 gP (gd v16 false) (some x0) fun v17 =>
 gP (gd v16 false) (some x1) fun v18 =>
 hv (gV (gd v16 false) (call (.fn N_k20) [v17, v18] h14) h14) fun v19 h20 l21 =>
 hv (gV (gd v16 false) (call (.fn N_k32) [v19] h20) h20) fun v22 h23 l24 =>
 gP (gd v16 false) (some x2) fun v25 =>
 hv (gV (gd v16 false) (call (.fn N_k65) [v22, v25] h23) h23) fun v26 h27 l28 =>
 gP (gd v16 false) (unV .not v26) fun v29 =>
 ob (rPick v16 (.bool true) v29) fun v30 =>
 jn3 (fun vs32 h33 l34 =>
 ob (rLenL (nt vs32 3)) fun v35 =>
 ob (bI .sub v35 (.int .i64 1)) fun v36 =>
 ob (rSl h33.get T_string 1 (nt vs32 3) none (some v36) none) fun v37 =>
 ob (rLenL v37) fun v38 =>
 jn3 (fun vs40 h41 l42 =>
 hv (call (.fn N_k20) [(nt vs40 0), (nt vs40 1)] h41) fun v43 h44 l45 =>
 ob (rLenL (nt vs40 3)) fun v46 =>
 ob (bI .sub v46 (.int .i64 1)) fun v47 =>
 ob (rIdxS 1 (nt vs40 3) v47) fun v48 =>
 ob (rLd1 h44.get v48) fun v49 =>
 hv (call (.fn N_k76) [v43, (nt vs40 2), v49] h44) fun v50 h51 l52 =>
 ob (rExtract 0 v50) fun v53 =>
 ob (rExtract 1 v50) fun v54 =>
 hv (rStore h51 3 (nt vs40 4) v53) fun v55 h56 l57 =>
 dr [0, 0, 3, 0, 0, 0, 32, 96, 240, 496, 1023, 2047, 2047, 8191, 16383] [mP h41, mP h41, mH h41 (rdL [(nt vs40 0), (nt vs40 1)]) l45 h44, mP h44, mP h44, mP h44, mR h44 (rdL [(nt vs40 3)]), mP h44, mP h44, mR h44 (rdP v48), mH h44 (rdL [v43, (nt vs40 2), v49]) l52 h51, mP h51, mP h51, mH h51 [] l57 h56, mP h56] fun l58 =>
 fin h (rsK (rLdA h56.get 3 (nt vs40 4)) (rsT v54 (some []))) h56 (l58 ++ l42)) fun j39 =>
 ob (lp (F_k52_L122 call lp) [(nt vs32 0), (nt vs32 1), (nt vs32 2), (nt vs32 3), (nt vs32 4), (nt vs32 5), v37, v38, (.int .i64 0)] h33) fun o118 =>
 onEx o118.ex (j39 [(nt o118.vs 0), (nt o118.vs 1), (nt o118.vs 2), (nt o118.vs 3), (nt o118.vs 4)] o118.h (o118.lg ++ l34)) (fun i119 => bif Nat.beq i119 0 then j39 [(nt o118.vs 0), (nt o118.vs 1), (nt o118.vs 2), (nt o118.vs 3), (nt o118.vs 4)] o118.h (o118.lg ++ l34) else none) (fin h (rsK (rLdA o118.h.get 3 (nt o118.vs 4)) (rsT (nt o118.vs 5) (some []))) o118.h (o118.lg ++ l34))) fun j31 => fork v30
 (ob (oBuild pgB T_api_Value []) fun v120 =>
 hv (rStore h27 3 v0 v120) fun v121 h122 l123 =>
 fin h (rsK (rLdA h122.get 3 v0) (rsT (.bool false) (some []))) h122 (l123 ++ (l28 ++ (l24 ++ (l21 ++ (l15 ++ (l7 ++ (l4 ++ []))))))))
 (j31 [x0, x1, x2, x3, v0, (.bool false)] h27 (l28 ++ (l24 ++ (l21 ++ (l15 ++ (l7 ++ (l4 ++ [])))))))

-- 53 (*asterism/omap.Map[asterism/api.Value, []int]).Get
noncomputable def F_k53 (call : CallF) (lp : LoopF) (x0 : Value) (x1 : Value) (h : H) : Option (Value × H × List Nat) :=
 al (aBx h.n T_api_Value 3 x1) h fun v0 h1 =>
 ob (rLdA h1.get 3 v0) fun v2 =>
 hv (call (.fn N_k99) [x0, v2] h1) fun v3 h4 l5 =>
 ob (rExtract 0 v3) fun v6 =>
 ob (rExtract 1 v3) fun v7 =>
 ob (unV .not v7) fun v8 =>
 jn3 (fun vs10 h11 l12 =>
 ob (rNil (nt vs10 0)) fun v13 =>
 ob (rFld 1 v13) fun v14 =>
 ob (rLd1 h11.get v14) fun v15 =>
 ob (rIdxS 4 v15 (nt vs10 1)) fun v16 =>
 ob (rFld 3 v16) fun v17 =>
 ob (rLd1 h11.get v17) fun v18 =>
 fin h (rsT v18 (rsT (.bool true) (some []))) h11 l12) fun j9 => fork v8
 (fin h (rsT (.slice none 0 0) (rsT (.bool false) (some []))) h4 (l5 ++ []))
 (j9 [x0, v6] h4 (l5 ++ []))

-- 54 (*asterism/omap.Map[asterism/api.Value, []int]).Put
noncomputable def F_k54 (call : CallF) (lp : LoopF) (x0 : Value) (x1 : Value) (x2 : Value) (h : H) : Option (Value × H × List Nat) :=
 al (aBx h.n T_api_Value 3 x1) h fun v0 h1 =>
 ob (rLdA h1.get 3 v0) fun v2 =>
 hv (call (.fn N_k99) [x0, v2] h1) fun v3 h4 l5 =>
 ob (rExtract 0 v3) fun v6 =>
 ob (rExtract 1 v3) fun v7 =>
 jn3 (fun vs9 h10 l11 =>
 ob (rNil (nt vs9 0)) fun v12 =>
 ob (rFld 1 v12) fun v13 =>
 ob (rLd1 h10.get v13) fun v14 =>
 ob (rLdA h10.get 3 (nt vs9 2)) fun v15 =>
 ob (oBuild pgB T_omap_pair_api_Value_int [(0, v15), (1, (nt vs9 1))]) fun v16 =>
 al (aBuildS pgB h10.n T_Lomap_pair_api_Value_int 1 [(0, v16)]) h10 fun v17 h18 =>
 hv (call (.fn N_k100) [v14, (nt vs9 3), v17] h18) fun v19 h20 l21 =>
 ob (rNil (nt vs9 0)) fun v22 =>
 ob (rFld 1 v22) fun v23 =>
 hv (rStore h20 1 v23 v19) fun v24 h25 l26 =>
 dr [0, 0, 2, 6, 14, 0, 0, 0, 192, 448, 1022, 2047, 4095, 8191] [mP h10, mP h10, mP h10, mP h10, mR h10 (rdP v13), mP h10, mR h10 (rdP (nt vs9 2)), mP h10, mP h10, mA h10 [], mH h18 (rdL [v14, (nt vs9 3), v17]) l21 h20, mP h20, mP h20, mH h20 [] l26 h25] fun l27 =>
 fin h (rsT (.bool true) (some [])) h25 (l27 ++ l11)) fun j8 =>
 jn3 (fun vs29 h30 l31 =>
 j8 [(nt vs29 0), (nt vs29 1), (nt vs29 2), (nt vs29 3)] h30 l31) fun j28 => fork v7
 (ob (rNil x0) fun v32 =>
 ob (rFld 1 v32) fun v33 =>
 ob (rLd1 h4.get v33) fun v34 =>
 ob (rIdxS 4 v34 v6) fun v35 =>
 ob (rFld 3 v35) fun v36 =>
 hv (rStore h4 1 v36 x2) fun v37 h38 l39 =>
 fin h (rsT (.bool false) (some [])) h38 (l39 ++ (l5 ++ [])))
 (ob (binV pgB.ty (tyD (.pointer 0)) .eql x0 (.pointer none)) fun v40 =>
 gP (gd v40 false) (some x0) fun v41 =>
 gP (gd v40 false) (rNil v41) fun v42 =>
 gP (gd v40 false) (rFld 0 v42) fun v43 =>
 gP (gd v40 false) (rLd1 h4.get v43) fun v44 =>
 gP (gd v40 false) (binV pgB.ty (tyD (.func #[] #[] false)) .eql v44 .nilFunc) fun v45 =>
 ob (rPick v40 (.bool true) v45) fun v46 =>
 jn3 (fun vs48 h49 l50 =>
 j28 [(nt vs48 0), (nt vs48 1), (nt vs48 2), (nt vs48 3)] h49 l50) fun j47 => fork v46
 (fin h (rsT (.bool false) (some [])) h4 (l5 ++ []))
 (j47 [x0, x2, v0, v6] h4 (l5 ++ [])))

-- 55 asterism/omap.New[asterism/api.Value,asterism/bitmap.Map]
noncomputable def F_k55 (call : CallF) (lp : LoopF) (x0 : Value) (h : H) : Option (Value × H × List Nat) :=
 ob (oBuild pgB T_omap_Map_api_Value_bitmap_Map [(0, x0)]) fun v0 =>
 al (aBx h.n T_omap_Map_api_Value_bitmap_Map 2 v0) h fun v1 h2 =>
 fin h (rsT v1 (some [])) h2 []

-- 56 (*asterism/omap.Map[asterism/api.Value, []int]).All
noncomputable def F_k56 (call : CallF) (lp : LoopF) (x0 : Value) (h : H) : Option (Value × H × List Nat) :=
 al (aBx h.n T_Pomap_Map_api_Value_int 1 x0) h fun v0 h1 =>
 ob (oFunc N_k101 #[] #[v0]) fun v2 =>
 fin h (rsT v2 (some [])) h1 []

-- 57 (*asterism/omap.Map[asterism/api.Value, asterism/bitmap.Map]).Put
noncomputable def F_k57 (call : CallF) (lp : LoopF) (x0 : Value) (x1 : Value) (x2 : Value) (h : H) : Option (Value × H × List Nat) :=
 al (aBx h.n T_api_Value 3 x1) h fun v0 h1 =>
 al (aBx h1.n T_bitmap_Map 1 x2) h1 fun v2 h3 =>
 ob (rLdA h3.get 3 v0) fun v4 =>
 hv (call (.fn N_k103) [x0, v4] h3) fun v5 h6 l7 =>
 ob (rExtract 0 v5) fun v8 =>
 ob (rExtract 1 v5) fun v9 =>
 jn3 (fun vs11 h12 l13 =>
 ob (rNil (nt vs11 0)) fun v14 =>
 ob (rFld 1 v14) fun v15 =>
 ob (rLd1 h12.get v15) fun v16 =>
 ob (rLdA h12.get 3 (nt vs11 1)) fun v17 =>
 ob (rLdA h12.get 1 (nt vs11 2)) fun v18 =>
 ob (oBuild pgB T_omap_pair_api_Value_bitmap_Map [(0, v17), (1, v18)]) fun v19 =>
 al (aBuildS pgB h12.n T_Lomap_pair_api_Value_bitmap_Map 1 [(0, v19)]) h12 fun v20 h21 =>
 hv (call (.fn N_k104) [v16, (nt vs11 3), v20] h21) fun v22 h23 l24 =>
 ob (rNil (nt vs11 0)) fun v25 =>
 ob (rFld 1 v25) fun v26 =>
 hv (rStore h23 1 v26 v22) fun v27 h28 l29 =>
 dr [0, 0, 2, 6, 14, 0, 0, 0, 192, 448, 1022, 2047, 4095, 8191] [mP h12, mP h12, mP h12, mP h12, mR h12 (rdP v15), mP h12, mR h12 (rdP (nt vs11 1)), mR h12 (rdP (nt vs11 2)), mP h12, mA h12 [], mH h21 (rdL [v16, (nt vs11 3), v20]) l24 h23, mP h23, mP h23, mH h23 [] l29 h28] fun l30 =>
 fin h (rsT (.bool true) (some [])) h28 (l30 ++ l13)) fun j10 =>
 jn3 (fun vs32 h33 l34 =>
 j10 [(nt vs32 0), (nt vs32 1), (nt vs32 2), (nt vs32 3)] h33 l34) fun j31 => fork v9
 (ob (rNil x0) fun v35 =>
 ob (rFld 1 v35) fun v36 =>
 ob (rLd1 h6.get v36) fun v37 =>
 ob (rLdA h6.get 1 v2) fun v38 =>
 ob (rIdxS 4 v37 v8) fun v39 =>
 ob (rFld 3 v39) fun v40 =>
 hv (rStore h6 1 v40 v38) fun v41 h42 l43 =>
 dr [0, 1, 3, 7, 0, 0, 63, 127, 255] [mP h6, mP h6, mP h6, mR h6 (rdP v36), mP h6, mR h6 (rdP v2), mP h6, mP h6, mH h6 [] l43 h42] fun l44 =>
 fin h (rsT (.bool false) (some [])) h42 (l44 ++ (l7 ++ [])))
 (ob (binV pgB.ty (tyD (.pointer 0)) .eql x0 (.pointer none)) fun v45 =>
 gP (gd v45 false) (some x0) fun v46 =>
 gP (gd v45 false) (rNil v46) fun v47 =>
 gP (gd v45 false) (rFld 0 v47) fun v48 =>
 gP (gd v45 false) (rLd1 h6.get v48) fun v49 =>
 gP (gd v45 false) (binV pgB.ty (tyD (.func #[] #[] false)) .eql v49 .nilFunc) fun v50 =>
 ob (rPick v45 (.bool true) v50) fun v51 =>
 jn3 (fun vs53 h54 l55 =>
 j31 [(nt vs53 0), (nt vs53 1), (nt vs53 2), (nt vs53 3)] h54 l55) fun j52 => fork v51
 (fin h (rsT (.bool false) (some [])) h6 (l7 ++ []))
 (j52 [x0, v0, v2, v8] h6 (l7 ++ [])))

-- 58 asterism/bitmap.Of
noncomputable def F_k58_L506 (call : CallF) (lp : LoopF) : List Value → H → Option LOut := fun vs19 h20 =>
 ob (bI .lss (nt vs19 4) (nt vs19 3)) fun v21 =>
 jn3 (fun vs23 h24 l25 =>
 jn3 (fun vs27 h28 l29 =>
 ob (bI .add (nt vs27 4) (.int .i64 1)) fun v30 =>
 some ⟨.normal, [(nt vs27 0), (nt vs27 1), (nt vs27 2), (nt vs27 3), v30, (nt vs27 5), (nt vs27 6)], h28, l29⟩) fun j26 =>
 ob (rIdxS 1 (nt vs23 2) (nt vs23 4)) fun v31 =>
 ob (rLd1 h24.get v31) fun v32 =>
 ob (bI .geq v32 (.int .i64 0)) fun v33 =>
 gP (gd v33 true) (some v32) fun v34 =>
 gP (gd v33 true) (bI .lss v34 (.int .i64 65536)) fun v35 =>
 ob (rPick v33 v35 (.bool false)) fun v36 =>
 jn3 (fun vs38 h39 l40 =>
 j26 [(nt vs38 0), (nt vs38 1), (nt vs38 2), (nt vs38 3), (nt vs38 4), (nt vs38 5), (nt vs38 6)] h39 l40) fun j37 => fork v36
 (ob (bI .add v32 (.int .i64 1)) fun v41 =>
 hv (call (.fn N_k107) [(nt vs23 1), v32, v41] h24) fun v42 h43 l44 =>
 j37 [(nt vs23 0), (nt vs23 1), (nt vs23 2), (nt vs23 3), (nt vs23 4), v34, v35] h43 (l44 ++ l25))
 (j37 [(nt vs23 0), (nt vs23 1), (nt vs23 2), (nt vs23 3), (nt vs23 4), v34, v35] h24 l25)) fun j22 => fork v21
 (j22 [(nt vs19 0), (nt vs19 1), (nt vs19 2), (nt vs19 3), (nt vs19 4), (nt vs19 5), (nt vs19 6)] h20 [])
 (some ⟨(.exit 0), [(nt vs19 0), (nt vs19 1), (nt vs19 2), (nt vs19 3), (nt vs19 4), (nt vs19 5), (nt vs19 6)], h20, []⟩)
noncomputable def F_k58 (call : CallF) (lp : LoopF) (x0 : Value) (h : H) : Option (Value × H × List Nat) :=
 al (aNew h.n T_bitmap_Map [(.slice none 0 0)]) h fun v0 h1 =>
 hv (call (.fn N_k105) [x0] h1) fun v2 h3 l4 =>
 hv (call (.fn N_k106) [v2] h3) fun v5 h6 l7 =>
 al (aNew h6.n T_bitmap_Map [(.slice none 0 0)]) h6 fun v8 h9 =>
 ob (rLenL v2) fun v10 =>
 jn3 (fun vs12 h13 l14 =>
 ob (rLdA h13.get 1 (nt vs12 1)) fun v15 =>
 hv (rStore h13 1 (nt vs12 0) v15) fun v16 h17 l18 =>
 fin h (rsK (rLdA h17.get 1 (nt vs12 0)) (some [])) h17 (l18 ++ l14)) fun j11 =>
 ob (lp (F_k58_L506 call lp) [v0, v8, v2, v10, (.int .i64 0), poison, poison] h9) fun o45 =>
 onEx o45.ex (j11 [(nt o45.vs 0), (nt o45.vs 1)] o45.h (o45.lg ++ (l7 ++ (l4 ++ [])))) (fun i46 => bif Nat.beq i46 0 then j11 [(nt o45.vs 0), (nt o45.vs 1)] o45.h (o45.lg ++ (l7 ++ (l4 ++ []))) else none) (fin h (rsK (rLdA o45.h.get 1 (nt o45.vs 0)) (some [])) o45.h (o45.lg ++ (l7 ++ (l4 ++ []))))

-- 59 asterism/schema.New
noncomputable def F_k59 (call : CallF) (lp : LoopF) (h : H) : Option (Value × H × List Nat) :=
 ob (oBuild pgB T_schema_Schema []) fun v0 =>
 al (aBx h.n T_schema_Schema 1 v0) h fun v1 h2 =>
 fin h (rsT v1 (some [])) h2 []

-- 60 asterism/asterismlaw12.Fill
noncomputable def F_k60_L14 (call : CallF) (lp : LoopF) : List Value → H → Option LOut := fun vs4 h5 =>
 ob (rLenL (nt vs4 2)) fun v6 =>
 ob (bI .lss (nt vs4 3) v6) fun v7 =>
 jn3 (fun vs9 h10 l11 =>
 jn3 (fun vs13 h14 l15 =>
 ob (bI .add (nt vs13 3) (.int .i64 1)) fun v16 =>
 some ⟨.normal, [(nt vs13 0), (nt vs13 1), (nt vs13 2), v16, (nt vs13 4), (nt vs13 5)], h14, l15⟩) fun j12 =>
 ob (rIdxS 5 (nt vs9 2) (nt vs9 3)) fun v17 =>
 ob (rLdA h10.get 5 v17) fun v18 =>
 al (aNew h10.n T_api_Op [(.int .i64 0), (.string ⟨#[]⟩), (.int .i64 0), (.string ⟨#[]⟩), (.slice none 0 0)]) h10 fun v19 h20 =>
 hv (rStore h20 5 v19 v18) fun v21 h22 l23 =>
 ob (rFld 1 v19) fun v24 =>
 ob (rLd1 h22.get v24) fun v25 =>
 hv (call (.fn N_k20) [(nt vs9 0), v25] h22) fun v26 h27 l28 =>
 ob (rNil (nt vs9 1)) fun v29 =>
 ob (rFld 0 v29) fun v30 =>
 ob (rLd1 h27.get v30) fun v31 =>
 ob (rFld 1 v19) fun v32 =>
 ob (rLd1 h27.get v32) fun v33 =>
 hv (call (.fn N_k108) [v31, v33] h27) fun v34 h35 l36 =>
 dr [0, 0, 2, 7, 0, 16, 48, 112, 0, 256, 1023, 2047, 4095] [mP h22, mP h22, mR h22 (rdP v24), mH h22 (rdL [(nt vs9 0), v25]) l28 h27, mP h27, mP h27, mP h27, mR h27 (rdP v30), mP h27, mR h27 (rdP v32), mH h27 (rdL [v31, v33]) l36 h35, mP h35, mP h35] fun l37 =>
 ob (binV pgB.ty (tyD (.pointer 0)) .eql v26 (.pointer none)) fun v38 =>
 gP (gd v38 false) (some v34) fun v39 =>
 gP (gd v38 false) (bI .lss v39 (.int .i64 0)) fun v40 =>
 ob (rPick v38 (.bool true) v40) fun v41 =>
 jn3 (fun vs43 h44 l45 =>
 jn3 (fun vs47 h48 l49 =>
 j12 [(nt vs47 0), (nt vs47 1), (nt vs47 2), (nt vs47 3), (nt vs47 4), (nt vs47 5)] h48 l49) fun j46 =>
 ob (rFld 0 (nt vs43 4)) fun v50 =>
 ob (rLd1 h44.get v50) fun v51 =>
 ob (bI .eql v51 (.int .i64 1)) fun v52 =>
 jn3 (fun vs54 h55 l56 =>
 j46 [(nt vs54 0), (nt vs54 1), (nt vs54 2), (nt vs54 3), (nt vs54 4), (nt vs54 5)] h55 l56) fun j53 => fork v52
 (ob (rFld 4 (nt vs43 4)) fun v57 =>
 ob (rLd1 h44.get v57) fun v58 =>
 hv (call (.fn N_k109) [(nt vs43 5), v58] h44) fun v59 h60 l61 =>
 ob (rFld 4 (nt vs43 4)) fun v62 =>
 ob (rLd1 h60.get v62) fun v63 =>
 hv (call (.fn N_k110) [(nt vs43 1), (nt vs43 6), v63] h60) fun v64 h65 l66 =>
 j53 [(nt vs43 0), (nt vs43 1), (nt vs43 2), (nt vs43 3), (nt vs43 7), (nt vs43 8)] h65 (l66 ++ (l61 ++ l45)))
 (ob (rFld 0 (nt vs43 4)) fun v67 =>
 ob (rLd1 h44.get v67) fun v68 =>
 ob (bI .eql v68 (.int .i64 2)) fun v69 =>
 jn3 (fun vs71 h72 l73 =>
 j53 [(nt vs71 0), (nt vs71 1), (nt vs71 2), (nt vs71 3), (nt vs71 4), (nt vs71 5)] h72 l73) fun j70 => fork v69
 (ob (rFld 2 (nt vs43 4)) fun v74 =>
 ob (rLd1 h44.get v74) fun v75 =>
 hv (call (.fn N_k63) [(nt vs43 5), v75] h44) fun v76 h77 l78 =>
 ob (rFld 2 (nt vs43 4)) fun v79 =>
 ob (rLd1 h77.get v79) fun v80 =>
 hv (call (.fn N_k111) [(nt vs43 1), (nt vs43 6), v80] h77) fun v81 h82 l83 =>
 j70 [(nt vs43 0), (nt vs43 1), (nt vs43 2), (nt vs43 3), (nt vs43 7), (nt vs43 8)] h82 (l83 ++ (l78 ++ l45)))
 (ob (rFld 4 (nt vs43 4)) fun v84 =>
 ob (rLd1 h44.get v84) fun v85 =>
 ob (rLenL v85) fun v86 =>
 ob (bI .eql v86 (.int .i64 1)) fun v87 =>
 jn3 (fun vs89 h90 l91 =>
 j70 [(nt vs89 0), (nt vs89 1), (nt vs89 2), (nt vs89 3), (nt vs89 4), (nt vs89 5)] h90 l91) fun j88 => fork v87
 (ob (rFld 2 (nt vs43 4)) fun v92 =>
 ob (rLd1 h44.get v92) fun v93 =>
 ob (rFld 3 (nt vs43 4)) fun v94 =>
 ob (rLd1 h44.get v94) fun v95 =>
 ob (rFld 4 (nt vs43 4)) fun v96 =>
 ob (rLd1 h44.get v96) fun v97 =>
 ob (rIdxS 3 v97 (.int .i64 0)) fun v98 =>
 ob (rLdA h44.get 3 v98) fun v99 =>
 hv (call (.fn N_k112) [(nt vs43 5), v93, v95, v99] h44) fun v100 h101 l102 =>
 dr [0, 0, 2, 0, 8, 0, 32, 96, 224, 511] [mP h44, mP h44, mR h44 (rdP v92), mP h44, mR h44 (rdP v94), mP h44, mR h44 (rdP v96), mP h44, mR h44 (rdP v98), mH h44 (rdL [(nt vs43 5), v93, v95, v99]) l102 h101] fun l103 =>
 ob (rFld 2 (nt vs43 4)) fun v104 =>
 ob (rLd1 h101.get v104) fun v105 =>
 ob (rFld 3 (nt vs43 4)) fun v106 =>
 ob (rLd1 h101.get v106) fun v107 =>
 ob (rFld 4 (nt vs43 4)) fun v108 =>
 ob (rLd1 h101.get v108) fun v109 =>
 ob (rIdxS 3 v109 (.int .i64 0)) fun v110 =>
 ob (rLdA h101.get 3 v110) fun v111 =>
 hv (call (.fn N_k113) [(nt vs43 1), (nt vs43 6), v105, v107, v111] h101) fun v112 h113 l114 =>
 dr [0, 0, 0, 4, 0, 16, 0, 64, 192, 448, 1023] [mP h101, mP h101, mP h101, mR h101 (rdP v104), mP h101, mR h101 (rdP v106), mP h101, mR h101 (rdP v108), mP h101, mR h101 (rdP v110), mH h101 (rdL [(nt vs43 1), (nt vs43 6), v105, v107, v111]) l114 h113] fun l115 =>
 j88 [(nt vs43 0), (nt vs43 1), (nt vs43 2), (nt vs43 3), (nt vs43 7), (nt vs43 8)] h113 (l115 ++ (l103 ++ l45)))
 (j88 [(nt vs43 0), (nt vs43 1), (nt vs43 2), (nt vs43 3), (nt vs43 7), (nt vs43 8)] h44 l45)))) fun j42 => fork v41
 (j12 [(nt vs9 0), (nt vs9 1), (nt vs9 2), (nt vs9 3), v39, v40] h35 (l37 ++ (l23 ++ l11)))
 (j42 [(nt vs9 0), (nt vs9 1), (nt vs9 2), (nt vs9 3), v19, v26, v34, v39, v40] h35 (l37 ++ (l23 ++ l11)))) fun j8 => fork v7
 (j8 [(nt vs4 0), (nt vs4 1), (nt vs4 2), (nt vs4 3), (nt vs4 4), (nt vs4 5)] h5 [])
 (some ⟨(.exit 0), [(nt vs4 0), (nt vs4 1), (nt vs4 2), (nt vs4 3), (nt vs4 4), (nt vs4 5)], h5, []⟩)
noncomputable def F_k60 (call : CallF) (lp : LoopF) (x0 : Value) (x1 : Value) (x2 : Value) (h : H) : Option (Value × H × List Nat) :=
 jn3 (fun vs1 h2 l3 =>
 fin h (some []) h2 l3) fun j0 =>
 ob (lp (F_k60_L14 call lp) [x0, x1, x2, (.int .i64 0), poison, poison] h) fun o116 =>
 onEx o116.ex (j0 [] o116.h (o116.lg ++ [])) (fun i117 => bif Nat.beq i117 0 then j0 [] o116.h (o116.lg ++ []) else none) (fin h (some []) o116.h (o116.lg ++ []))

-- 61 asterism/asterismlaw16.text
noncomputable def F_k61 (call : CallF) (lp : LoopF) (x0 : Value) (h : H) : Option (Value × H × List Nat) :=
 al (aNew h.n T_api_Value [(.int .i64 0), (.int .i64 0), (.string ⟨#[]⟩)]) h fun v0 h1 =>
 ob (oBuild pgB T_api_Value [(0, (.int .i64 2)), (2, x0)]) fun v2 =>
 hv (rStore h1 3 v0 v2) fun v3 h4 l5 =>
 fin h (rsK (rLdA h4.get 3 v0) (some [])) h4 (l5 ++ [])

-- 62 asterism/index.New
noncomputable def F_k62 (call : CallF) (lp : LoopF) (x0 : Value) (x1 : Value) (x2 : Value) (h : H) : Option (Value × H × List Nat) :=
 hv (call (.fn N_k34) [x0] h) fun v0 h1 l2 =>
 hv (call (.fn N_k97) [v0, x1, x2] h1) fun v3 h4 l5 =>
 ob (rExtract 0 v3) fun v6 =>
 ob (rExtract 1 v3) fun v7 =>
 ob (rExtract 2 v3) fun v8 =>
 al (aNew h4.n T_api_Col [(.string ⟨#[]⟩), (.int .i64 0), (.bool false), (.string ⟨#[]⟩)]) h4 fun v9 h10 =>
 hv (rStore h10 4 v9 v6) fun v11 h12 l13 =>
 ob (bI .neq v8 (.int .i64 0)) fun v14 =>
 jn3 (fun vs16 h17 l18 =>
 hv (rApp h17 T_string 1 16 [(.string ⟨#[]⟩)] (.slice none 0 0) (nt vs16 2)) fun v19 h20 l21 =>
 ob (oBuild pgB T_index_Index [(0, (nt vs16 1)), (1, v19)]) fun v22 =>
 al (aBx h20.n T_index_Index 3 v22) h20 fun v23 h24 =>
 hv (call (.fn N_k22) [v23, (nt vs16 0)] h24) fun v25 h26 l27 =>
 fin h (rsT v23 (rsT (.int .i64 0) (some []))) h26 (l27 ++ (l21 ++ l18))) fun j15 => fork v14
 (fin h (rsT (.pointer none) (rsT v8 (some []))) h12 (l13 ++ (l5 ++ (l2 ++ []))))
 (j15 [x0, x1, x2] h12 (l13 ++ (l5 ++ (l2 ++ []))))

-- 63 (*asterism/table.Table).Delete
noncomputable def F_k63_L250 (call : CallF) (lp : LoopF) : List Value → H → Option LOut := fun vs40 h41 =>
 ob (bI .lss (nt vs40 4) (nt vs40 3)) fun v42 =>
 jn3 (fun vs44 h45 l46 =>
 jn3 (fun vs48 h49 l50 =>
 ob (bI .add (nt vs48 4) (.int .i64 1)) fun v51 =>
 some ⟨.normal, [(nt vs48 0), (nt vs48 1), (nt vs48 2), (nt vs48 3), v51], h49, l50⟩) fun j47 =>
 ob (rIdxS 1 (nt vs44 2) (nt vs44 4)) fun v52 =>
 ob (rLd1 h45.get v52) fun v53 =>
 ob (oBuild pgB T_api_Value []) fun v54 =>
 hv (call (.fn N_k115) [v53, (nt vs44 0), v54] h45) fun v55 h56 l57 =>
 j47 [(nt vs44 0), (nt vs44 1), (nt vs44 2), (nt vs44 3), (nt vs44 4)] h56 (l57 ++ l46)) fun j43 => fork v42
 (j43 [(nt vs40 0), (nt vs40 1), (nt vs40 2), (nt vs40 3), (nt vs40 4)] h41 [])
 (some ⟨(.exit 0), [(nt vs40 0), (nt vs40 1), (nt vs40 2), (nt vs40 3), (nt vs40 4)], h41, []⟩)
noncomputable def F_k63 (call : CallF) (lp : LoopF) (x0 : Value) (x1 : Value) (h : H) : Option (Value × H × List Nat) :=
 ob (binV pgB.ty (tyD (.pointer 0)) .eql x0 (.pointer none)) fun v0 =>
 gP (gd v0 false) (some x0) fun v1 =>
 gP (gd v0 false) (rNil v1) fun v2 =>
 gP (gd v0 false) (rFld 5 v2) fun v3 =>
 gP (gd v0 false) (rLdA h.get 1 v3) fun v4 =>
 gP (gd v0 false) (some x1) fun v5 =>
 hv (gV (gd v0 false) (call (.fn N_k65) [v4, v5] h) h) fun v6 h7 l8 =>
 gP (gd v0 false) (unV .not v6) fun v9 =>
 ob (rPick v0 (.bool true) v9) fun v10 =>
 jn3 (fun vs12 h13 l14 =>
 ob (rNil (nt vs12 0)) fun v15 =>
 ob (rFld 5 v15) fun v16 =>
 ob (rLdA h13.get 1 v16) fun v17 =>
 al (aBuildS pgB h13.n T_Li64 1 [(0, (nt vs12 1))]) h13 fun v18 h19 =>
 hv (call (.fn N_k58) [v18] h19) fun v20 h21 l22 =>
 hv (call (.fn N_k114) [v17, v20] h21) fun v23 h24 l25 =>
 ob (rNil (nt vs12 0)) fun v26 =>
 ob (rFld 5 v26) fun v27 =>
 hv (rStore h24 1 v27 v23) fun v28 h29 l30 =>
 dr [0, 0, 2, 6, 14, 0, 32, 96, 254, 511, 1023, 2047] [mP h13, mP h13, mP h13, mP h13, mR h13 (rdP v16), mP h13, mA h13 [], mH h19 (rdL [v18]) l22 h21, mH h21 (rdL [v17, v20]) l25 h24, mP h24, mP h24, mH h24 [] l30 h29] fun l31 =>
 ob (rNil (nt vs12 0)) fun v32 =>
 ob (rFld 4 v32) fun v33 =>
 ob (rLd1 h29.get v33) fun v34 =>
 ob (rLenL v34) fun v35 =>
 jn3 (fun vs37 h38 l39 =>
 fin h (rsT (.bool true) (some [])) h38 l39) fun j36 =>
 ob (lp (F_k63_L250 call lp) [(nt vs12 1), (nt vs12 2), v34, v35, (.int .i64 0)] h29) fun o58 =>
 onEx o58.ex (j36 [] o58.h (o58.lg ++ (l31 ++ l14))) (fun i59 => bif Nat.beq i59 0 then j36 [] o58.h (o58.lg ++ (l31 ++ l14)) else none) (fin h (rsT (nt o58.vs 1) (some [])) o58.h (o58.lg ++ (l31 ++ l14)))) fun j11 => fork v10
 (fin h (rsT (.bool false) (some [])) h7 (l8 ++ []))
 (j11 [x0, x1, (.bool false)] h7 (l8 ++ []))

-- 64 asterism/asterismlaw15.Begun
noncomputable def F_k64 (call : CallF) (lp : LoopF) (h : H) : Option (Value × H × List Nat) :=
 hv (call (.fn N_k9) [] h) fun v0 h1 l2 =>
 fin h (rsT v0 (some [])) h1 (l2 ++ [])

-- 65 (asterism/bitmap.Map).Has
noncomputable def F_k65 (call : CallF) (lp : LoopF) (x0 : Value) (x1 : Value) (h : H) : Option (Value × H × List Nat) :=
 al (aBx h.n T_bitmap_Map 1 x0) h fun v0 h1 =>
 al (aBx h1.n T_i64_b 1 x1) h1 fun v2 h3 =>
 ob (rFld 0 v0) fun v4 =>
 ob (rLd1 h3.get v4) fun v5 =>
 ob (oFunc N_k117 #[] #[v2]) fun v6 =>
 hv (call (.fn N_k116) [v5, v6] h3) fun v7 h8 l9 =>
 fin h (rsT v7 (some [])) h8 (l9 ++ [])

-- 66 (*asterism/omap.Map[asterism/api.Value, asterism/bitmap.Map]).Get
noncomputable def F_k66 (call : CallF) (lp : LoopF) (x0 : Value) (x1 : Value) (h : H) : Option (Value × H × List Nat) :=
 al (aBx h.n T_api_Value 3 x1) h fun v0 h1 =>
 al (aNew h1.n T_bitmap_Map [(.slice none 0 0)]) h1 fun v2 h3 =>
 ob (rLdA h3.get 3 v0) fun v4 =>
 hv (call (.fn N_k103) [x0, v4] h3) fun v5 h6 l7 =>
 ob (rExtract 0 v5) fun v8 =>
 ob (rExtract 1 v5) fun v9 =>
 ob (unV .not v9) fun v10 =>
 jn3 (fun vs12 h13 l14 =>
 ob (rNil (nt vs12 0)) fun v15 =>
 ob (rFld 1 v15) fun v16 =>
 ob (rLd1 h13.get v16) fun v17 =>
 ob (rIdxS 4 v17 (nt vs12 2)) fun v18 =>
 ob (rFld 3 v18) fun v19 =>
 ob (rLdA h13.get 1 v19) fun v20 =>
 hv (rStore h13 1 (nt vs12 1) v20) fun v21 h22 l23 =>
 fin h (rsK (rLdA h22.get 1 (nt vs12 1)) (rsT (.bool true) (some []))) h22 (l23 ++ l14)) fun j11 => fork v10
 (al (aNew h6.n T_bitmap_Map [(.slice none 0 0)]) h6 fun v24 h25 =>
 ob (rLdA h25.get 1 v24) fun v26 =>
 hv (rStore h25 1 v2 v26) fun v27 h28 l29 =>
 fin h (rsK (rLdA h28.get 1 v2) (rsT (.bool false) (some []))) h28 (l29 ++ (l7 ++ [])))
 (j11 [x0, v2, v8] h6 (l7 ++ []))

-- 67 (asterism/bitmap.Map).Rank
noncomputable def F_k67_L122 (call : CallF) (lp : LoopF) : List Value → H → Option LOut := fun vs9 h10 =>
 ob (bI .lss (nt vs9 5) (nt vs9 4)) fun v11 =>
 jn3 (fun vs13 h14 l15 =>
 jn3 (fun vs17 h18 l19 =>
 ob (bI .add (nt vs17 5) (.int .i64 1)) fun v20 =>
 some ⟨.normal, [(nt vs17 0), (nt vs17 1), (nt vs17 2), (nt vs17 3), (nt vs17 4), v20], h18, l19⟩) fun j16 =>
 ob (rIdxS 2 (nt vs13 3) (nt vs13 5)) fun v21 =>
 ob (rLdA h14.get 2 v21) fun v22 =>
 al (aNew h14.n T_A2i64 [(.int .i64 0), (.int .i64 0)]) h14 fun v23 h24 =>
 hv (rStore h24 2 v23 v22) fun v25 h26 l27 =>
 ob (rIdxA 2 1 v23 (.int .i64 0)) fun v28 =>
 ob (rLd1 h26.get v28) fun v29 =>
 ob (bI .gtr (nt vs13 0) v29) fun v30 =>
 jn3 (fun vs32 h33 l34 =>
 j16 [(nt vs32 0), (nt vs32 1), (nt vs32 2), (nt vs32 3), (nt vs32 4), (nt vs32 5)] h33 l34) fun j31 => fork v30
 (ob (rIdxA 2 1 v23 (.int .i64 1)) fun v35 =>
 ob (rLd1 h26.get v35) fun v36 =>
 ob (foldMM false (nt vs13 0) [v36]) fun v37 =>
 ob (rIdxA 2 1 v23 (.int .i64 0)) fun v38 =>
 ob (rLd1 h26.get v38) fun v39 =>
 ob (bI .sub v37 v39) fun v40 =>
 ob (bI .add (nt vs13 2) v40) fun v41 =>
 j31 [(nt vs13 0), (nt vs13 1), v41, (nt vs13 3), (nt vs13 4), (nt vs13 5)] h26 (l27 ++ l15))
 (j31 [(nt vs13 0), (nt vs13 1), (nt vs13 2), (nt vs13 3), (nt vs13 4), (nt vs13 5)] h26 (l27 ++ l15))) fun j12 => fork v11
 (j12 [(nt vs9 0), (nt vs9 1), (nt vs9 2), (nt vs9 3), (nt vs9 4), (nt vs9 5)] h10 [])
 (some ⟨(.exit 0), [(nt vs9 0), (nt vs9 1), (nt vs9 2), (nt vs9 3), (nt vs9 4), (nt vs9 5)], h10, []⟩)
noncomputable def F_k67 (call : CallF) (lp : LoopF) (x0 : Value) (x1 : Value) (h : H) : Option (Value × H × List Nat) :=
 al (aBx h.n T_bitmap_Map 1 x0) h fun v0 h1 =>
 ob (rFld 0 v0) fun v2 =>
 ob (rLd1 h1.get v2) fun v3 =>
 ob (rLenL v3) fun v4 =>
 jn3 (fun vs6 h7 l8 =>
 fin h (rsT (nt vs6 0) (some [])) h7 l8) fun j5 =>
 ob (lp (F_k67_L122 call lp) [x1, (.int .i64 0), (.int .i64 0), v3, v4, (.int .i64 0)] h1) fun o42 =>
 onEx o42.ex (j5 [(nt o42.vs 2)] o42.h (o42.lg ++ [])) (fun i43 => bif Nat.beq i43 0 then j5 [(nt o42.vs 2)] o42.h (o42.lg ++ []) else none) (fin h (rsT (nt o42.vs 1) (some [])) o42.h (o42.lg ++ []))

-- 68 (*asterism/omap.Map[asterism/api.Value, asterism/bitmap.Map]).All
noncomputable def F_k68 (call : CallF) (lp : LoopF) (x0 : Value) (h : H) : Option (Value × H × List Nat) :=
 al (aBx h.n T_Pomap_Map_api_Value_bitmap_Map 1 x0) h fun v0 h1 =>
 ob (oFunc N_k118 #[] #[v0]) fun v2 =>
 fin h (rsT v2 (some [])) h1 []

-- 69 asterism/val.Test
noncomputable def F_k69 (call : CallF) (lp : LoopF) (x0 : Value) (x1 : Value) (x2 : Value) (h : H) : Option (Value × H × List Nat) :=
 al (aBx h.n T_api_Value 3 x1) h fun v0 h1 =>
 al (aBx h1.n T_api_Value 3 x2) h1 fun v2 h3 =>
 jn3 (fun vs5 h6 l7 =>
 ob (rFld 0 (nt vs5 1)) fun v8 =>
 ob (rLd1 h6.get v8) fun v9 =>
 ob (bI .eql v9 (.int .i64 0)) fun v10 =>
 gP (gd v10 false) (rFld 0 (nt vs5 1)) fun v11 =>
 gP (gd v10 false) (rLd1 h6.get v11) fun v12 =>
 gP (gd v10 false) (rFld 0 (nt vs5 2)) fun v13 =>
 gP (gd v10 false) (rLd1 h6.get v13) fun v14 =>
 gP (gd v10 false) (bI .neq v12 v14) fun v15 =>
 ob (rPick v10 (.bool true) v15) fun v16 =>
 jn3 (fun vs18 h19 l20 =>
 ob (rLdA h19.get 3 (nt vs18 1)) fun v21 =>
 ob (rLdA h19.get 3 (nt vs18 2)) fun v22 =>
 hv (call (.fn N_k51) [v21, v22] h19) fun v23 h24 l25 =>
 jn3 (fun vs27 h28 l29 =>
 fin h (rsT (.bool false) (some [])) h28 l29) fun j26 =>
 ob (bI .eql (nt vs18 0) (.int .i64 1)) fun v30 =>
 jn3 (fun vs32 h33 l34 =>
 j26 [] h33 l34) fun j31 => fork v30
 (ob (bI .eql v23 (.int .i64 0)) fun v35 =>
 fin h (rsT v35 (some [])) h24 (l25 ++ l20))
 (ob (bI .eql (nt vs18 0) (.int .i64 2)) fun v36 =>
 jn3 (fun vs38 h39 l40 =>
 j31 [] h39 l40) fun j37 => fork v36
 (ob (bI .neq v23 (.int .i64 0)) fun v41 =>
 fin h (rsT v41 (some [])) h24 (l25 ++ l20))
 (ob (bI .eql (nt vs18 0) (.int .i64 3)) fun v42 =>
 jn3 (fun vs44 h45 l46 =>
 j37 [] h45 l46) fun j43 => fork v42
 (ob (bI .lss v23 (.int .i64 0)) fun v47 =>
 fin h (rsT v47 (some [])) h24 (l25 ++ l20))
 (ob (bI .eql (nt vs18 0) (.int .i64 4)) fun v48 =>
 jn3 (fun vs50 h51 l52 =>
 j43 [] h51 l52) fun j49 => fork v48
 (ob (bI .leq v23 (.int .i64 0)) fun v53 =>
 fin h (rsT v53 (some [])) h24 (l25 ++ l20))
 (ob (bI .eql (nt vs18 0) (.int .i64 5)) fun v54 =>
 jn3 (fun vs56 h57 l58 =>
 j49 [] h57 l58) fun j55 => fork v54
 (ob (bI .gtr v23 (.int .i64 0)) fun v59 =>
 fin h (rsT v59 (some [])) h24 (l25 ++ l20))
 (ob (bI .eql (nt vs18 0) (.int .i64 6)) fun v60 =>
 jn3 (fun vs62 h63 l64 =>
 j55 [] h63 l64) fun j61 => fork v60
 (ob (bI .geq v23 (.int .i64 0)) fun v65 =>
 fin h (rsT v65 (some [])) h24 (l25 ++ l20))
 (j61 [] h24 (l25 ++ l20)))))))) fun j17 => fork v16
 (fin h (rsT (.bool false) (some [])) h6 l7)
 (j17 [(nt vs5 0), (nt vs5 1), (nt vs5 2)] h6 l7)) fun j4 =>
 ob (bI .eql x0 (.int .i64 7)) fun v66 =>
 jn3 (fun vs68 h69 l70 =>
 j4 [(nt vs68 0), (nt vs68 1), (nt vs68 2), (nt vs68 3), (nt vs68 4), (nt vs68 5), (nt vs68 6), (nt vs68 7)] h69 l70) fun j67 => fork v66
 (ob (rFld 0 v0) fun v71 =>
 ob (rLd1 h3.get v71) fun v72 =>
 ob (bI .eql v72 (.int .i64 0)) fun v73 =>
 fin h (rsT v73 (some [])) h3 [])
 (ob (bI .eql x0 (.int .i64 8)) fun v74 =>
 jn3 (fun vs76 h77 l78 =>
 j67 [(nt vs76 0), (nt vs76 1), (nt vs76 2), (nt vs76 3), (nt vs76 4), (nt vs76 5), (nt vs76 6), (nt vs76 7)] h77 l78) fun j75 => fork v74
 (ob (rFld 0 v0) fun v79 =>
 ob (rLd1 h3.get v79) fun v80 =>
 ob (bI .neq v80 (.int .i64 0)) fun v81 =>
 fin h (rsT v81 (some [])) h3 [])
 (j75 [x0, v0, v2, poison, poison, poison, poison, poison] h3 []))

-- 70 asterism/bitmap.Or
noncomputable def F_k70_L506 (call : CallF) (lp : LoopF) : List Value → H → Option LOut := fun vs29 h30 =>
 ob (bI .lss (nt vs29 4) (nt vs29 3)) fun v31 =>
 jn3 (fun vs33 h34 l35 =>
 jn3 (fun vs37 h38 l39 =>
 ob (bI .add (nt vs37 4) (.int .i64 1)) fun v40 =>
 some ⟨.normal, [(nt vs37 0), (nt vs37 1), (nt vs37 2), (nt vs37 3), v40], h38, l39⟩) fun j36 =>
 ob (rIdxS 2 (nt vs33 2) (nt vs33 4)) fun v41 =>
 ob (rLdA h34.get 2 v41) fun v42 =>
 al (aNew h34.n T_A2i64 [(.int .i64 0), (.int .i64 0)]) h34 fun v43 h44 =>
 hv (rStore h44 2 v43 v42) fun v45 h46 l47 =>
 ob (rIdxA 2 1 v43 (.int .i64 0)) fun v48 =>
 ob (rLd1 h46.get v48) fun v49 =>
 ob (rIdxA 2 1 v43 (.int .i64 1)) fun v50 =>
 ob (rLd1 h46.get v50) fun v51 =>
 hv (call (.fn N_k107) [(nt vs33 1), v49, v51] h46) fun v52 h53 l54 =>
 j36 [(nt vs33 0), (nt vs33 1), (nt vs33 2), (nt vs33 3), (nt vs33 4)] h53 (l54 ++ (l47 ++ l35))) fun j32 => fork v31
 (j32 [(nt vs29 0), (nt vs29 1), (nt vs29 2), (nt vs29 3), (nt vs29 4)] h30 [])
 (some ⟨(.exit 0), [(nt vs29 0), (nt vs29 1), (nt vs29 2), (nt vs29 3), (nt vs29 4)], h30, []⟩)
noncomputable def F_k70 (call : CallF) (lp : LoopF) (x0 : Value) (x1 : Value) (h : H) : Option (Value × H × List Nat) :=
 al (aBx h.n T_bitmap_Map 1 x0) h fun v0 h1 =>
 al (aBx h1.n T_bitmap_Map 1 x1) h1 fun v2 h3 =>
 al (aNew h3.n T_bitmap_Map [(.slice none 0 0)]) h3 fun v4 h5 =>
 ob (rFld 0 v0) fun v6 =>
 ob (rLd1 h5.get v6) fun v7 =>
 ob (rFld 0 v2) fun v8 =>
 ob (rLd1 h5.get v8) fun v9 =>
 al (aBuildS pgB h5.n T_LLA2i64 2 [(0, v7), (1, v9)]) h5 fun v10 h11 =>
 hv (call (.fn N_k120) [v10] h11) fun v12 h13 l14 =>
 hv (call (.fn N_k121) [v12, (.func (.func N_k122) #[] #[])] h13) fun v15 h16 l17 =>
 al (aNew h16.n T_bitmap_Map [(.slice none 0 0)]) h16 fun v18 h19 =>
 ob (rLenL v12) fun v20 =>
 jn3 (fun vs22 h23 l24 =>
 ob (rLdA h23.get 1 (nt vs22 1)) fun v25 =>
 hv (rStore h23 1 (nt vs22 0) v25) fun v26 h27 l28 =>
 fin h (rsK (rLdA h27.get 1 (nt vs22 0)) (some [])) h27 (l28 ++ l24)) fun j21 =>
 ob (lp (F_k70_L506 call lp) [v4, v18, v12, v20, (.int .i64 0)] h19) fun o55 =>
 onEx o55.ex (j21 [(nt o55.vs 0), (nt o55.vs 1)] o55.h (o55.lg ++ (l17 ++ (l14 ++ [])))) (fun i56 => bif Nat.beq i56 0 then j21 [(nt o55.vs 0), (nt o55.vs 1)] o55.h (o55.lg ++ (l17 ++ (l14 ++ []))) else none) (fin h (rsK (rLdA o55.h.get 1 (nt o55.vs 0)) (some [])) o55.h (o55.lg ++ (l17 ++ (l14 ++ []))))

-- 71 asterism/asterismlaw13.begun
noncomputable def F_k71 (call : CallF) (lp : LoopF) (h : H) : Option (Value × H × List Nat) :=
 hv (call (.fn N_k17) [] h) fun v0 h1 l2 =>
 ob (rExtract 0 v0) fun v3 =>
 ob (rExtract 1 v0) fun v4 =>
 ob (binV pgB.ty (tyD (.pointer 0)) .eql v3 (.pointer none)) fun v5 =>
 gP (gd v5 false) (some v3) fun v6 =>
 hv (gV (gd v5 false) (call (.fn N_k20) [v6, (.string ⟨#[108, 97, 110, 100]⟩)] h1) h1) fun v7 h8 l9 =>
 gP (gd v5 false) (binV pgB.ty (tyD (.pointer 0)) .eql v7 (.pointer none)) fun v10 =>
 ob (rPick v5 (.bool true) v10) fun v11 =>
 jn3 (fun vs13 h14 l15 =>
 hv (call (.fn N_k123) [(.int .i64 5)] h14) fun v16 h17 l18 =>
 hv (call (.fn N_k124) [(.string ⟨#[97]⟩)] h17) fun v19 h20 l21 =>
 al (aBuildS pgB h20.n T_Lapi_Value 2 [(0, v16), (1, v19)]) h20 fun v22 h23 =>
 ob (oBuild pgB T_api_Op [(0, (.int .i64 1)), (1, (.string ⟨#[108, 97, 110, 100]⟩)), (4, v22)]) fun v24 =>
 hv (call (.fn N_k124) [(.string ⟨#[98]⟩)] h23) fun v25 h26 l27 =>
 al (aBuildS pgB h26.n T_Lapi_Value 1 [(0, v25)]) h26 fun v28 h29 =>
 ob (oBuild pgB T_api_Op [(0, (.int .i64 3)), (1, (.string ⟨#[108, 97, 110, 100]⟩)), (3, (.string ⟨#[110, 97, 109, 101]⟩)), (4, v28)]) fun v30 =>
 al (aBuildS pgB h29.n T_Lapi_Op 2 [(0, v24), (1, v30)]) h29 fun v31 h32 =>
 hv (call (.fn N_k42) [(nt vs13 0), v31] h32) fun v33 h34 l35 =>
 ob (rExtract 0 v33) fun v36 =>
 ob (rExtract 1 v33) fun v37 =>
 al (aNew h34.n T_api_Fault [(.int .i64 0), (.int .i64 0), (.string ⟨#[]⟩), (.int .i64 0), (.string ⟨#[]⟩)]) h34 fun v38 h39 =>
 hv (rStore h39 5 v38 v37) fun v40 h41 l42 =>
 ob (oBuild pgB T_api_Op [(0, (.int .i64 2)), (1, (.string ⟨#[108, 97, 110, 100]⟩))]) fun v43 =>
 ob (oBuild pgB T_api_Op [(0, (.int .i64 2)), (1, (.string ⟨#[108, 97, 110, 100]⟩))]) fun v44 =>
 al (aBuildS pgB h41.n T_Lapi_Op 2 [(0, v43), (1, v44)]) h41 fun v45 h46 =>
 hv (call (.fn N_k42) [(nt vs13 0), v45] h46) fun v47 h48 l49 =>
 ob (rExtract 0 v47) fun v50 =>
 ob (rExtract 1 v47) fun v51 =>
 al (aNew h48.n T_api_Fault [(.int .i64 0), (.int .i64 0), (.string ⟨#[]⟩), (.int .i64 0), (.string ⟨#[]⟩)]) h48 fun v52 h53 =>
 hv (rStore h53 5 v52 v51) fun v54 h55 l56 =>
 hv (call (.fn N_k42) [(nt vs13 0), (.slice none 0 0)] h55) fun v57 h58 l59 =>
 ob (rExtract 0 v57) fun v60 =>
 ob (rExtract 1 v57) fun v61 =>
 al (aNew h58.n T_api_Fault [(.int .i64 0), (.int .i64 0), (.string ⟨#[]⟩), (.int .i64 0), (.string ⟨#[]⟩)]) h58 fun v62 h63 =>
 hv (rStore h63 5 v62 v61) fun v64 h65 l66 =>
 hv (call (.fn N_k125) [] h65) fun v67 h68 l69 =>
 gP (gd v67 true) (rFld 0 v38) fun v70 =>
 gP (gd v67 true) (rLd1 h68.get v70) fun v71 =>
 gP (gd v67 true) (bI .eql v71 (.int .i64 0)) fun v72 =>
 ob (rPick v67 v72 (.bool false)) fun v73 =>
 gP (gd v73 true) (some v36) fun v74 =>
 gP (gd v73 true) (rLenL v74) fun v75 =>
 gP (gd v73 true) (bI .eql v75 (.int .i64 1)) fun v76 =>
 ob (rPick v73 v76 (.bool false)) fun v77 =>
 gP (gd v77 true) (some v36) fun v78 =>
 gP (gd v77 true) (rIdxS 1 v78 (.int .i64 0)) fun v79 =>
 gP (gd v77 true) (rLd1 h68.get v79) fun v80 =>
 gP (gd v77 true) (bI .eql v80 (.int .i64 0)) fun v81 =>
 ob (rPick v77 v81 (.bool false)) fun v82 =>
 gP (gd v82 true) (rFld 0 v52) fun v83 =>
 gP (gd v82 true) (rLd1 h68.get v83) fun v84 =>
 gP (gd v82 true) (bI .eql v84 (.int .i64 6)) fun v85 =>
 ob (rPick v82 v85 (.bool false)) fun v86 =>
 gP (gd v86 true) (rFld 1 v52) fun v87 =>
 gP (gd v86 true) (rLd1 h68.get v87) fun v88 =>
 gP (gd v86 true) (bI .eql v88 (.int .i64 1)) fun v89 =>
 ob (rPick v86 v89 (.bool false)) fun v90 =>
 gP (gd v90 true) (rFld 2 v52) fun v91 =>
 gP (gd v90 true) (rLd1 h68.get v91) fun v92 =>
 gP (gd v90 true) (binV pgB.ty (tyD .string) .eql v92 (.string ⟨#[108, 97, 110, 100]⟩)) fun v93 =>
 ob (rPick v90 v93 (.bool false)) fun v94 =>
 gP (gd v94 true) (rFld 0 v62) fun v95 =>
 gP (gd v94 true) (rLd1 h68.get v95) fun v96 =>
 gP (gd v94 true) (bI .eql v96 (.int .i64 5)) fun v97 =>
 ob (rPick v94 v97 (.bool false)) fun v98 =>
 fin h (rsT v98 (some [])) h68 (l69 ++ (l66 ++ (l59 ++ (l56 ++ (l49 ++ (l42 ++ (l35 ++ (l27 ++ (l21 ++ (l18 ++ l15))))))))))) fun j12 => fork v11
 (fin h (rsT (.bool false) (some [])) h8 (l9 ++ (l2 ++ [])))
 (j12 [v3, poison, poison, poison, poison, poison, poison, poison, poison, poison, poison, poison, poison, poison, poison, poison, poison, poison, poison, poison, poison, poison, poison] h8 (l9 ++ (l2 ++ [])))

-- 72 asterism/asterismlaw14.begun
noncomputable def F_k72 (call : CallF) (lp : LoopF) (h : H) : Option (Value × H × List Nat) :=
 hv (call (.fn N_k17) [] h) fun v0 h1 l2 =>
 ob (rExtract 0 v0) fun v3 =>
 ob (rExtract 1 v0) fun v4 =>
 ob (binV pgB.ty (tyD (.pointer 0)) .eql v3 (.pointer none)) fun v5 =>
 gP (gd v5 false) (some v3) fun v6 =>
 hv (gV (gd v5 false) (call (.fn N_k20) [v6, (.string ⟨#[115, 104, 111, 112]⟩)] h1) h1) fun v7 h8 l9 =>
 gP (gd v5 false) (binV pgB.ty (tyD (.pointer 0)) .eql v7 (.pointer none)) fun v10 =>
 ob (rPick v5 (.bool true) v10) fun v11 =>
 jn3 (fun vs13 h14 l15 =>
 hv (call (.fn N_k11) [(nt vs13 0)] h14) fun v16 h17 l18 =>
 al (aNew h17.n T_api_Fault [(.int .i64 0), (.int .i64 0), (.string ⟨#[]⟩), (.int .i64 0), (.string ⟨#[]⟩)]) h17 fun v19 h20 =>
 hv (rStore h20 5 v19 v16) fun v21 h22 l23 =>
 hv (call (.fn N_k127) [(.int .i64 1)] h22) fun v24 h25 l26 =>
 hv (call (.fn N_k128) [(.string ⟨#[120]⟩)] h25) fun v27 h28 l29 =>
 hv (call (.fn N_k128) [(.string ⟨#[110]⟩)] h28) fun v30 h31 l32 =>
 ob (oBuild pgB T_api_Value []) fun v33 =>
 al (aBuildS pgB h31.n T_Lapi_Value 4 [(0, v24), (1, v27), (2, v30), (3, v33)]) h31 fun v34 h35 =>
 hv (call (.fn N_k126) [(.string ⟨#[115, 104, 111, 112]⟩), v34] h35) fun v36 h37 l38 =>
 hv (call (.fn N_k127) [(.int .i64 2)] h37) fun v39 h40 l41 =>
 hv (call (.fn N_k128) [(.string ⟨#[120]⟩)] h40) fun v42 h43 l44 =>
 hv (call (.fn N_k128) [(.string ⟨#[115]⟩)] h43) fun v45 h46 l47 =>
 ob (oBuild pgB T_api_Value []) fun v48 =>
 al (aBuildS pgB h46.n T_Lapi_Value 4 [(0, v39), (1, v42), (2, v45), (3, v48)]) h46 fun v49 h50 =>
 hv (call (.fn N_k126) [(.string ⟨#[115, 104, 111, 112]⟩), v49] h50) fun v51 h52 l53 =>
 al (aBuildS pgB h52.n T_Lapi_Op 2 [(0, v36), (1, v51)]) h52 fun v54 h55 =>
 hv (call (.fn N_k60) [(nt vs13 0), (nt vs13 1), v54] h55) fun v56 h57 l58 =>
 hv (call (.fn N_k11) [(nt vs13 0)] h57) fun v59 h60 l61 =>
 al (aNew h60.n T_api_Fault [(.int .i64 0), (.int .i64 0), (.string ⟨#[]⟩), (.int .i64 0), (.string ⟨#[]⟩)]) h60 fun v62 h63 =>
 hv (rStore h63 5 v62 v59) fun v64 h65 l66 =>
 hv (call (.fn N_k125) [] h65) fun v67 h68 l69 =>
 gP (gd v67 true) (rFld 0 v19) fun v70 =>
 gP (gd v67 true) (rLd1 h68.get v70) fun v71 =>
 gP (gd v67 true) (bI .eql v71 (.int .i64 0)) fun v72 =>
 ob (rPick v67 v72 (.bool false)) fun v73 =>
 gP (gd v73 true) (rFld 0 v62) fun v74 =>
 gP (gd v73 true) (rLd1 h68.get v74) fun v75 =>
 gP (gd v73 true) (bI .eql v75 (.int .i64 10)) fun v76 =>
 ob (rPick v73 v76 (.bool false)) fun v77 =>
 gP (gd v77 true) (rFld 2 v62) fun v78 =>
 gP (gd v77 true) (rLd1 h68.get v78) fun v79 =>
 gP (gd v77 true) (binV pgB.ty (tyD .string) .eql v79 (.string ⟨#[115, 104, 111, 112]⟩)) fun v80 =>
 ob (rPick v77 v80 (.bool false)) fun v81 =>
 gP (gd v81 true) (rFld 3 v62) fun v82 =>
 gP (gd v81 true) (rLd1 h68.get v82) fun v83 =>
 gP (gd v81 true) (bI .eql v83 (.int .i64 1)) fun v84 =>
 ob (rPick v81 v84 (.bool false)) fun v85 =>
 gP (gd v85 true) (rFld 4 v62) fun v86 =>
 gP (gd v85 true) (rLd1 h68.get v86) fun v87 =>
 gP (gd v85 true) (binV pgB.ty (tyD .string) .eql v87 (.string ⟨#[122, 111, 110, 101]⟩)) fun v88 =>
 ob (rPick v85 v88 (.bool false)) fun v89 =>
 gP (gd v89 true) (some (nt vs13 1)) fun v90 =>
 hv (gV (gd v89 true) (call (.fn N_k46) [v90] h68) h68) fun v91 h92 l93 =>
 gP (gd v89 true) (rPart1 0 v91) fun v94 =>
 gP (gd v89 true) (bI .eql v94 (.int .i64 10)) fun v95 =>
 ob (rPick v89 v95 (.bool false)) fun v96 =>
 fin h (rsT v96 (some [])) h92 (l93 ++ (l69 ++ (l66 ++ (l61 ++ (l58 ++ (l53 ++ (l47 ++ (l44 ++ (l41 ++ (l38 ++ (l32 ++ (l29 ++ (l26 ++ (l23 ++ (l18 ++ l15)))))))))))))))) fun j12 => fork v11
 (fin h (rsT (.bool false) (some [])) h8 (l9 ++ (l2 ++ [])))
 (j12 [v3, v4, poison, poison, poison, poison, poison, poison, poison, poison, poison, poison, poison, poison, poison, poison, poison, poison, poison, poison, poison] h8 (l9 ++ (l2 ++ [])))

-- 73 (*asterism/table.Table).Form
noncomputable def F_k73_L1018 (call : CallF) (lp : LoopF) : List Value → H → Option LOut := fun vs44 h45 =>
 ob (bI .lss (nt vs44 3) (nt vs44 2)) fun v46 =>
 jn3 (fun vs48 h49 l50 =>
 jn3 (fun vs52 h53 l54 =>
 ob (bI .add (nt vs52 3) (.int .i64 1)) fun v55 =>
 some ⟨.normal, [(nt vs52 0), (nt vs52 1), (nt vs52 2), v55], h53, l54⟩) fun j51 =>
 ob (rFld 3 (nt vs48 1)) fun v56 =>
 ob (rLd1 h49.get v56) fun v57 =>
 ob (rFld 3 (nt vs48 1)) fun v58 =>
 ob (rLd1 h49.get v58) fun v59 =>
 ob (rIdxS 2 v59 (nt vs48 3)) fun v60 =>
 ob (rFld 0 v60) fun v61 =>
 ob (rLd1 h49.get v61) fun v62 =>
 hv (call (.fn N_k131) [v62] h49) fun v63 h64 l65 =>
 ob (rIdxS 2 v57 (nt vs48 3)) fun v66 =>
 ob (rFld 0 v66) fun v67 =>
 hv (rStore h64 1 v67 v63) fun v68 h69 l70 =>
 dr [0, 1, 0, 0, 8, 0, 56, 120, 248, 504, 1023, 2047, 4095] [mP h49, mR h49 (rdP v56), mP h49, mP h49, mR h49 (rdP v58), mP h49, mP h49, mP h49, mR h49 (rdP v61), mH h49 (rdL [v62]) l65 h64, mP h64, mP h64, mH h64 [] l70 h69] fun l71 =>
 j51 [(nt vs48 0), (nt vs48 1), (nt vs48 2), (nt vs48 3)] h69 (l71 ++ l50)) fun j47 => fork v46
 (j47 [(nt vs44 0), (nt vs44 1), (nt vs44 2), (nt vs44 3)] h45 [])
 (some ⟨(.exit 0), [(nt vs44 0), (nt vs44 1), (nt vs44 2), (nt vs44 3)], h45, []⟩)
noncomputable def F_k73 (call : CallF) (lp : LoopF) (x0 : Value) (h : H) : Option (Value × H × List Nat) :=
 al (aNew h.n T_api_Table [(.string ⟨#[]⟩), (.slice none 0 0), (.string ⟨#[]⟩), (.slice none 0 0)]) h fun v0 h1 =>
 ob (binV pgB.ty (tyD (.pointer 0)) .eql x0 (.pointer none)) fun v2 =>
 jn3 (fun vs4 h5 l6 =>
 ob (rNil (nt vs4 0)) fun v7 =>
 ob (rFld 0 v7) fun v8 =>
 ob (rLdA h5.get 4 v8) fun v9 =>
 al (aNew h5.n T_api_Table [(.string ⟨#[]⟩), (.slice none 0 0), (.string ⟨#[]⟩), (.slice none 0 0)]) h5 fun v10 h11 =>
 hv (rStore h11 4 v10 v9) fun v12 h13 l14 =>
 ob (rFld 1 v10) fun v15 =>
 ob (rLd1 h13.get v15) fun v16 =>
 hv (call (.fn N_k129) [v16] h13) fun v17 h18 l19 =>
 ob (rFld 1 v10) fun v20 =>
 hv (rStore h18 1 v20 v17) fun v21 h22 l23 =>
 ob (rFld 3 v10) fun v24 =>
 ob (rLd1 h22.get v24) fun v25 =>
 hv (call (.fn N_k130) [v25] h22) fun v26 h27 l28 =>
 ob (rFld 3 v10) fun v29 =>
 hv (rStore h27 1 v29 v26) fun v30 h31 l32 =>
 ob (rFld 3 v10) fun v33 =>
 ob (rLd1 h31.get v33) fun v34 =>
 ob (rLenL v34) fun v35 =>
 jn3 (fun vs37 h38 l39 =>
 ob (rLdA h38.get 4 (nt vs37 1)) fun v40 =>
 hv (rStore h38 4 (nt vs37 0) v40) fun v41 h42 l43 =>
 fin h (rsK (rLdA h42.get 4 (nt vs37 0)) (some [])) h42 (l43 ++ l39)) fun j36 =>
 ob (lp (F_k73_L1018 call lp) [(nt vs4 1), v10, v35, (.int .i64 0)] h31) fun o72 =>
 onEx o72.ex (j36 [(nt o72.vs 0), (nt o72.vs 1)] o72.h (o72.lg ++ (l32 ++ (l28 ++ (l23 ++ (l19 ++ (l14 ++ l6))))))) (fun i73 => bif Nat.beq i73 0 then j36 [(nt o72.vs 0), (nt o72.vs 1)] o72.h (o72.lg ++ (l32 ++ (l28 ++ (l23 ++ (l19 ++ (l14 ++ l6)))))) else none) (fin h (rsK (rLdA o72.h.get 4 (nt o72.vs 0)) (some [])) o72.h (o72.lg ++ (l32 ++ (l28 ++ (l23 ++ (l19 ++ (l14 ++ l6)))))))) fun j3 => fork v2
 (ob (oBuild pgB T_api_Table []) fun v74 =>
 hv (rStore h1 4 v0 v74) fun v75 h76 l77 =>
 fin h (rsK (rLdA h76.get 4 v0) (some [])) h76 (l77 ++ []))
 (j3 [x0, v0] h1 [])

-- 74 (*asterism/table.Table).Words
noncomputable def F_k74 (call : CallF) (lp : LoopF) (x0 : Value) (x1 : Value) (h : H) : Option (Value × H × List Nat) :=
 hv (call (.fn N_k132) [x0, x1] h) fun v0 h1 l2 =>
 ob (bI .lss v0 (.int .i64 0)) fun v3 =>
 jn3 (fun vs5 h6 l7 =>
 ob (rNil (nt vs5 0)) fun v8 =>
 ob (rFld 4 v8) fun v9 =>
 ob (rLd1 h6.get v9) fun v10 =>
 ob (rIdxS 1 v10 (nt vs5 1)) fun v11 =>
 ob (rLd1 h6.get v11) fun v12 =>
 hv (call (.fn N_k133) [v12] h6) fun v13 h14 l15 =>
 fin h (rsT v13 (some [])) h14 (l15 ++ l7)) fun j4 => fork v3
 (fin h (rsT (.int .i64 0) (some [])) h1 (l2 ++ []))
 (j4 [x0, v0] h1 (l2 ++ []))

-- 75 (asterism/bitmap.Map).All$1
noncomputable def F_k75_L3686 (call : CallF) (lp : LoopF) : List Value → H → Option LOut := fun vs32 h33 =>
 ob (rIdxA 2 1 (nt vs32 1) (.int .i64 1)) fun v34 =>
 ob (rLd1 h33.get v34) fun v35 =>
 ob (bI .lss (nt vs32 2) v35) fun v36 =>
 jn3 (fun vs38 h39 l40 =>
 jn3 (fun vs42 h43 l44 =>
 ob (bI .add (nt vs42 2) (.int .i64 1)) fun v45 =>
 some ⟨.normal, [(nt vs42 0), (nt vs42 1), v45, (nt vs42 3), (nt vs42 4), (nt vs42 5)], h43, l44⟩) fun j41 =>
 hv (callV call h39 (nt vs38 0) [(nt vs38 2)]) fun v46 h47 l48 =>
 ob (unV .not v46) fun v49 =>
 jn3 (fun vs51 h52 l53 =>
 j41 [(nt vs51 0), (nt vs51 1), (nt vs51 2), (nt vs51 3), (nt vs51 4), (nt vs51 5)] h52 l53) fun j50 => fork v49
 (some ⟨.ret, [(nt vs38 0), (nt vs38 1), (nt vs38 2), (nt vs38 3), (nt vs38 4), (nt vs38 5)], h47, (l48 ++ l40)⟩)
 (j50 [(nt vs38 0), (nt vs38 1), (nt vs38 2), (nt vs38 3), (nt vs38 4), (nt vs38 5)] h47 (l48 ++ l40))) fun j37 => fork v36
 (j37 [(nt vs32 0), (nt vs32 1), (nt vs32 2), (nt vs32 3), (nt vs32 4), (nt vs32 5)] h33 [])
 (some ⟨(.exit 2), [(nt vs32 0), (nt vs32 1), (nt vs32 2), (nt vs32 3), (nt vs32 4), (nt vs32 5)], h33, []⟩)
noncomputable def F_k75_L14 (call : CallF) (lp : LoopF) : List Value → H → Option LOut := fun vs7 h8 =>
 ob (bI .lss (nt vs7 3) (nt vs7 2)) fun v9 =>
 jn3 (fun vs11 h12 l13 =>
 jn3 (fun vs15 h16 l17 =>
 ob (bI .add (nt vs15 3) (.int .i64 1)) fun v18 =>
 some ⟨.normal, [(nt vs15 0), (nt vs15 1), (nt vs15 2), v18], h16, l17⟩) fun j14 =>
 ob (rIdxS 2 (nt vs11 1) (nt vs11 3)) fun v19 =>
 ob (rLdA h12.get 2 v19) fun v20 =>
 al (aNew h12.n T_A2i64 [(.int .i64 0), (.int .i64 0)]) h12 fun v21 h22 =>
 hv (rStore h22 2 v21 v20) fun v23 h24 l25 =>
 ob (rIdxA 2 1 v21 (.int .i64 0)) fun v26 =>
 ob (rLd1 h24.get v26) fun v27 =>
 jn3 (fun vs29 h30 l31 =>
 j14 [(nt vs29 0), (nt vs29 1), (nt vs29 2), (nt vs29 3)] h30 l31) fun j28 =>
 ob (lp (F_k75_L3686 call lp) [(nt vs11 0), v21, v27, (nt vs11 1), (nt vs11 2), (nt vs11 3)] h24) fun o54 =>
 onEx o54.ex (j28 [(nt o54.vs 0), (nt o54.vs 3), (nt o54.vs 4), (nt o54.vs 5)] o54.h (o54.lg ++ (l25 ++ l13))) (fun i55 => bif Nat.beq i55 2 then j28 [(nt o54.vs 0), (nt o54.vs 3), (nt o54.vs 4), (nt o54.vs 5)] o54.h (o54.lg ++ (l25 ++ l13)) else bif Nat.beq i55 1 then j14 [(nt o54.vs 0), (nt o54.vs 3), (nt o54.vs 4), (nt o54.vs 5)] o54.h (o54.lg ++ (l25 ++ l13)) else some ⟨(.exit i55), [(nt o54.vs 0), (nt o54.vs 3), (nt o54.vs 4), (nt o54.vs 5)], o54.h, (o54.lg ++ (l25 ++ l13))⟩) (some ⟨.ret, [(nt o54.vs 0), (nt o54.vs 3), (nt o54.vs 4), (nt o54.vs 5)], o54.h, (o54.lg ++ (l25 ++ l13))⟩)) fun j10 => fork v9
 (j10 [(nt vs7 0), (nt vs7 1), (nt vs7 2), (nt vs7 3)] h8 [])
 (some ⟨(.exit 0), [(nt vs7 0), (nt vs7 1), (nt vs7 2), (nt vs7 3)], h8, []⟩)
noncomputable def F_k75 (call : CallF) (lp : LoopF) (x0 : Value) (x1 : Value) (h : H) : Option (Value × H × List Nat) :=
 ob (rFld 0 x1) fun v0 =>
 ob (rLd1 h.get v0) fun v1 =>
 ob (rLenL v1) fun v2 =>
 jn3 (fun vs4 h5 l6 =>
 fin h (some []) h5 l6) fun j3 =>
 ob (lp (F_k75_L14 call lp) [x0, v1, v2, (.int .i64 0)] h) fun o56 =>
 onEx o56.ex (j3 [] o56.h (o56.lg ++ [])) (fun i57 => bif Nat.beq i57 0 then j3 [] o56.h (o56.lg ++ []) else none) (fin h (some []) o56.h (o56.lg ++ []))

-- 76 (*asterism/table.Table).Get
noncomputable def F_k76 (call : CallF) (lp : LoopF) (x0 : Value) (x1 : Value) (x2 : Value) (h : H) : Option (Value × H × List Nat) :=
 al (aNew h.n T_api_Value [(.int .i64 0), (.int .i64 0), (.string ⟨#[]⟩)]) h fun v0 h1 =>
 hv (call (.fn N_k132) [x0, x2] h1) fun v2 h3 l4 =>
 ob (bI .lss v2 (.int .i64 0)) fun v5 =>
 gP (gd v5 false) (some x0) fun v6 =>
 gP (gd v5 false) (rNil v6) fun v7 =>
 gP (gd v5 false) (rFld 5 v7) fun v8 =>
 gP (gd v5 false) (rLdA h3.get 1 v8) fun v9 =>
 gP (gd v5 false) (some x1) fun v10 =>
 hv (gV (gd v5 false) (call (.fn N_k65) [v9, v10] h3) h3) fun v11 h12 l13 =>
 gP (gd v5 false) (unV .not v11) fun v14 =>
 ob (rPick v5 (.bool true) v14) fun v15 =>
 jn3 (fun vs17 h18 l19 =>
 ob (rNil (nt vs17 0)) fun v20 =>
 ob (rFld 4 v20) fun v21 =>
 ob (rLd1 h18.get v21) fun v22 =>
 ob (rIdxS 1 v22 (nt vs17 3)) fun v23 =>
 ob (rLd1 h18.get v23) fun v24 =>
 hv (call (.fn N_k134) [v24, (nt vs17 1)] h18) fun v25 h26 l27 =>
 ob (rExtract 0 v25) fun v28 =>
 ob (rExtract 1 v25) fun v29 =>
 hv (rStore h26 3 (nt vs17 2) v28) fun v30 h31 l32 =>
 fin h (rsK (rLdA h31.get 3 (nt vs17 2)) (rsT v29 (some []))) h31 (l32 ++ (l27 ++ l19))) fun j16 => fork v15
 (ob (oBuild pgB T_api_Value []) fun v33 =>
 hv (rStore h12 3 v0 v33) fun v34 h35 l36 =>
 fin h (rsK (rLdA h35.get 3 v0) (rsT (.bool false) (some []))) h35 (l36 ++ (l13 ++ (l4 ++ []))))
 (j16 [x0, x1, v0, v2] h12 (l13 ++ (l4 ++ [])))

-- 77 asterism/check.alike
noncomputable def F_k77 (call : CallF) (lp : LoopF) (x0 : Value) (x1 : Value) (x2 : Value) (x3 : Value) (h : H) : Option (Value × H × List Nat) :=
 hv (call (.fn N_k76) [x0, x1, x3] h) fun v0 h1 l2 =>
 ob (rExtract 0 v0) fun v3 =>
 ob (rExtract 1 v0) fun v4 =>
 al (aNew h1.n T_api_Value [(.int .i64 0), (.int .i64 0), (.string ⟨#[]⟩)]) h1 fun v5 h6 =>
 hv (rStore h6 3 v5 v3) fun v7 h8 l9 =>
 hv (call (.fn N_k76) [x0, x2, x3] h8) fun v10 h11 l12 =>
 ob (rExtract 0 v10) fun v13 =>
 ob (rExtract 1 v10) fun v14 =>
 al (aNew h11.n T_api_Value [(.int .i64 0), (.int .i64 0), (.string ⟨#[]⟩)]) h11 fun v15 h16 =>
 hv (rStore h16 3 v15 v13) fun v17 h18 l19 =>
 ob (rLdA h18.get 3 v5) fun v20 =>
 ob (rLdA h18.get 3 v15) fun v21 =>
 hv (call (.fn N_k135) [v20, v21] h18) fun v22 h23 l24 =>
 fin h (rsT v22 (some [])) h23 (l24 ++ (l19 ++ (l12 ++ (l9 ++ (l2 ++ [])))))

-- 78 (*asterism/data.DB).ByKey
noncomputable def F_k78 (call : CallF) (lp : LoopF) (x0 : Value) (x1 : Value) (x2 : Value) (h : H) : Option (Value × H × List Nat) :=
 al (aBx h.n T_api_Value 3 x2) h fun v0 h1 =>
 al (aNew h1.n T_i64_b [(.int .i64 0)]) h1 fun v2 h3 =>
 al (aNew h3.n T_bool [(.bool false)]) h3 fun v4 h5 =>
 hv (call (.fn N_k20) [x0, x1] h5) fun v6 h7 l8 =>
 al (aNew h7.n T_Ptable_Table [(.pointer none)]) h7 fun v9 h10 =>
 hv (rStore h10 1 v9 v6) fun v11 h12 l13 =>
 ob (rLd1 h12.get v9) fun v14 =>
 hv (call (.fn N_k73) [v14] h12) fun v15 h16 l17 =>
 ob (rPart1 2 v15) fun v18 =>
 al (aNew h16.n T_string [(.string ⟨#[]⟩)]) h16 fun v19 h20 =>
 hv (rStore h20 1 v19 v18) fun v21 h22 l23 =>
 ob (rLd1 h22.get v19) fun v24 =>
 ob (binV pgB.ty (tyD .string) .eql v24 (.string ⟨#[]⟩)) fun v25 =>
 gP (gd v25 false) (rFld 0 v0) fun v26 =>
 gP (gd v25 false) (rLd1 h22.get v26) fun v27 =>
 gP (gd v25 false) (bI .eql v27 (.int .i64 0)) fun v28 =>
 ob (rPick v25 (.bool true) v28) fun v29 =>
 jn3 (fun vs31 h32 l33 =>
 ob (rLd1 h32.get (nt vs31 3)) fun v34 =>
 hv (call (.fn N_k32) [v34] h32) fun v35 h36 l37 =>
 hv (call (.fn N_k37) [v35] h36) fun v38 h39 l40 =>
 jn3 (fun vs42 h43 l44 =>
 hv (rStore h43 1 (nt vs42 0) (.int .i64 0)) fun v45 h46 l47 =>
 hv (rStore h46 1 (nt vs42 1) (.bool false)) fun v48 h49 l50 =>
 fin h (rsK (rLd1 h49.get (nt vs42 0)) (rsK (rLd1 h49.get (nt vs42 1)) (some []))) h49 (l50 ++ (l47 ++ l44))) fun j41 =>
 ob (rangeV call N_k78 ((((Env.ofList [5, 6, 7, 8, 9] vs31).set 26 v34).set 27 v35).set 28 v38) h39 v38 #[29] (rfA (cAt [1, 1, 1, 1, 0, 1, 0] (Tryz.f78.body.getD .skip))) (rfB (cAt [1, 1, 1, 1, 0, 1, 0] (Tryz.f78.body.getD .skip)))) fun r51 =>
 onEx r51.1 (j41 [(nt vs31 1), (nt vs31 2)] r51.2.1 (r51.2.2 ++ (l40 ++ (l37 ++ l33)))) (fun i52 => bif Nat.beq i52 0 then j41 [(nt vs31 1), (nt vs31 2)] r51.2.1 (r51.2.2 ++ (l40 ++ (l37 ++ l33))) else none) (fin h (rsK (rLd1 r51.2.1.get (nt vs31 1)) (rsK (rLd1 r51.2.1.get (nt vs31 2)) (some []))) r51.2.1 (r51.2.2 ++ (l40 ++ (l37 ++ l33))))) fun j30 => fork v29
 (hv (rStore h22 1 v2 (.int .i64 0)) fun v53 h54 l55 =>
 hv (rStore h54 1 v4 (.bool false)) fun v56 h57 l58 =>
 fin h (rsK (rLd1 h57.get v2) (rsK (rLd1 h57.get v4) (some []))) h57 (l58 ++ (l55 ++ (l23 ++ (l17 ++ (l13 ++ (l8 ++ [])))))))
 (j30 [v0, v2, v4, v9, v19] h22 (l23 ++ (l17 ++ (l13 ++ (l8 ++ [])))))

-- 79 asterism/check.breaks
noncomputable def F_k79_L58 (call : CallF) (lp : LoopF) : List Value → H → Option LOut := fun vs15 h16 =>
 ob (bI .lss (nt vs15 7) (nt vs15 6)) fun v17 =>
 jn3 (fun vs19 h20 l21 =>
 jn3 (fun vs23 h24 l25 =>
 ob (bI .add (nt vs23 7) (.int .i64 1)) fun v26 =>
 some ⟨.normal, [(nt vs23 0), (nt vs23 1), (nt vs23 2), (nt vs23 3), (nt vs23 4), (nt vs23 5), (nt vs23 6), v26], h24, l25⟩) fun j22 =>
 ob (rIdxS 1 (nt vs19 5) (nt vs19 7)) fun v27 =>
 ob (rLd1 h20.get v27) fun v28 =>
 hv (call (.fn N_k77) [(nt vs19 0), (nt vs19 1), (nt vs19 2), v28] h20) fun v29 h30 l31 =>
 ob (unV .not v29) fun v32 =>
 jn3 (fun vs34 h35 l36 =>
 j22 [(nt vs34 0), (nt vs34 1), (nt vs34 2), (nt vs34 3), (nt vs34 4), (nt vs34 5), (nt vs34 6), (nt vs34 7)] h35 l36) fun j33 => fork v32
 (some ⟨.ret, [(nt vs19 0), (nt vs19 1), (nt vs19 2), (nt vs19 3), (.bool false), (nt vs19 5), (nt vs19 6), (nt vs19 7)], h30, (l31 ++ l21)⟩)
 (j33 [(nt vs19 0), (nt vs19 1), (nt vs19 2), (nt vs19 3), (nt vs19 4), (nt vs19 5), (nt vs19 6), (nt vs19 7)] h30 (l31 ++ l21))) fun j18 => fork v17
 (j18 [(nt vs15 0), (nt vs15 1), (nt vs15 2), (nt vs15 3), (nt vs15 4), (nt vs15 5), (nt vs15 6), (nt vs15 7)] h16 [])
 (some ⟨(.exit 0), [(nt vs15 0), (nt vs15 1), (nt vs15 2), (nt vs15 3), (nt vs15 4), (nt vs15 5), (nt vs15 6), (nt vs15 7)], h16, []⟩)
noncomputable def F_k79 (call : CallF) (lp : LoopF) (x0 : Value) (x1 : Value) (x2 : Value) (x3 : Value) (h : H) : Option (Value × H × List Nat) :=
 al (aBx h.n T_api_Dep 2 x1) h fun v0 h1 =>
 ob (rFld 0 v0) fun v2 =>
 ob (rLd1 h1.get v2) fun v3 =>
 ob (rLenL v3) fun v4 =>
 jn3 (fun vs6 h7 l8 =>
 ob (rFld 1 (nt vs6 3)) fun v9 =>
 ob (rLd1 h7.get v9) fun v10 =>
 hv (call (.fn N_k77) [(nt vs6 0), (nt vs6 1), (nt vs6 2), v10] h7) fun v11 h12 l13 =>
 ob (unV .not v11) fun v14 =>
 fin h (rsT v14 (some [])) h12 (l13 ++ l8)) fun j5 =>
 ob (lp (F_k79_L58 call lp) [x0, x2, x3, v0, (.bool false), v3, v4, (.int .i64 0)] h1) fun o37 =>
 onEx o37.ex (j5 [(nt o37.vs 0), (nt o37.vs 1), (nt o37.vs 2), (nt o37.vs 3)] o37.h (o37.lg ++ [])) (fun i38 => bif Nat.beq i38 0 then j5 [(nt o37.vs 0), (nt o37.vs 1), (nt o37.vs 2), (nt o37.vs 3)] o37.h (o37.lg ++ []) else none) (fin h (rsT (nt o37.vs 4) (some [])) o37.h (o37.lg ++ []))

-- 81 (*asterism/schema.Schema).Find
noncomputable def F_k81 (call : CallF) (lp : LoopF) (x0 : Value) (x1 : Value) (h : H) : Option (Value × H × List Nat) :=
 al (aBx h.n T_string 1 x1) h fun v0 h1 =>
 al (aNew h1.n T_api_Table [(.string ⟨#[]⟩), (.slice none 0 0), (.string ⟨#[]⟩), (.slice none 0 0)]) h1 fun v2 h3 =>
 ob (binV pgB.ty (tyD (.pointer 0)) .eql x0 (.pointer none)) fun v4 =>
 jn3 (fun vs6 h7 l8 =>
 ob (rNil (nt vs6 0)) fun v9 =>
 ob (rFld 0 v9) fun v10 =>
 ob (rLd1 h7.get v10) fun v11 =>
 ob (oFunc N_k137 #[] #[(nt vs6 1)]) fun v12 =>
 hv (call (.fn N_k136) [v11, v12] h7) fun v13 h14 l15 =>
 ob (bI .lss v13 (.int .i64 0)) fun v16 =>
 jn3 (fun vs18 h19 l20 =>
 ob (rNil (nt vs18 0)) fun v21 =>
 ob (rFld 0 v21) fun v22 =>
 ob (rLd1 h19.get v22) fun v23 =>
 ob (rIdxS 4 v23 (nt vs18 2)) fun v24 =>
 ob (rLdA h19.get 4 v24) fun v25 =>
 hv (call (.fn N_k138) [v25] h19) fun v26 h27 l28 =>
 hv (rStore h27 4 (nt vs18 1) v26) fun v29 h30 l31 =>
 fin h (rsK (rLdA h30.get 4 (nt vs18 1)) (rsT (.bool true) (some []))) h30 (l31 ++ (l28 ++ l20))) fun j17 => fork v16
 (ob (oBuild pgB T_api_Table []) fun v32 =>
 hv (rStore h14 4 (nt vs6 2) v32) fun v33 h34 l35 =>
 fin h (rsK (rLdA h34.get 4 (nt vs6 2)) (rsT (.bool false) (some []))) h34 (l35 ++ (l15 ++ l8)))
 (j17 [(nt vs6 0), (nt vs6 2), v13] h14 (l15 ++ l8))) fun j5 => fork v4
 (ob (oBuild pgB T_api_Table []) fun v36 =>
 hv (rStore h3 4 v2 v36) fun v37 h38 l39 =>
 fin h (rsK (rLdA h38.get 4 v2) (rsT (.bool false) (some []))) h38 (l39 ++ []))
 (j5 [x0, v0, v2] h3 [])

-- 82 (*asterism/schema.Schema).Add
noncomputable def F_k82 (call : CallF) (lp : LoopF) (x0 : Value) (x1 : Value) (h : H) : Option (Value × H × List Nat) :=
 al (aBx h.n T_api_Table 4 x1) h fun v0 h1 =>
 jn3 (fun vs3 h4 l5 =>
 ob (rLdA h4.get 4 (nt vs3 1)) fun v6 =>
 hv (call (.fn N_k142) [(nt vs3 0), v6] h4) fun v7 h8 l9 =>
 ob (bI .neq v7 (.int .i64 0)) fun v10 =>
 jn3 (fun vs12 h13 l14 =>
 ob (rLdA h13.get 4 (nt vs12 1)) fun v15 =>
 hv (call (.fn N_k138) [v15] h13) fun v16 h17 l18 =>
 hv (rStore h17 4 (nt vs12 1) v16) fun v19 h20 l21 =>
 ob (rLdA h20.get 4 (nt vs12 1)) fun v22 =>
 ob (rFld 2 (nt vs12 1)) fun v23 =>
 ob (rLd1 h20.get v23) fun v24 =>
 hv (call (.fn N_k143) [v22, v24] h20) fun v25 h26 l27 =>
 ob (bI .geq v25 (.int .i64 0)) fun v28 =>
 jn3 (fun vs30 h31 l32 =>
 ob (rNil (nt vs30 0)) fun v33 =>
 ob (rFld 0 v33) fun v34 =>
 ob (rLd1 h31.get v34) fun v35 =>
 ob (rLdA h31.get 4 (nt vs30 1)) fun v36 =>
 al (aBuildS pgB h31.n T_Lapi_Table 1 [(0, v36)]) h31 fun v37 h38 =>
 hv (rApp h38 T_api_Table 4 80 [(.string ⟨#[]⟩), (.slice none 0 0), (.string ⟨#[]⟩), (.slice none 0 0)] v35 v37) fun v39 h40 l41 =>
 ob (rNil (nt vs30 0)) fun v42 =>
 ob (rFld 0 v42) fun v43 =>
 hv (rStore h40 1 v43 v39) fun v44 h45 l46 =>
 dr [0, 0, 2, 6, 14, 0, 32, 126, 255, 511, 1023] [mP h31, mP h31, mP h31, mP h31, mR h31 (rdP v34), mR h31 (rdP (nt vs30 1)), mA h31 [], mH h38 (rdL [v35, v37]) l41 h40, mP h40, mP h40, mH h40 [] l46 h45] fun l47 =>
 fin h (rsT (.int .i64 0) (some [])) h45 (l47 ++ l32)) fun j29 => fork v28
 (ob (rFld 1 (nt vs12 1)) fun v48 =>
 ob (rLd1 h26.get v48) fun v49 =>
 ob (rIdxS 4 v49 v25) fun v50 =>
 ob (rFld 2 v50) fun v51 =>
 hv (rStore h26 1 v51 (.bool true)) fun v52 h53 l54 =>
 j29 [(nt vs12 0), (nt vs12 1)] h53 (l54 ++ (l27 ++ (l21 ++ (l18 ++ l14)))))
 (j29 [(nt vs12 0), (nt vs12 1)] h26 (l27 ++ (l21 ++ (l18 ++ l14))))) fun j11 => fork v10
 (fin h (rsT v7 (some [])) h8 (l9 ++ l5))
 (j11 [(nt vs3 0), (nt vs3 1)] h8 (l9 ++ l5))) fun j2 =>
 ob (binV pgB.ty (tyD (.pointer 0)) .eql x0 (.pointer none)) fun v55 =>
 jn3 (fun vs57 h58 l59 =>
 j2 [(nt vs57 0), (nt vs57 1)] h58 l59) fun j56 => fork v55
 (fin h (rsT (.int .i64 6) (some [])) h1 [])
 (ob (rNil x0) fun v60 =>
 ob (rFld 0 v60) fun v61 =>
 ob (rLd1 h1.get v61) fun v62 =>
 ob (rLenL v62) fun v63 =>
 ob (bI .geq v63 (.int .i64 8)) fun v64 =>
 gP (gd v64 false) (rFld 1 v0) fun v65 =>
 gP (gd v64 false) (rLd1 h1.get v65) fun v66 =>
 gP (gd v64 false) (rLenL v66) fun v67 =>
 gP (gd v64 false) (bI .eql v67 (.int .i64 0)) fun v68 =>
 ob (rPick v64 (.bool true) v68) fun v69 =>
 gP (gd v69 false) (rFld 1 v0) fun v70 =>
 gP (gd v69 false) (rLd1 h1.get v70) fun v71 =>
 gP (gd v69 false) (rLenL v71) fun v72 =>
 gP (gd v69 false) (bI .gtr v72 (.int .i64 6)) fun v73 =>
 ob (rPick v69 (.bool true) v73) fun v74 =>
 gP (gd v74 false) (rFld 3 v0) fun v75 =>
 gP (gd v74 false) (rLd1 h1.get v75) fun v76 =>
 gP (gd v74 false) (rLenL v76) fun v77 =>
 gP (gd v74 false) (bI .gtr v77 (.int .i64 3)) fun v78 =>
 ob (rPick v74 (.bool true) v78) fun v79 =>
 jn3 (fun vs81 h82 l83 =>
 j56 [(nt vs81 0), (nt vs81 1)] h82 l83) fun j80 => fork v79
 (fin h (rsT (.int .i64 5) (some [])) h1 [])
 (ob (rLdA h1.get 4 v0) fun v84 =>
 hv (call (.fn N_k139) [x0, v84] h1) fun v85 h86 l87 =>
 ob (unV .not v85) fun v88 =>
 jn3 (fun vs90 h91 l92 =>
 j80 [(nt vs90 0), (nt vs90 1)] h91 l92) fun j89 => fork v88
 (fin h (rsT (.int .i64 3) (some [])) h86 (l87 ++ []))
 (ob (rFld 1 v0) fun v93 =>
 ob (rLd1 h86.get v93) fun v94 =>
 hv (call (.fn N_k140) [v94, (.func (.func N_k141) #[] #[])] h86) fun v95 h96 l97 =>
 jn3 (fun vs99 h100 l101 =>
 j89 [(nt vs99 0), (nt vs99 1)] h100 l101) fun j98 => fork v95
 (fin h (rsT (.int .i64 4) (some [])) h96 (l97 ++ (l87 ++ [])))
 (j98 [x0, v0] h96 (l97 ++ (l87 ++ []))))))

-- 83 (*asterism/table.Table).Copy
noncomputable def F_k83_L64102 (call : CallF) (lp : LoopF) : List Value → H → Option LOut := fun vs57 h58 =>
 ob (bI .lss (nt vs57 9) (nt vs57 8)) fun v59 =>
 jn3 (fun vs61 h62 l63 =>
 jn3 (fun vs65 h66 l67 =>
 ob (bI .add (nt vs65 9) (.int .i64 1)) fun v68 =>
 some ⟨.normal, [(nt vs65 0), (nt vs65 1), (nt vs65 2), (nt vs65 3), (nt vs65 4), (nt vs65 5), (nt vs65 6), (nt vs65 7), (nt vs65 8), v68], h66, l67⟩) fun j64 =>
 hv (call (.fn N_k134) [(nt vs61 4), (nt vs61 9)] h62) fun v69 h70 l71 =>
 ob (rExtract 0 v69) fun v72 =>
 ob (rExtract 1 v69) fun v73 =>
 al (aNew h70.n T_api_Value [(.int .i64 0), (.int .i64 0), (.string ⟨#[]⟩)]) h70 fun v74 h75 =>
 hv (rStore h75 3 v74 v72) fun v76 h77 l78 =>
 ob (rNil (nt vs61 2)) fun v79 =>
 ob (rFld 4 v79) fun v80 =>
 ob (rLd1 h77.get v80) fun v81 =>
 ob (rIdxS 1 v81 (nt vs61 3)) fun v82 =>
 ob (rLd1 h77.get v82) fun v83 =>
 ob (rLdA h77.get 3 v74) fun v84 =>
 hv (call (.fn N_k145) [v83, v84] h77) fun v85 h86 l87 =>
 dr [0, 1, 3, 7, 0, 31, 63, 0, 255] [mP h77, mP h77, mP h77, mR h77 (rdP v80), mP h77, mP h77, mR h77 (rdP v82), mR h77 (rdP v74), mH h77 (rdL [v83, v84]) l87 h86] fun l88 =>
 j64 [(nt vs61 0), (nt vs61 1), (nt vs61 2), (nt vs61 3), (nt vs61 4), (nt vs61 5), (nt vs61 6), (nt vs61 7), (nt vs61 8), (nt vs61 9)] h86 (l88 ++ (l78 ++ (l71 ++ l63)))) fun j60 => fork v59
 (j60 [(nt vs57 0), (nt vs57 1), (nt vs57 2), (nt vs57 3), (nt vs57 4), (nt vs57 5), (nt vs57 6), (nt vs57 7), (nt vs57 8), (nt vs57 9)] h58 [])
 (some ⟨(.exit 2), [(nt vs57 0), (nt vs57 1), (nt vs57 2), (nt vs57 3), (nt vs57 4), (nt vs57 5), (nt vs57 6), (nt vs57 7), (nt vs57 8), (nt vs57 9)], h58, []⟩)
noncomputable def F_k83_L250 (call : CallF) (lp : LoopF) : List Value → H → Option LOut := fun vs36 h37 =>
 ob (bI .lss (nt vs36 5) (nt vs36 4)) fun v38 =>
 jn3 (fun vs40 h41 l42 =>
 jn3 (fun vs44 h45 l46 =>
 ob (bI .add (nt vs44 5) (.int .i64 1)) fun v47 =>
 some ⟨.normal, [(nt vs44 0), (nt vs44 1), (nt vs44 2), (nt vs44 3), (nt vs44 4), v47], h45, l46⟩) fun j43 =>
 ob (rIdxS 1 (nt vs40 3) (nt vs40 5)) fun v48 =>
 ob (rLd1 h41.get v48) fun v49 =>
 hv (call (.fn N_k144) [v49] h41) fun v50 h51 l52 =>
 jn3 (fun vs54 h55 l56 =>
 j43 [(nt vs54 0), (nt vs54 1), (nt vs54 2), (nt vs54 3), (nt vs54 4), (nt vs54 5)] h55 l56) fun j53 =>
 ob (lp (F_k83_L64102 call lp) [(nt vs40 0), (nt vs40 1), (nt vs40 2), (nt vs40 5), v49, (nt vs40 3), (nt vs40 4), (nt vs40 5), v50, (.int .i64 0)] h51) fun o89 =>
 onEx o89.ex (j53 [(nt o89.vs 0), (nt o89.vs 1), (nt o89.vs 2), (nt o89.vs 5), (nt o89.vs 6), (nt o89.vs 7)] o89.h (o89.lg ++ (l52 ++ l42))) (fun i90 => bif Nat.beq i90 2 then j53 [(nt o89.vs 0), (nt o89.vs 1), (nt o89.vs 2), (nt o89.vs 5), (nt o89.vs 6), (nt o89.vs 7)] o89.h (o89.lg ++ (l52 ++ l42)) else bif Nat.beq i90 1 then j43 [(nt o89.vs 0), (nt o89.vs 1), (nt o89.vs 2), (nt o89.vs 5), (nt o89.vs 6), (nt o89.vs 7)] o89.h (o89.lg ++ (l52 ++ l42)) else some ⟨(.exit i90), [(nt o89.vs 0), (nt o89.vs 1), (nt o89.vs 2), (nt o89.vs 5), (nt o89.vs 6), (nt o89.vs 7)], o89.h, (o89.lg ++ (l52 ++ l42))⟩) (some ⟨.ret, [(nt o89.vs 0), (nt o89.vs 1), (nt o89.vs 2), (nt o89.vs 5), (nt o89.vs 6), (nt o89.vs 7)], o89.h, (o89.lg ++ (l52 ++ l42))⟩)) fun j39 => fork v38
 (j39 [(nt vs36 0), (nt vs36 1), (nt vs36 2), (nt vs36 3), (nt vs36 4), (nt vs36 5)] h37 [])
 (some ⟨(.exit 0), [(nt vs36 0), (nt vs36 1), (nt vs36 2), (nt vs36 3), (nt vs36 4), (nt vs36 5)], h37, []⟩)
noncomputable def F_k83 (call : CallF) (lp : LoopF) (x0 : Value) (h : H) : Option (Value × H × List Nat) :=
 ob (binV pgB.ty (tyD (.pointer 0)) .eql x0 (.pointer none)) fun v0 =>
 jn3 (fun vs2 h3 l4 =>
 hv (call (.fn N_k73) [(nt vs2 0)] h3) fun v5 h6 l7 =>
 hv (call (.fn N_k90) [v5] h6) fun v8 h9 l10 =>
 ob (rNil (nt vs2 0)) fun v11 =>
 ob (rFld 4 v11) fun v12 =>
 ob (rLd1 h9.get v12) fun v13 =>
 ob (rLenL v13) fun v14 =>
 jn3 (fun vs16 h17 l18 =>
 ob (rNil (nt vs16 0)) fun v19 =>
 ob (rFld 5 v19) fun v20 =>
 ob (rLdA h17.get 1 v20) fun v21 =>
 ob (rNil (nt vs16 0)) fun v22 =>
 ob (rFld 6 v22) fun v23 =>
 ob (rLd1 h17.get v23) fun v24 =>
 ob (rNil (nt vs16 1)) fun v25 =>
 ob (rFld 5 v25) fun v26 =>
 hv (rStore h17 1 v26 v21) fun v27 h28 l29 =>
 ob (rNil (nt vs16 1)) fun v30 =>
 ob (rFld 6 v30) fun v31 =>
 hv (rStore h28 1 v31 v24) fun v32 h33 l34 =>
 dr [0, 0, 0, 4, 12, 28, 0, 64, 192, 448, 1021, 2045, 4093, 8191, 16383, 32767] [mP h17, mP h17, mP h17, mP h17, mP h17, mR h17 (rdP v20), mP h17, mP h17, mP h17, mR h17 (rdP v23), mP h17, mP h17, mH h17 [] l29 h28, mP h28, mP h28, mH h28 [] l34 h33] fun l35 =>
 fin h (rsT (nt vs16 1) (some [])) h33 (l35 ++ l18)) fun j15 =>
 ob (lp (F_k83_L250 call lp) [(nt vs2 0), (nt vs2 1), v8, v13, v14, (.int .i64 0)] h9) fun o91 =>
 onEx o91.ex (j15 [(nt o91.vs 0), (nt o91.vs 2)] o91.h (o91.lg ++ (l10 ++ (l7 ++ l4)))) (fun i92 => bif Nat.beq i92 0 then j15 [(nt o91.vs 0), (nt o91.vs 2)] o91.h (o91.lg ++ (l10 ++ (l7 ++ l4))) else none) (fin h (rsT (nt o91.vs 1) (some [])) o91.h (o91.lg ++ (l10 ++ (l7 ++ l4))))) fun j1 => fork v0
 (fin h (rsT (.pointer none) (some [])) h [])
 (j1 [x0, (.pointer none)] h [])

-- 84 asterism/batch.one
noncomputable def F_k84 (call : CallF) (lp : LoopF) (x0 : Value) (x1 : Value) (h : H) : Option (Value × H × List Nat) :=
 al (aBx h.n T_api_Op 5 x1) h fun v0 h1 =>
 ob (rFld 1 v0) fun v2 =>
 ob (rLd1 h1.get v2) fun v3 =>
 hv (call (.fn N_k20) [x0, v3] h1) fun v4 h5 l6 =>
 jn3 (fun vs8 h9 l10 =>
 fin h (rsT (.int .i64 (-1)) (rsT (.int .i64 0) (some []))) h9 l10) fun j7 =>
 ob (rFld 0 v0) fun v11 =>
 ob (rLd1 h5.get v11) fun v12 =>
 ob (bI .neq v12 (.int .i64 1)) fun v13 =>
 gP (gd v13 true) (rFld 0 v0) fun v14 =>
 gP (gd v13 true) (rLd1 h5.get v14) fun v15 =>
 gP (gd v13 true) (bI .neq v15 (.int .i64 2)) fun v16 =>
 ob (rPick v13 v16 (.bool false)) fun v17 =>
 gP (gd v17 true) (rFld 0 v0) fun v18 =>
 gP (gd v17 true) (rLd1 h5.get v18) fun v19 =>
 gP (gd v17 true) (bI .neq v19 (.int .i64 3)) fun v20 =>
 ob (rPick v17 v20 (.bool false)) fun v21 =>
 jn3 (fun vs23 h24 l25 =>
 jn3 (fun vs27 h28 l29 =>
 j7 [] h28 l29) fun j26 => fork (nt vs23 2)
 (fin h (rsT (.int .i64 (-1)) (rsT (.int .i64 1) (some []))) h24 l25)
 (ob (binV pgB.ty (tyD (.pointer 0)) .eql (nt vs23 1) (.pointer none)) fun v30 =>
 jn3 (fun vs32 h33 l34 =>
 j26 [] h33 l34) fun j31 => fork v30
 (fin h (rsT (.int .i64 (-1)) (rsT (.int .i64 3) (some []))) h24 l25)
 (ob (rFld 0 (nt vs23 0)) fun v35 =>
 ob (rLd1 h24.get v35) fun v36 =>
 ob (bI .eql v36 (.int .i64 1)) fun v37 =>
 jn3 (fun vs39 h40 l41 =>
 j31 [] h40 l41) fun j38 => fork v37
 (ob (rFld 4 (nt vs23 0)) fun v42 =>
 ob (rLd1 h24.get v42) fun v43 =>
 hv (call (.fn N_k109) [(nt vs23 1), v43] h24) fun v44 h45 l46 =>
 ob (rExtract 0 v44) fun v47 =>
 ob (rExtract 1 v44) fun v48 =>
 fin h (rsT v47 (rsT v48 (some []))) h45 (l46 ++ l25))
 (ob (rFld 0 (nt vs23 0)) fun v49 =>
 ob (rLd1 h24.get v49) fun v50 =>
 ob (bI .eql v50 (.int .i64 3)) fun v51 =>
 jn3 (fun vs53 h54 l55 =>
 j38 [] h54 l55) fun j52 => fork v51
 (ob (rFld 2 (nt vs23 0)) fun v56 =>
 ob (rLd1 h24.get v56) fun v57 =>
 ob (rFld 3 (nt vs23 0)) fun v58 =>
 ob (rLd1 h24.get v58) fun v59 =>
 ob (rFld 4 (nt vs23 0)) fun v60 =>
 ob (rLd1 h24.get v60) fun v61 =>
 ob (rIdxS 3 v61 (.int .i64 0)) fun v62 =>
 ob (rLdA h24.get 3 v62) fun v63 =>
 hv (call (.fn N_k112) [(nt vs23 1), v57, v59, v63] h24) fun v64 h65 l66 =>
 dr [0, 0, 2, 0, 8, 0, 32, 96, 224, 511, 1023, 2047] [mP h24, mP h24, mR h24 (rdP v56), mP h24, mR h24 (rdP v58), mP h24, mR h24 (rdP v60), mP h24, mR h24 (rdP v62), mH h24 (rdL [(nt vs23 1), v57, v59, v63]) l66 h65, mP h65, mP h65] fun l67 =>
 fin h (rsT (.int .i64 (-1)) (rsT v64 (some []))) h65 (l67 ++ l25))
 (ob (rFld 2 (nt vs23 0)) fun v68 =>
 ob (rLd1 h24.get v68) fun v69 =>
 hv (call (.fn N_k63) [(nt vs23 1), v69] h24) fun v70 h71 l72 =>
 ob (unV .not v70) fun v73 =>
 jn3 (fun vs75 h76 l77 =>
 j52 [] h76 l77) fun j74 => fork v73
 (fin h (rsT (.int .i64 (-1)) (rsT (.int .i64 6) (some []))) h71 (l72 ++ l25))
 (j74 [] h71 (l72 ++ l25))))))) fun j22 => fork v21
 (j22 [v0, v4, v21] h5 (l6 ++ []))
 (ob (rFld 0 v0) fun v78 =>
 ob (rLd1 h5.get v78) fun v79 =>
 ob (bI .eql v79 (.int .i64 3)) fun v80 =>
 gP (gd v80 true) (rFld 4 v0) fun v81 =>
 gP (gd v80 true) (rLd1 h5.get v81) fun v82 =>
 gP (gd v80 true) (rLenL v82) fun v83 =>
 gP (gd v80 true) (bI .neq v83 (.int .i64 1)) fun v84 =>
 ob (rPick v80 v84 (.bool false)) fun v85 =>
 j22 [v0, v4, v85] h5 (l6 ++ []))

-- 85 (*asterism/table.Table).Row
noncomputable def F_k85_L250 (call : CallF) (lp : LoopF) : List Value → H → Option LOut := fun vs23 h24 =>
 ob (bI .lss (nt vs23 6) (nt vs23 5)) fun v25 =>
 jn3 (fun vs27 h28 l29 =>
 jn3 (fun vs31 h32 l33 =>
 ob (bI .add (nt vs31 6) (.int .i64 1)) fun v34 =>
 some ⟨.normal, [(nt vs31 0), (nt vs31 1), (nt vs31 2), (nt vs31 3), (nt vs31 4), (nt vs31 5), v34], h32, l33⟩) fun j30 =>
 ob (rIdxS 1 (nt vs27 4) (nt vs27 6)) fun v35 =>
 ob (rLd1 h28.get v35) fun v36 =>
 hv (call (.fn N_k134) [v36, (nt vs27 0)] h28) fun v37 h38 l39 =>
 ob (rExtract 0 v37) fun v40 =>
 ob (rExtract 1 v37) fun v41 =>
 al (aNew h38.n T_api_Value [(.int .i64 0), (.int .i64 0), (.string ⟨#[]⟩)]) h38 fun v42 h43 =>
 hv (rStore h43 3 v42 v40) fun v44 h45 l46 =>
 ob (rLdA h45.get 3 v42) fun v47 =>
 al (aBuildS pgB h45.n T_Lapi_Value 1 [(0, v47)]) h45 fun v48 h49 =>
 hv (rApp h49 T_api_Value 3 32 [(.int .i64 0), (.int .i64 0), (.string ⟨#[]⟩)] (nt vs27 3) v48) fun v50 h51 l52 =>
 j30 [(nt vs27 0), (nt vs27 1), (nt vs27 2), v50, (nt vs27 4), (nt vs27 5), (nt vs27 6)] h51 (l52 ++ (l46 ++ (l39 ++ l29)))) fun j26 => fork v25
 (j26 [(nt vs23 0), (nt vs23 1), (nt vs23 2), (nt vs23 3), (nt vs23 4), (nt vs23 5), (nt vs23 6)] h24 [])
 (some ⟨(.exit 0), [(nt vs23 0), (nt vs23 1), (nt vs23 2), (nt vs23 3), (nt vs23 4), (nt vs23 5), (nt vs23 6)], h24, []⟩)
noncomputable def F_k85 (call : CallF) (lp : LoopF) (x0 : Value) (x1 : Value) (h : H) : Option (Value × H × List Nat) :=
 ob (binV pgB.ty (tyD (.pointer 0)) .eql x0 (.pointer none)) fun v0 =>
 gP (gd v0 false) (some x0) fun v1 =>
 gP (gd v0 false) (rNil v1) fun v2 =>
 gP (gd v0 false) (rFld 5 v2) fun v3 =>
 gP (gd v0 false) (rLdA h.get 1 v3) fun v4 =>
 gP (gd v0 false) (some x1) fun v5 =>
 hv (gV (gd v0 false) (call (.fn N_k65) [v4, v5] h) h) fun v6 h7 l8 =>
 gP (gd v0 false) (unV .not v6) fun v9 =>
 ob (rPick v0 (.bool true) v9) fun v10 =>
 jn3 (fun vs12 h13 l14 =>
 ob (rNil (nt vs12 0)) fun v15 =>
 ob (rFld 4 v15) fun v16 =>
 ob (rLd1 h13.get v16) fun v17 =>
 ob (rLenL v17) fun v18 =>
 jn3 (fun vs20 h21 l22 =>
 fin h (rsT (nt vs20 0) (rsT (.bool true) (some []))) h21 l22) fun j19 =>
 ob (lp (F_k85_L250 call lp) [(nt vs12 1), (nt vs12 2), (nt vs12 3), (.slice none 0 0), v17, v18, (.int .i64 0)] h13) fun o53 =>
 onEx o53.ex (j19 [(nt o53.vs 3)] o53.h (o53.lg ++ l14)) (fun i54 => bif Nat.beq i54 0 then j19 [(nt o53.vs 3)] o53.h (o53.lg ++ l14) else none) (fin h (rsT (nt o53.vs 1) (rsT (nt o53.vs 2) (some []))) o53.h (o53.lg ++ l14))) fun j11 => fork v10
 (fin h (rsT (.slice none 0 0) (rsT (.bool false) (some []))) h7 (l8 ++ []))
 (j11 [x0, x1, (.slice none 0 0), (.bool false)] h7 (l8 ++ []))

-- 88 (*asterism/asterismref12.DB).Words
noncomputable def F_k88_L62618 (call : CallF) (lp : LoopF) : List Value → H → Option LOut := fun vs49 h50 =>
 ob (bI .lss (nt vs49 8) (nt vs49 5)) fun v51 =>
 gP (gd v51 true) (some (nt vs49 7)) fun v52 =>
 ob (rPick v51 v52 (.bool false)) fun v53 =>
 jn3 (fun vs55 h56 l57 =>
 jn3 (fun vs59 h60 l61 =>
 ob (bI .add (nt vs59 8) (.int .i64 1)) fun v62 =>
 some ⟨.normal, [(nt vs59 0), (nt vs59 1), (nt vs59 2), (nt vs59 3), (nt vs59 4), (nt vs59 5), (nt vs59 6), (nt vs59 7), v62, (nt vs59 9)], h60, l61⟩) fun j58 =>
 ob (rNil (nt vs55 0)) fun v63 =>
 ob (rFld 1 v63) fun v64 =>
 ob (rLd1 h56.get v64) fun v65 =>
 ob (rIdxS 1 v65 (nt vs55 1)) fun v66 =>
 ob (rLd1 h56.get v66) fun v67 =>
 ob (rIdxS 2 v67 (nt vs55 7)) fun v68 =>
 ob (rFld 1 v68) fun v69 =>
 ob (rLd1 h56.get v69) fun v70 =>
 ob (rIdxS 3 v70 (nt vs55 2)) fun v71 =>
 ob (rLdA h56.get 3 v71) fun v72 =>
 ob (rLdA h56.get 3 (nt vs55 6)) fun v73 =>
 hv (call (.fn N_k147) [v72, v73] h56) fun v74 h75 l76 =>
 ob (unV .not v74) fun v77 =>
 dr [0, 1, 3, 7, 0, 31, 63, 0, 255, 511, 1023, 0, 4095, 8191, 0, 32767, 65535, 131071] [mP h56, mP h56, mP h56, mR h56 (rdP v64), mP h56, mP h56, mR h56 (rdP v66), mP h56, mP h56, mP h56, mR h56 (rdP v69), mP h56, mP h56, mR h56 (rdP v71), mR h56 (rdP (nt vs55 6)), mH h56 (rdL [v72, v73]) l76 h75, mP h75, mP h75] fun l78 =>
 j58 [(nt vs55 0), (nt vs55 1), (nt vs55 2), (nt vs55 3), (nt vs55 4), (nt vs55 5), (nt vs55 6), v77, (nt vs55 7), (nt vs55 8)] h75 (l78 ++ l57)) fun j54 => fork v53
 (j54 [(nt vs49 0), (nt vs49 1), (nt vs49 2), (nt vs49 3), (nt vs49 4), (nt vs49 5), (nt vs49 6), (nt vs49 8), v52] h50 [])
 (some ⟨(.exit 2), [(nt vs49 0), (nt vs49 1), (nt vs49 2), (nt vs49 3), (nt vs49 4), (nt vs49 5), (nt vs49 6), (nt vs49 7), (nt vs49 8), v52], h50, []⟩)
noncomputable def F_k88_L122 (call : CallF) (lp : LoopF) : List Value → H → Option LOut := fun vs4 h5 =>
 ob (rNil (nt vs4 0)) fun v6 =>
 ob (rFld 1 v6) fun v7 =>
 ob (rLd1 h5.get v7) fun v8 =>
 ob (rIdxS 1 v8 (nt vs4 1)) fun v9 =>
 ob (rLd1 h5.get v9) fun v10 =>
 ob (rLenL v10) fun v11 =>
 ob (bI .lss (nt vs4 5) v11) fun v12 =>
 jn3 (fun vs14 h15 l16 =>
 jn3 (fun vs18 h19 l20 =>
 ob (bI .add (nt vs18 5) (.int .i64 1)) fun v21 =>
 some ⟨.normal, [(nt vs18 0), (nt vs18 1), (nt vs18 2), (nt vs18 3), (nt vs18 4), v21, (nt vs18 6)], h19, l20⟩) fun j17 =>
 ob (rNil (nt vs14 0)) fun v22 =>
 ob (rFld 1 v22) fun v23 =>
 ob (rLd1 h15.get v23) fun v24 =>
 ob (rIdxS 1 v24 (nt vs14 1)) fun v25 =>
 ob (rLd1 h15.get v25) fun v26 =>
 ob (rIdxS 2 v26 (nt vs14 5)) fun v27 =>
 ob (rFld 1 v27) fun v28 =>
 ob (rLd1 h15.get v28) fun v29 =>
 ob (rIdxS 3 v29 (nt vs14 2)) fun v30 =>
 ob (rLdA h15.get 3 v30) fun v31 =>
 al (aNew h15.n T_api_Value [(.int .i64 0), (.int .i64 0), (.string ⟨#[]⟩)]) h15 fun v32 h33 =>
 hv (rStore h33 3 v32 v31) fun v34 h35 l36 =>
 ob (rFld 0 v32) fun v37 =>
 ob (rLd1 h35.get v37) fun v38 =>
 ob (bI .eql v38 (.int .i64 2)) fun v39 =>
 jn3 (fun vs41 h42 l43 =>
 jn3 (fun vs45 h46 l47 =>
 j17 [(nt vs45 0), (nt vs45 1), (nt vs45 2), (nt vs45 3), (nt vs45 4), (nt vs45 5), (nt vs45 6)] h46 l47) fun j44 => fork (nt vs41 6)
 (ob (bI .add (nt vs41 4) (.int .i64 1)) fun v48 =>
 j44 [(nt vs41 0), (nt vs41 1), (nt vs41 2), (nt vs41 3), v48, (nt vs41 5), (nt vs41 7)] h42 l43)
 (j44 [(nt vs41 0), (nt vs41 1), (nt vs41 2), (nt vs41 3), (nt vs41 4), (nt vs41 5), (nt vs41 7)] h42 l43)) fun j40 =>
 ob (lp (F_k88_L62618 call lp) [(nt vs14 0), (nt vs14 1), (nt vs14 2), (nt vs14 3), (nt vs14 4), (nt vs14 5), v32, v39, (.int .i64 0), (nt vs14 6)] h35) fun o79 =>
 onEx o79.ex (j40 [(nt o79.vs 0), (nt o79.vs 1), (nt o79.vs 2), (nt o79.vs 3), (nt o79.vs 4), (nt o79.vs 5), (nt o79.vs 7), (nt o79.vs 9)] o79.h (o79.lg ++ (l36 ++ l16))) (fun i80 => bif Nat.beq i80 2 then j40 [(nt o79.vs 0), (nt o79.vs 1), (nt o79.vs 2), (nt o79.vs 3), (nt o79.vs 4), (nt o79.vs 5), (nt o79.vs 7), (nt o79.vs 9)] o79.h (o79.lg ++ (l36 ++ l16)) else bif Nat.beq i80 1 then j17 [(nt o79.vs 0), (nt o79.vs 1), (nt o79.vs 2), (nt o79.vs 3), (nt o79.vs 4), (nt o79.vs 5), (nt o79.vs 9)] o79.h (o79.lg ++ (l36 ++ l16)) else some ⟨(.exit i80), [(nt o79.vs 0), (nt o79.vs 1), (nt o79.vs 2), (nt o79.vs 3), (nt o79.vs 4), (nt o79.vs 5), (nt o79.vs 9)], o79.h, (o79.lg ++ (l36 ++ l16))⟩) (some ⟨.ret, [(nt o79.vs 0), (nt o79.vs 1), (nt o79.vs 2), (nt o79.vs 3), (nt o79.vs 4), (nt o79.vs 5), (nt o79.vs 9)], o79.h, (o79.lg ++ (l36 ++ l16))⟩)) fun j13 => fork v12
 (j13 [(nt vs4 0), (nt vs4 1), (nt vs4 2), (nt vs4 3), (nt vs4 4), (nt vs4 5), (nt vs4 6)] h5 [])
 (some ⟨(.exit 0), [(nt vs4 0), (nt vs4 1), (nt vs4 2), (nt vs4 3), (nt vs4 4), (nt vs4 5), (nt vs4 6)], h5, []⟩)
noncomputable def F_k88 (call : CallF) (lp : LoopF) (x0 : Value) (x1 : Value) (x2 : Value) (h : H) : Option (Value × H × List Nat) :=
 jn3 (fun vs1 h2 l3 =>
 fin h (rsT (nt vs1 0) (some [])) h2 l3) fun j0 =>
 ob (lp (F_k88_L122 call lp) [x0, x1, x2, (.int .i64 0), (.int .i64 0), (.int .i64 0), poison] h) fun o81 =>
 onEx o81.ex (j0 [(nt o81.vs 4)] o81.h (o81.lg ++ [])) (fun i82 => bif Nat.beq i82 0 then j0 [(nt o81.vs 4)] o81.h (o81.lg ++ []) else none) (fin h (rsT (nt o81.vs 3) (some [])) o81.h (o81.lg ++ []))

-- 89 (*asterism/asterismref12.DB).row
noncomputable def F_k89_L33367626 (call : CallF) (lp : LoopF) : List Value → H → Option LOut := fun vs121 h122 =>
 ob (rFld 3 (nt vs121 5)) fun v123 =>
 ob (rLd1 h122.get v123) fun v124 =>
 ob (rIdxS 2 v124 (nt vs121 7)) fun v125 =>
 ob (rFld 0 v125) fun v126 =>
 ob (rLd1 h122.get v126) fun v127 =>
 ob (rLenL v127) fun v128 =>
 ob (bI .lss (nt vs121 11) v128) fun v129 =>
 jn3 (fun vs131 h132 l133 =>
 jn3 (fun vs135 h136 l137 =>
 ob (bI .add (nt vs135 11) (.int .i64 1)) fun v138 =>
 some ⟨.normal, [(nt vs135 0), (nt vs135 1), (nt vs135 2), (nt vs135 3), (nt vs135 4), (nt vs135 5), (nt vs135 6), (nt vs135 7), (nt vs135 8), (nt vs135 9), (nt vs135 10), v138, (nt vs135 12), (nt vs135 13), (nt vs135 14), (nt vs135 15), (nt vs135 16), (nt vs135 17), (nt vs135 18), (nt vs135 19), (nt vs135 20), (nt vs135 21), (nt vs135 22), (nt vs135 23), (nt vs135 24), (nt vs135 25), (nt vs135 26), (nt vs135 27), (nt vs135 28), (nt vs135 29), (nt vs135 30), (nt vs135 31), (nt vs135 32), (nt vs135 33), (nt vs135 34), (nt vs135 35), (nt vs135 36), (nt vs135 37), (nt vs135 38), (nt vs135 39), (nt vs135 40), (nt vs135 41), (nt vs135 42), (nt vs135 43), (nt vs135 44), (nt vs135 45), (nt vs135 46), (nt vs135 47), (nt vs135 48), (nt vs135 49), (nt vs135 50)], h136, l137⟩) fun j134 =>
 ob (rLdA h132.get 4 (nt vs131 5)) fun v139 =>
 ob (rFld 3 (nt vs131 5)) fun v140 =>
 ob (rLd1 h132.get v140) fun v141 =>
 ob (rIdxS 2 v141 (nt vs131 7)) fun v142 =>
 ob (rFld 0 v142) fun v143 =>
 ob (rLd1 h132.get v143) fun v144 =>
 ob (rIdxS 1 v144 (nt vs131 11)) fun v145 =>
 ob (rLd1 h132.get v145) fun v146 =>
 hv (call (.fn N_k148) [v139, v146] h132) fun v147 h148 l149 =>
 dr [0, 0, 2, 0, 14, 30, 62, 0, 254, 510, 1023, 2047] [mR h132 (rdP (nt vs131 5)), mP h132, mR h132 (rdP v140), mP h132, mP h132, mP h132, mR h132 (rdP v143), mP h132, mP h132, mR h132 (rdP v145), mH h132 (rdL [v139, v146]) l149 h148, mP h148] fun l150 =>
 gP (gd (nt vs131 10) true) (some (nt vs131 0)) fun v151 =>
 gP (gd (nt vs131 10) true) (rNil v151) fun v152 =>
 gP (gd (nt vs131 10) true) (rFld 1 v152) fun v153 =>
 gP (gd (nt vs131 10) true) (rLd1 h148.get v153) fun v154 =>
 gP (gd (nt vs131 10) true) (some (nt vs131 1)) fun v155 =>
 gP (gd (nt vs131 10) true) (rIdxS 1 v154 v155) fun v156 =>
 gP (gd (nt vs131 10) true) (rLd1 h148.get v156) fun v157 =>
 gP (gd (nt vs131 10) true) (some (nt vs131 9)) fun v158 =>
 gP (gd (nt vs131 10) true) (rIdxS 2 v157 v158) fun v159 =>
 gP (gd (nt vs131 10) true) (rFld 1 v159) fun v160 =>
 gP (gd (nt vs131 10) true) (rLd1 h148.get v160) fun v161 =>
 gP (gd (nt vs131 10) true) (some v147) fun v162 =>
 gP (gd (nt vs131 10) true) (rIdxS 3 v161 v162) fun v163 =>
 gP (gd (nt vs131 10) true) (rLdA h148.get 3 v163) fun v164 =>
 gP (gd (nt vs131 10) true) (some (nt vs131 6)) fun v165 =>
 gP (gd (nt vs131 10) true) (some v147) fun v166 =>
 gP (gd (nt vs131 10) true) (rIdxS 3 v165 v166) fun v167 =>
 gP (gd (nt vs131 10) true) (rLdA h148.get 3 v167) fun v168 =>
 hv (gV (gd (nt vs131 10) true) (call (.fn N_k147) [v164, v168] h148) h148) fun v169 h170 l171 =>
 ob (rPick (nt vs131 10) v169 (.bool false)) fun v172 =>
 dr [0, 1, 3, 7, 15, 31, 3, 127, 255, 3, 1023, 2047, 4095, 3, 16383, 32767, 3, 3, 196611, 458755, 1048575, 2097151, 4194303] [mP h148, mP h148, mG (gd (nt vs131 10) true) .pure [] h148 h148 [], mG (gd (nt vs131 10) true) .pure [] h148 h148 [], mG (gd (nt vs131 10) true) .pure [] h148 h148 [], mG (gd (nt vs131 10) true) .pure (rdP v153) h148 h148 [], mG (gd (nt vs131 10) true) .pure [] h148 h148 [], mG (gd (nt vs131 10) true) .pure [] h148 h148 [], mG (gd (nt vs131 10) true) .pure (rdP v156) h148 h148 [], mG (gd (nt vs131 10) true) .pure [] h148 h148 [], mG (gd (nt vs131 10) true) .pure [] h148 h148 [], mG (gd (nt vs131 10) true) .pure [] h148 h148 [], mG (gd (nt vs131 10) true) .pure (rdP v160) h148 h148 [], mG (gd (nt vs131 10) true) .pure [] h148 h148 [], mG (gd (nt vs131 10) true) .pure [] h148 h148 [], mG (gd (nt vs131 10) true) .pure (rdP v163) h148 h148 [], mG (gd (nt vs131 10) true) .pure [] h148 h148 [], mG (gd (nt vs131 10) true) .pure [] h148 h148 [], mG (gd (nt vs131 10) true) .pure [] h148 h148 [], mG (gd (nt vs131 10) true) .pure (rdP v167) h148 h148 [], mG (gd (nt vs131 10) true) .heavy (rdL [v164, v168]) h148 h170 l171, mP h170, mP h170] fun l173 =>
 j134 [(nt vs131 0), (nt vs131 1), (nt vs131 2), (nt vs131 3), (nt vs131 4), (nt vs131 5), (nt vs131 6), (nt vs131 7), (nt vs131 8), (nt vs131 9), v172, (nt vs131 11), v151, v152, v153, v154, v155, v156, v157, v158, v159, v160, v161, v162, v163, v164, v165, v166, v167, v168, v169, (nt vs131 31), (nt vs131 32), (nt vs131 33), (nt vs131 34), (nt vs131 35), (nt vs131 36), (nt vs131 37), (nt vs131 38), (nt vs131 39), (nt vs131 40), (nt vs131 41), (nt vs131 42), (nt vs131 43), (nt vs131 44), (nt vs131 45), (nt vs131 46), (nt vs131 47), (nt vs131 48), (nt vs131 49), (nt vs131 50)] h170 (l173 ++ (l150 ++ l133))) fun j130 => fork v129
 (j130 [(nt vs121 0), (nt vs121 1), (nt vs121 2), (nt vs121 3), (nt vs121 4), (nt vs121 5), (nt vs121 6), (nt vs121 7), (nt vs121 8), (nt vs121 9), (nt vs121 10), (nt vs121 11), (nt vs121 12), (nt vs121 13), (nt vs121 14), (nt vs121 15), (nt vs121 16), (nt vs121 17), (nt vs121 18), (nt vs121 19), (nt vs121 20), (nt vs121 21), (nt vs121 22), (nt vs121 23), (nt vs121 24), (nt vs121 25), (nt vs121 26), (nt vs121 27), (nt vs121 28), (nt vs121 29), (nt vs121 30), (nt vs121 31), (nt vs121 32), (nt vs121 33), (nt vs121 34), (nt vs121 35), (nt vs121 36), (nt vs121 37), (nt vs121 38), (nt vs121 39), (nt vs121 40), (nt vs121 41), (nt vs121 42), (nt vs121 43), (nt vs121 44), (nt vs121 45), (nt vs121 46), (nt vs121 47), (nt vs121 48), (nt vs121 49), (nt vs121 50)] h122 [])
 (some ⟨(.exit 10), [(nt vs121 0), (nt vs121 1), (nt vs121 2), (nt vs121 3), (nt vs121 4), (nt vs121 5), (nt vs121 6), (nt vs121 7), (nt vs121 8), (nt vs121 9), (nt vs121 10), (nt vs121 11), (nt vs121 12), (nt vs121 13), (nt vs121 14), (nt vs121 15), (nt vs121 16), (nt vs121 17), (nt vs121 18), (nt vs121 19), (nt vs121 20), (nt vs121 21), (nt vs121 22), (nt vs121 23), (nt vs121 24), (nt vs121 25), (nt vs121 26), (nt vs121 27), (nt vs121 28), (nt vs121 29), (nt vs121 30), (nt vs121 31), (nt vs121 32), (nt vs121 33), (nt vs121 34), (nt vs121 35), (nt vs121 36), (nt vs121 37), (nt vs121 38), (nt vs121 39), (nt vs121 40), (nt vs121 41), (nt vs121 42), (nt vs121 43), (nt vs121 44), (nt vs121 45), (nt vs121 46), (nt vs121 47), (nt vs121 48), (nt vs121 49), (nt vs121 50)], h122, []⟩)
noncomputable def F_k89_L130342 (call : CallF) (lp : LoopF) : List Value → H → Option LOut := fun vs71 h72 =>
 ob (bI .lss (nt vs71 9) (nt vs71 2)) fun v73 =>
 jn3 (fun vs75 h76 l77 =>
 jn3 (fun vs79 h80 l81 =>
 ob (bI .add (nt vs79 9) (.int .i64 1)) fun v82 =>
 some ⟨.normal, [(nt vs79 0), (nt vs79 1), (nt vs79 2), (nt vs79 3), (nt vs79 4), (nt vs79 5), (nt vs79 6), (nt vs79 7), (nt vs79 8), v82, (nt vs79 10), (nt vs79 11), (nt vs79 12), (nt vs79 13), (nt vs79 14), (nt vs79 15), (nt vs79 16), (nt vs79 17), (nt vs79 18), (nt vs79 19), (nt vs79 20), (nt vs79 21), (nt vs79 22), (nt vs79 23), (nt vs79 24), (nt vs79 25), (nt vs79 26), (nt vs79 27), (nt vs79 28), (nt vs79 29), (nt vs79 30), (nt vs79 31), (nt vs79 32), (nt vs79 33), (nt vs79 34), (nt vs79 35), (nt vs79 36), (nt vs79 37), (nt vs79 38), (nt vs79 39), (nt vs79 40), (nt vs79 41), (nt vs79 42), (nt vs79 43), (nt vs79 44), (nt vs79 45), (nt vs79 46), (nt vs79 47), (nt vs79 48)], h80, l81⟩) fun j78 =>
 jn3 (fun vs84 h85 l86 =>
 gP (gd (nt vs84 10) true) (some (nt vs84 0)) fun v87 =>
 gP (gd (nt vs84 10) true) (rNil v87) fun v88 =>
 gP (gd (nt vs84 10) true) (rFld 1 v88) fun v89 =>
 gP (gd (nt vs84 10) true) (rLd1 h85.get v89) fun v90 =>
 gP (gd (nt vs84 10) true) (some (nt vs84 1)) fun v91 =>
 gP (gd (nt vs84 10) true) (rIdxS 1 v90 v91) fun v92 =>
 gP (gd (nt vs84 10) true) (rLd1 h85.get v92) fun v93 =>
 gP (gd (nt vs84 10) true) (some (nt vs84 9)) fun v94 =>
 gP (gd (nt vs84 10) true) (rIdxS 2 v93 v94) fun v95 =>
 gP (gd (nt vs84 10) true) (rFld 1 v95) fun v96 =>
 gP (gd (nt vs84 10) true) (rLd1 h85.get v96) fun v97 =>
 gP (gd (nt vs84 10) true) (some (nt vs84 8)) fun v98 =>
 gP (gd (nt vs84 10) true) (rIdxS 3 v97 v98) fun v99 =>
 gP (gd (nt vs84 10) true) (rLdA h85.get 3 v99) fun v100 =>
 gP (gd (nt vs84 10) true) (some (nt vs84 6)) fun v101 =>
 gP (gd (nt vs84 10) true) (some (nt vs84 8)) fun v102 =>
 gP (gd (nt vs84 10) true) (rIdxS 3 v101 v102) fun v103 =>
 gP (gd (nt vs84 10) true) (rLdA h85.get 3 v103) fun v104 =>
 hv (gV (gd (nt vs84 10) true) (call (.fn N_k147) [v100, v104] h85) h85) fun v105 h106 l107 =>
 gP (gd (nt vs84 10) true) (unV .not v105) fun v108 =>
 ob (rPick (nt vs84 10) v108 (.bool false)) fun v109 =>
 dr [0, 1, 3, 7, 15, 31, 3, 127, 255, 3, 1023, 2047, 4095, 3, 16383, 32767, 3, 3, 196611, 458755, 1048575, 2097151, 4194303] [mP h85, mP h85, mG (gd (nt vs84 10) true) .pure [] h85 h85 [], mG (gd (nt vs84 10) true) .pure [] h85 h85 [], mG (gd (nt vs84 10) true) .pure [] h85 h85 [], mG (gd (nt vs84 10) true) .pure (rdP v89) h85 h85 [], mG (gd (nt vs84 10) true) .pure [] h85 h85 [], mG (gd (nt vs84 10) true) .pure [] h85 h85 [], mG (gd (nt vs84 10) true) .pure (rdP v92) h85 h85 [], mG (gd (nt vs84 10) true) .pure [] h85 h85 [], mG (gd (nt vs84 10) true) .pure [] h85 h85 [], mG (gd (nt vs84 10) true) .pure [] h85 h85 [], mG (gd (nt vs84 10) true) .pure (rdP v96) h85 h85 [], mG (gd (nt vs84 10) true) .pure [] h85 h85 [], mG (gd (nt vs84 10) true) .pure [] h85 h85 [], mG (gd (nt vs84 10) true) .pure (rdP v99) h85 h85 [], mG (gd (nt vs84 10) true) .pure [] h85 h85 [], mG (gd (nt vs84 10) true) .pure [] h85 h85 [], mG (gd (nt vs84 10) true) .pure [] h85 h85 [], mG (gd (nt vs84 10) true) .pure (rdP v103) h85 h85 [], mG (gd (nt vs84 10) true) .heavy (rdL [v100, v104]) h85 h106 l107, mG (gd (nt vs84 10) true) .pure [] h106 h106 [], mP h106] fun l110 =>
 jn3 (fun vs112 h113 l114 =>
 j78 [(nt vs112 0), (nt vs112 1), (nt vs112 2), (nt vs112 3), (nt vs112 4), (nt vs112 5), (nt vs112 6), (nt vs112 7), (nt vs112 8), (nt vs112 9), (nt vs112 10), (nt vs112 11), (nt vs112 12), (nt vs112 13), (nt vs112 14), (nt vs112 15), (nt vs112 16), (nt vs112 17), (nt vs112 18), (nt vs112 19), (nt vs112 20), (nt vs112 21), (nt vs112 22), (nt vs112 23), (nt vs112 24), (nt vs112 25), (nt vs112 26), (nt vs112 27), (nt vs112 28), (nt vs112 29), (nt vs112 30), (nt vs112 31), (nt vs112 32), (nt vs112 33), (nt vs112 34), (nt vs112 35), (nt vs112 36), (nt vs112 37), (nt vs112 38), (nt vs112 39), (nt vs112 40), (nt vs112 41), (nt vs112 42), (nt vs112 43), (nt vs112 44), (nt vs112 45), (nt vs112 46), (nt vs112 47), (nt vs112 48)] h113 l114) fun j111 => fork v109
 (ob (rFld 3 (nt vs84 5)) fun v115 =>
 ob (rLd1 h106.get v115) fun v116 =>
 ob (rIdxS 2 v116 (nt vs84 7)) fun v117 =>
 ob (rFld 1 v117) fun v118 =>
 ob (rLd1 h106.get v118) fun v119 =>
 dr [0, 1, 0, 7, 15, 31, 0, 127] [mP h106, mR h106 (rdP v115), mP h106, mP h106, mP h106, mR h106 (rdP v118), mP h106, mP h106] fun l120 =>
 some ⟨.ret, [(nt vs84 0), (nt vs84 1), (nt vs84 2), (.int .i64 10), v119, (nt vs84 5), (nt vs84 6), (nt vs84 7), (nt vs84 8), (nt vs84 9), (nt vs84 11), (nt vs84 12), (nt vs84 13), (nt vs84 14), (nt vs84 15), (nt vs84 16), (nt vs84 17), (nt vs84 18), (nt vs84 19), (nt vs84 20), (nt vs84 21), (nt vs84 22), (nt vs84 23), (nt vs84 24), (nt vs84 25), (nt vs84 26), (nt vs84 27), (nt vs84 28), (nt vs84 29), v87, v88, v89, v90, v91, v92, v93, v94, v95, v96, v97, v98, v99, v100, v101, v102, v103, v104, v105, v108], h106, (l120 ++ (l110 ++ l86))⟩)
 (j111 [(nt vs84 0), (nt vs84 1), (nt vs84 2), (nt vs84 3), (nt vs84 4), (nt vs84 5), (nt vs84 6), (nt vs84 7), (nt vs84 8), (nt vs84 9), (nt vs84 11), (nt vs84 12), (nt vs84 13), (nt vs84 14), (nt vs84 15), (nt vs84 16), (nt vs84 17), (nt vs84 18), (nt vs84 19), (nt vs84 20), (nt vs84 21), (nt vs84 22), (nt vs84 23), (nt vs84 24), (nt vs84 25), (nt vs84 26), (nt vs84 27), (nt vs84 28), (nt vs84 29), v87, v88, v89, v90, v91, v92, v93, v94, v95, v96, v97, v98, v99, v100, v101, v102, v103, v104, v105, v108] h106 (l110 ++ l86))) fun j83 =>
 ob (lp (F_k89_L33367626 call lp) [(nt vs75 0), (nt vs75 1), (nt vs75 2), (nt vs75 3), (nt vs75 4), (nt vs75 5), (nt vs75 6), (nt vs75 7), (nt vs75 8), (nt vs75 9), (.bool true), (.int .i64 0), (nt vs75 10), (nt vs75 11), (nt vs75 12), (nt vs75 13), (nt vs75 14), (nt vs75 15), (nt vs75 16), (nt vs75 17), (nt vs75 18), (nt vs75 19), (nt vs75 20), (nt vs75 21), (nt vs75 22), (nt vs75 23), (nt vs75 24), (nt vs75 25), (nt vs75 26), (nt vs75 27), (nt vs75 28), (nt vs75 29), (nt vs75 30), (nt vs75 31), (nt vs75 32), (nt vs75 33), (nt vs75 34), (nt vs75 35), (nt vs75 36), (nt vs75 37), (nt vs75 38), (nt vs75 39), (nt vs75 40), (nt vs75 41), (nt vs75 42), (nt vs75 43), (nt vs75 44), (nt vs75 45), (nt vs75 46), (nt vs75 47), (nt vs75 48)] h76) fun o174 =>
 onEx o174.ex (j83 [(nt o174.vs 0), (nt o174.vs 1), (nt o174.vs 2), (nt o174.vs 3), (nt o174.vs 4), (nt o174.vs 5), (nt o174.vs 6), (nt o174.vs 7), (nt o174.vs 8), (nt o174.vs 9), (nt o174.vs 10), (nt o174.vs 12), (nt o174.vs 13), (nt o174.vs 14), (nt o174.vs 15), (nt o174.vs 16), (nt o174.vs 17), (nt o174.vs 18), (nt o174.vs 19), (nt o174.vs 20), (nt o174.vs 21), (nt o174.vs 22), (nt o174.vs 23), (nt o174.vs 24), (nt o174.vs 25), (nt o174.vs 26), (nt o174.vs 27), (nt o174.vs 28), (nt o174.vs 29), (nt o174.vs 30), (nt o174.vs 31), (nt o174.vs 32), (nt o174.vs 33), (nt o174.vs 34), (nt o174.vs 35), (nt o174.vs 36), (nt o174.vs 37), (nt o174.vs 38), (nt o174.vs 39), (nt o174.vs 40), (nt o174.vs 41), (nt o174.vs 42), (nt o174.vs 43), (nt o174.vs 44), (nt o174.vs 45), (nt o174.vs 46), (nt o174.vs 47), (nt o174.vs 48), (nt o174.vs 49), (nt o174.vs 50)] o174.h (o174.lg ++ l77)) (fun i175 => bif Nat.beq i175 10 then j83 [(nt o174.vs 0), (nt o174.vs 1), (nt o174.vs 2), (nt o174.vs 3), (nt o174.vs 4), (nt o174.vs 5), (nt o174.vs 6), (nt o174.vs 7), (nt o174.vs 8), (nt o174.vs 9), (nt o174.vs 10), (nt o174.vs 12), (nt o174.vs 13), (nt o174.vs 14), (nt o174.vs 15), (nt o174.vs 16), (nt o174.vs 17), (nt o174.vs 18), (nt o174.vs 19), (nt o174.vs 20), (nt o174.vs 21), (nt o174.vs 22), (nt o174.vs 23), (nt o174.vs 24), (nt o174.vs 25), (nt o174.vs 26), (nt o174.vs 27), (nt o174.vs 28), (nt o174.vs 29), (nt o174.vs 30), (nt o174.vs 31), (nt o174.vs 32), (nt o174.vs 33), (nt o174.vs 34), (nt o174.vs 35), (nt o174.vs 36), (nt o174.vs 37), (nt o174.vs 38), (nt o174.vs 39), (nt o174.vs 40), (nt o174.vs 41), (nt o174.vs 42), (nt o174.vs 43), (nt o174.vs 44), (nt o174.vs 45), (nt o174.vs 46), (nt o174.vs 47), (nt o174.vs 48), (nt o174.vs 49), (nt o174.vs 50)] o174.h (o174.lg ++ l77) else bif Nat.beq i175 9 then j78 [(nt o174.vs 0), (nt o174.vs 1), (nt o174.vs 2), (nt o174.vs 3), (nt o174.vs 4), (nt o174.vs 5), (nt o174.vs 6), (nt o174.vs 7), (nt o174.vs 8), (nt o174.vs 9), (nt o174.vs 12), (nt o174.vs 13), (nt o174.vs 14), (nt o174.vs 15), (nt o174.vs 16), (nt o174.vs 17), (nt o174.vs 18), (nt o174.vs 19), (nt o174.vs 20), (nt o174.vs 21), (nt o174.vs 22), (nt o174.vs 23), (nt o174.vs 24), (nt o174.vs 25), (nt o174.vs 26), (nt o174.vs 27), (nt o174.vs 28), (nt o174.vs 29), (nt o174.vs 30), (nt o174.vs 31), (nt o174.vs 32), (nt o174.vs 33), (nt o174.vs 34), (nt o174.vs 35), (nt o174.vs 36), (nt o174.vs 37), (nt o174.vs 38), (nt o174.vs 39), (nt o174.vs 40), (nt o174.vs 41), (nt o174.vs 42), (nt o174.vs 43), (nt o174.vs 44), (nt o174.vs 45), (nt o174.vs 46), (nt o174.vs 47), (nt o174.vs 48), (nt o174.vs 49), (nt o174.vs 50)] o174.h (o174.lg ++ l77) else some ⟨(.exit i175), [(nt o174.vs 0), (nt o174.vs 1), (nt o174.vs 2), (nt o174.vs 3), (nt o174.vs 4), (nt o174.vs 5), (nt o174.vs 6), (nt o174.vs 7), (nt o174.vs 8), (nt o174.vs 9), (nt o174.vs 12), (nt o174.vs 13), (nt o174.vs 14), (nt o174.vs 15), (nt o174.vs 16), (nt o174.vs 17), (nt o174.vs 18), (nt o174.vs 19), (nt o174.vs 20), (nt o174.vs 21), (nt o174.vs 22), (nt o174.vs 23), (nt o174.vs 24), (nt o174.vs 25), (nt o174.vs 26), (nt o174.vs 27), (nt o174.vs 28), (nt o174.vs 29), (nt o174.vs 30), (nt o174.vs 31), (nt o174.vs 32), (nt o174.vs 33), (nt o174.vs 34), (nt o174.vs 35), (nt o174.vs 36), (nt o174.vs 37), (nt o174.vs 38), (nt o174.vs 39), (nt o174.vs 40), (nt o174.vs 41), (nt o174.vs 42), (nt o174.vs 43), (nt o174.vs 44), (nt o174.vs 45), (nt o174.vs 46), (nt o174.vs 47), (nt o174.vs 48), (nt o174.vs 49), (nt o174.vs 50)], o174.h, (o174.lg ++ l77)⟩) (some ⟨.ret, [(nt o174.vs 0), (nt o174.vs 1), (nt o174.vs 2), (nt o174.vs 3), (nt o174.vs 4), (nt o174.vs 5), (nt o174.vs 6), (nt o174.vs 7), (nt o174.vs 8), (nt o174.vs 9), (nt o174.vs 12), (nt o174.vs 13), (nt o174.vs 14), (nt o174.vs 15), (nt o174.vs 16), (nt o174.vs 17), (nt o174.vs 18), (nt o174.vs 19), (nt o174.vs 20), (nt o174.vs 21), (nt o174.vs 22), (nt o174.vs 23), (nt o174.vs 24), (nt o174.vs 25), (nt o174.vs 26), (nt o174.vs 27), (nt o174.vs 28), (nt o174.vs 29), (nt o174.vs 30), (nt o174.vs 31), (nt o174.vs 32), (nt o174.vs 33), (nt o174.vs 34), (nt o174.vs 35), (nt o174.vs 36), (nt o174.vs 37), (nt o174.vs 38), (nt o174.vs 39), (nt o174.vs 40), (nt o174.vs 41), (nt o174.vs 42), (nt o174.vs 43), (nt o174.vs 44), (nt o174.vs 45), (nt o174.vs 46), (nt o174.vs 47), (nt o174.vs 48), (nt o174.vs 49), (nt o174.vs 50)], o174.h, (o174.lg ++ l77)⟩)) fun j74 => fork v73
 (j74 [(nt vs71 0), (nt vs71 1), (nt vs71 2), (nt vs71 3), (nt vs71 4), (nt vs71 5), (nt vs71 6), (nt vs71 7), (nt vs71 8), (nt vs71 9), (nt vs71 10), (nt vs71 11), (nt vs71 12), (nt vs71 13), (nt vs71 14), (nt vs71 15), (nt vs71 16), (nt vs71 17), (nt vs71 18), (nt vs71 19), (nt vs71 20), (nt vs71 21), (nt vs71 22), (nt vs71 23), (nt vs71 24), (nt vs71 25), (nt vs71 26), (nt vs71 27), (nt vs71 28), (nt vs71 29), (nt vs71 30), (nt vs71 31), (nt vs71 32), (nt vs71 33), (nt vs71 34), (nt vs71 35), (nt vs71 36), (nt vs71 37), (nt vs71 38), (nt vs71 39), (nt vs71 40), (nt vs71 41), (nt vs71 42), (nt vs71 43), (nt vs71 44), (nt vs71 45), (nt vs71 46), (nt vs71 47), (nt vs71 48)] h72 [])
 (some ⟨(.exit 8), [(nt vs71 0), (nt vs71 1), (nt vs71 2), (nt vs71 3), (nt vs71 4), (nt vs71 5), (nt vs71 6), (nt vs71 7), (nt vs71 8), (nt vs71 9), (nt vs71 10), (nt vs71 11), (nt vs71 12), (nt vs71 13), (nt vs71 14), (nt vs71 15), (nt vs71 16), (nt vs71 17), (nt vs71 18), (nt vs71 19), (nt vs71 20), (nt vs71 21), (nt vs71 22), (nt vs71 23), (nt vs71 24), (nt vs71 25), (nt vs71 26), (nt vs71 27), (nt vs71 28), (nt vs71 29), (nt vs71 30), (nt vs71 31), (nt vs71 32), (nt vs71 33), (nt vs71 34), (nt vs71 35), (nt vs71 36), (nt vs71 37), (nt vs71 38), (nt vs71 39), (nt vs71 40), (nt vs71 41), (nt vs71 42), (nt vs71 43), (nt vs71 44), (nt vs71 45), (nt vs71 46), (nt vs71 47), (nt vs71 48)], h72, []⟩)
noncomputable def F_k89_L1018 (call : CallF) (lp : LoopF) : List Value → H → Option LOut := fun vs42 h43 =>
 ob (rFld 3 (nt vs42 5)) fun v44 =>
 ob (rLd1 h43.get v44) fun v45 =>
 ob (rLenL v45) fun v46 =>
 ob (bI .lss (nt vs42 7) v46) fun v47 =>
 jn3 (fun vs49 h50 l51 =>
 jn3 (fun vs53 h54 l55 =>
 ob (bI .add (nt vs53 7) (.int .i64 1)) fun v56 =>
 some ⟨.normal, [(nt vs53 0), (nt vs53 1), (nt vs53 2), (nt vs53 3), (nt vs53 4), (nt vs53 5), (nt vs53 6), v56, (nt vs53 8), (nt vs53 9), (nt vs53 10), (nt vs53 11), (nt vs53 12), (nt vs53 13), (nt vs53 14), (nt vs53 15), (nt vs53 16), (nt vs53 17), (nt vs53 18), (nt vs53 19), (nt vs53 20), (nt vs53 21), (nt vs53 22), (nt vs53 23), (nt vs53 24), (nt vs53 25), (nt vs53 26), (nt vs53 27), (nt vs53 28), (nt vs53 29), (nt vs53 30), (nt vs53 31), (nt vs53 32), (nt vs53 33), (nt vs53 34), (nt vs53 35), (nt vs53 36), (nt vs53 37), (nt vs53 38), (nt vs53 39), (nt vs53 40), (nt vs53 41), (nt vs53 42), (nt vs53 43), (nt vs53 44), (nt vs53 45), (nt vs53 46)], h54, l55⟩) fun j52 =>
 ob (rLdA h50.get 4 (nt vs49 5)) fun v57 =>
 ob (rFld 3 (nt vs49 5)) fun v58 =>
 ob (rLd1 h50.get v58) fun v59 =>
 ob (rIdxS 2 v59 (nt vs49 7)) fun v60 =>
 ob (rFld 1 v60) fun v61 =>
 ob (rLd1 h50.get v61) fun v62 =>
 hv (call (.fn N_k148) [v57, v62] h50) fun v63 h64 l65 =>
 dr [0, 0, 2, 0, 14, 30, 62, 127, 255] [mR h50 (rdP (nt vs49 5)), mP h50, mR h50 (rdP v58), mP h50, mP h50, mP h50, mR h50 (rdP v61), mH h50 (rdL [v57, v62]) l65 h64, mP h64] fun l66 =>
 jn3 (fun vs68 h69 l70 =>
 j52 [(nt vs68 0), (nt vs68 1), (nt vs68 2), (nt vs68 3), (nt vs68 4), (nt vs68 5), (nt vs68 6), (nt vs68 7), (nt vs68 8), (nt vs68 9), (nt vs68 10), (nt vs68 11), (nt vs68 12), (nt vs68 13), (nt vs68 14), (nt vs68 15), (nt vs68 16), (nt vs68 17), (nt vs68 18), (nt vs68 19), (nt vs68 20), (nt vs68 21), (nt vs68 22), (nt vs68 23), (nt vs68 24), (nt vs68 25), (nt vs68 26), (nt vs68 27), (nt vs68 28), (nt vs68 29), (nt vs68 30), (nt vs68 31), (nt vs68 32), (nt vs68 33), (nt vs68 34), (nt vs68 35), (nt vs68 36), (nt vs68 37), (nt vs68 38), (nt vs68 39), (nt vs68 40), (nt vs68 41), (nt vs68 42), (nt vs68 43), (nt vs68 44), (nt vs68 45), (nt vs68 46)] h69 l70) fun j67 =>
 ob (lp (F_k89_L130342 call lp) [(nt vs49 0), (nt vs49 1), (nt vs49 2), (nt vs49 3), (nt vs49 4), (nt vs49 5), (nt vs49 6), (nt vs49 7), v63, (.int .i64 0), (nt vs49 8), (nt vs49 9), (nt vs49 10), (nt vs49 11), (nt vs49 12), (nt vs49 13), (nt vs49 14), (nt vs49 15), (nt vs49 16), (nt vs49 17), (nt vs49 18), (nt vs49 19), (nt vs49 20), (nt vs49 21), (nt vs49 22), (nt vs49 23), (nt vs49 24), (nt vs49 25), (nt vs49 26), (nt vs49 27), (nt vs49 28), (nt vs49 29), (nt vs49 30), (nt vs49 31), (nt vs49 32), (nt vs49 33), (nt vs49 34), (nt vs49 35), (nt vs49 36), (nt vs49 37), (nt vs49 38), (nt vs49 39), (nt vs49 40), (nt vs49 41), (nt vs49 42), (nt vs49 43), (nt vs49 44), (nt vs49 45), (nt vs49 46)] h64) fun o176 =>
 onEx o176.ex (j67 [(nt o176.vs 0), (nt o176.vs 1), (nt o176.vs 2), (nt o176.vs 3), (nt o176.vs 4), (nt o176.vs 5), (nt o176.vs 6), (nt o176.vs 7), (nt o176.vs 10), (nt o176.vs 11), (nt o176.vs 12), (nt o176.vs 13), (nt o176.vs 14), (nt o176.vs 15), (nt o176.vs 16), (nt o176.vs 17), (nt o176.vs 18), (nt o176.vs 19), (nt o176.vs 20), (nt o176.vs 21), (nt o176.vs 22), (nt o176.vs 23), (nt o176.vs 24), (nt o176.vs 25), (nt o176.vs 26), (nt o176.vs 27), (nt o176.vs 28), (nt o176.vs 29), (nt o176.vs 30), (nt o176.vs 31), (nt o176.vs 32), (nt o176.vs 33), (nt o176.vs 34), (nt o176.vs 35), (nt o176.vs 36), (nt o176.vs 37), (nt o176.vs 38), (nt o176.vs 39), (nt o176.vs 40), (nt o176.vs 41), (nt o176.vs 42), (nt o176.vs 43), (nt o176.vs 44), (nt o176.vs 45), (nt o176.vs 46), (nt o176.vs 47), (nt o176.vs 48)] o176.h (o176.lg ++ (l66 ++ l51))) (fun i177 => bif Nat.beq i177 8 then j67 [(nt o176.vs 0), (nt o176.vs 1), (nt o176.vs 2), (nt o176.vs 3), (nt o176.vs 4), (nt o176.vs 5), (nt o176.vs 6), (nt o176.vs 7), (nt o176.vs 10), (nt o176.vs 11), (nt o176.vs 12), (nt o176.vs 13), (nt o176.vs 14), (nt o176.vs 15), (nt o176.vs 16), (nt o176.vs 17), (nt o176.vs 18), (nt o176.vs 19), (nt o176.vs 20), (nt o176.vs 21), (nt o176.vs 22), (nt o176.vs 23), (nt o176.vs 24), (nt o176.vs 25), (nt o176.vs 26), (nt o176.vs 27), (nt o176.vs 28), (nt o176.vs 29), (nt o176.vs 30), (nt o176.vs 31), (nt o176.vs 32), (nt o176.vs 33), (nt o176.vs 34), (nt o176.vs 35), (nt o176.vs 36), (nt o176.vs 37), (nt o176.vs 38), (nt o176.vs 39), (nt o176.vs 40), (nt o176.vs 41), (nt o176.vs 42), (nt o176.vs 43), (nt o176.vs 44), (nt o176.vs 45), (nt o176.vs 46), (nt o176.vs 47), (nt o176.vs 48)] o176.h (o176.lg ++ (l66 ++ l51)) else bif Nat.beq i177 7 then j52 [(nt o176.vs 0), (nt o176.vs 1), (nt o176.vs 2), (nt o176.vs 3), (nt o176.vs 4), (nt o176.vs 5), (nt o176.vs 6), (nt o176.vs 7), (nt o176.vs 10), (nt o176.vs 11), (nt o176.vs 12), (nt o176.vs 13), (nt o176.vs 14), (nt o176.vs 15), (nt o176.vs 16), (nt o176.vs 17), (nt o176.vs 18), (nt o176.vs 19), (nt o176.vs 20), (nt o176.vs 21), (nt o176.vs 22), (nt o176.vs 23), (nt o176.vs 24), (nt o176.vs 25), (nt o176.vs 26), (nt o176.vs 27), (nt o176.vs 28), (nt o176.vs 29), (nt o176.vs 30), (nt o176.vs 31), (nt o176.vs 32), (nt o176.vs 33), (nt o176.vs 34), (nt o176.vs 35), (nt o176.vs 36), (nt o176.vs 37), (nt o176.vs 38), (nt o176.vs 39), (nt o176.vs 40), (nt o176.vs 41), (nt o176.vs 42), (nt o176.vs 43), (nt o176.vs 44), (nt o176.vs 45), (nt o176.vs 46), (nt o176.vs 47), (nt o176.vs 48)] o176.h (o176.lg ++ (l66 ++ l51)) else some ⟨(.exit i177), [(nt o176.vs 0), (nt o176.vs 1), (nt o176.vs 2), (nt o176.vs 3), (nt o176.vs 4), (nt o176.vs 5), (nt o176.vs 6), (nt o176.vs 7), (nt o176.vs 10), (nt o176.vs 11), (nt o176.vs 12), (nt o176.vs 13), (nt o176.vs 14), (nt o176.vs 15), (nt o176.vs 16), (nt o176.vs 17), (nt o176.vs 18), (nt o176.vs 19), (nt o176.vs 20), (nt o176.vs 21), (nt o176.vs 22), (nt o176.vs 23), (nt o176.vs 24), (nt o176.vs 25), (nt o176.vs 26), (nt o176.vs 27), (nt o176.vs 28), (nt o176.vs 29), (nt o176.vs 30), (nt o176.vs 31), (nt o176.vs 32), (nt o176.vs 33), (nt o176.vs 34), (nt o176.vs 35), (nt o176.vs 36), (nt o176.vs 37), (nt o176.vs 38), (nt o176.vs 39), (nt o176.vs 40), (nt o176.vs 41), (nt o176.vs 42), (nt o176.vs 43), (nt o176.vs 44), (nt o176.vs 45), (nt o176.vs 46), (nt o176.vs 47), (nt o176.vs 48)], o176.h, (o176.lg ++ (l66 ++ l51))⟩) (some ⟨.ret, [(nt o176.vs 0), (nt o176.vs 1), (nt o176.vs 2), (nt o176.vs 3), (nt o176.vs 4), (nt o176.vs 5), (nt o176.vs 6), (nt o176.vs 7), (nt o176.vs 10), (nt o176.vs 11), (nt o176.vs 12), (nt o176.vs 13), (nt o176.vs 14), (nt o176.vs 15), (nt o176.vs 16), (nt o176.vs 17), (nt o176.vs 18), (nt o176.vs 19), (nt o176.vs 20), (nt o176.vs 21), (nt o176.vs 22), (nt o176.vs 23), (nt o176.vs 24), (nt o176.vs 25), (nt o176.vs 26), (nt o176.vs 27), (nt o176.vs 28), (nt o176.vs 29), (nt o176.vs 30), (nt o176.vs 31), (nt o176.vs 32), (nt o176.vs 33), (nt o176.vs 34), (nt o176.vs 35), (nt o176.vs 36), (nt o176.vs 37), (nt o176.vs 38), (nt o176.vs 39), (nt o176.vs 40), (nt o176.vs 41), (nt o176.vs 42), (nt o176.vs 43), (nt o176.vs 44), (nt o176.vs 45), (nt o176.vs 46), (nt o176.vs 47), (nt o176.vs 48)], o176.h, (o176.lg ++ (l66 ++ l51))⟩)) fun j48 => fork v47
 (j48 [(nt vs42 0), (nt vs42 1), (nt vs42 2), (nt vs42 3), (nt vs42 4), (nt vs42 5), (nt vs42 6), (nt vs42 7), (nt vs42 8), (nt vs42 9), (nt vs42 10), (nt vs42 11), (nt vs42 12), (nt vs42 13), (nt vs42 14), (nt vs42 15), (nt vs42 16), (nt vs42 17), (nt vs42 18), (nt vs42 19), (nt vs42 20), (nt vs42 21), (nt vs42 22), (nt vs42 23), (nt vs42 24), (nt vs42 25), (nt vs42 26), (nt vs42 27), (nt vs42 28), (nt vs42 29), (nt vs42 30), (nt vs42 31), (nt vs42 32), (nt vs42 33), (nt vs42 34), (nt vs42 35), (nt vs42 36), (nt vs42 37), (nt vs42 38), (nt vs42 39), (nt vs42 40), (nt vs42 41), (nt vs42 42), (nt vs42 43), (nt vs42 44), (nt vs42 45), (nt vs42 46)] h43 [])
 (some ⟨(.exit 6), [(nt vs42 0), (nt vs42 1), (nt vs42 2), (nt vs42 3), (nt vs42 4), (nt vs42 5), (nt vs42 6), (nt vs42 7), (nt vs42 8), (nt vs42 9), (nt vs42 10), (nt vs42 11), (nt vs42 12), (nt vs42 13), (nt vs42 14), (nt vs42 15), (nt vs42 16), (nt vs42 17), (nt vs42 18), (nt vs42 19), (nt vs42 20), (nt vs42 21), (nt vs42 22), (nt vs42 23), (nt vs42 24), (nt vs42 25), (nt vs42 26), (nt vs42 27), (nt vs42 28), (nt vs42 29), (nt vs42 30), (nt vs42 31), (nt vs42 32), (nt vs42 33), (nt vs42 34), (nt vs42 35), (nt vs42 36), (nt vs42 37), (nt vs42 38), (nt vs42 39), (nt vs42 40), (nt vs42 41), (nt vs42 42), (nt vs42 43), (nt vs42 44), (nt vs42 45), (nt vs42 46)], h43, []⟩)
noncomputable def F_k89_L506 (call : CallF) (lp : LoopF) : List Value → H → Option LOut := fun vs180 h181 =>
 ob (rLenL (nt vs180 6)) fun v182 =>
 ob (bI .lss (nt vs180 7) v182) fun v183 =>
 jn3 (fun vs185 h186 l187 =>
 jn3 (fun vs189 h190 l191 =>
 ob (bI .add (nt vs189 7) (.int .i64 1)) fun v192 =>
 some ⟨.normal, [(nt vs189 0), (nt vs189 1), (nt vs189 2), (nt vs189 3), (nt vs189 4), (nt vs189 5), (nt vs189 6), v192, (nt vs189 8), (nt vs189 9), (nt vs189 10), (nt vs189 11), (nt vs189 12), (nt vs189 13), (nt vs189 14), (nt vs189 15), (nt vs189 16), (nt vs189 17), (nt vs189 18), (nt vs189 19), (nt vs189 20), (nt vs189 21), (nt vs189 22), (nt vs189 23), (nt vs189 24), (nt vs189 25), (nt vs189 26), (nt vs189 27), (nt vs189 28), (nt vs189 29), (nt vs189 30), (nt vs189 31), (nt vs189 32), (nt vs189 33), (nt vs189 34), (nt vs189 35), (nt vs189 36), (nt vs189 37), (nt vs189 38), (nt vs189 39), (nt vs189 40), (nt vs189 41), (nt vs189 42), (nt vs189 43), (nt vs189 44), (nt vs189 45), (nt vs189 46), (nt vs189 47), (nt vs189 48), (nt vs189 49), (nt vs189 50), (nt vs189 51), (nt vs189 52)], h190, l191⟩) fun j188 =>
 ob (rFld 1 (nt vs185 5)) fun v193 =>
 ob (rLd1 h186.get v193) fun v194 =>
 ob (rIdxS 4 v194 (nt vs185 7)) fun v195 =>
 ob (rFld 3 v195) fun v196 =>
 ob (rLd1 h186.get v196) fun v197 =>
 ob (binV pgB.ty (tyD .string) .eql v197 (.string ⟨#[]⟩)) fun v198 =>
 gP (gd v198 false) (some (nt vs185 6)) fun v199 =>
 gP (gd v198 false) (some (nt vs185 7)) fun v200 =>
 gP (gd v198 false) (rIdxS 3 v199 v200) fun v201 =>
 gP (gd v198 false) (rFld 0 v201) fun v202 =>
 gP (gd v198 false) (rLd1 h186.get v202) fun v203 =>
 gP (gd v198 false) (bI .eql v203 (.int .i64 0)) fun v204 =>
 ob (rPick v198 (.bool true) v204) fun v205 =>
 jn3 (fun vs207 h208 l209 =>
 ob (rFld 1 (nt vs207 5)) fun v210 =>
 ob (rLd1 h208.get v210) fun v211 =>
 ob (rIdxS 4 v211 (nt vs207 7)) fun v212 =>
 ob (rFld 3 v212) fun v213 =>
 ob (rLd1 h208.get v213) fun v214 =>
 ob (rIdxS 3 (nt vs207 6) (nt vs207 7)) fun v215 =>
 ob (rLdA h208.get 3 v215) fun v216 =>
 hv (call (.fn N_k149) [(nt vs207 0), v214, v216] h208) fun v217 h218 l219 =>
 ob (rExtract 0 v217) fun v220 =>
 ob (rExtract 1 v217) fun v221 =>
 dr [0, 0, 2, 0, 14, 30, 62, 0, 0, 384, 896, 2047, 4095, 8191, 8191, 16383, 65535] [mP h208, mP h208, mR h208 (rdP v210), mP h208, mP h208, mP h208, mR h208 (rdP v213), mP h208, mP h208, mP h208, mR h208 (rdP v215), mH h208 (rdL [(nt vs207 0), v214, v216]) l219 h218, mP h218, mP h218, mP h218, mP h218, mP h218] fun l222 =>
 ob (unV .not v221) fun v223 =>
 jn3 (fun vs225 h226 l227 =>
 j188 [(nt vs225 0), (nt vs225 1), (nt vs225 2), (nt vs225 3), (nt vs225 4), (nt vs225 5), (nt vs225 6), (nt vs225 7), (nt vs225 8), (nt vs225 9), (nt vs225 10), (nt vs225 11), (nt vs225 12), (nt vs225 13), (nt vs225 14), (nt vs225 15), (nt vs225 16), (nt vs225 17), (nt vs225 18), (nt vs225 19), (nt vs225 20), (nt vs225 21), (nt vs225 22), (nt vs225 23), (nt vs225 24), (nt vs225 25), (nt vs225 26), (nt vs225 27), (nt vs225 28), (nt vs225 29), (nt vs225 30), (nt vs225 31), (nt vs225 32), (nt vs225 33), (nt vs225 34), (nt vs225 35), (nt vs225 36), (nt vs225 37), (nt vs225 38), (nt vs225 39), (nt vs225 40), (nt vs225 41), (nt vs225 42), (nt vs225 43), (nt vs225 44), (nt vs225 45), (nt vs225 46), (nt vs225 47), (nt vs225 48), (nt vs225 49), (nt vs225 50), (nt vs225 51), (nt vs225 52)] h226 l227) fun j224 => fork v223
 (ob (rFld 1 (nt vs207 5)) fun v228 =>
 ob (rLd1 h218.get v228) fun v229 =>
 ob (rIdxS 4 v229 (nt vs207 7)) fun v230 =>
 ob (rFld 0 v230) fun v231 =>
 ob (rLd1 h218.get v231) fun v232 =>
 dr [0, 1, 0, 7, 15, 31, 0, 127] [mP h218, mR h218 (rdP v228), mP h218, mP h218, mP h218, mR h218 (rdP v231), mP h218, mP h218] fun l233 =>
 some ⟨.ret, [(nt vs207 0), (nt vs207 1), (nt vs207 2), (.int .i64 9), v232, (nt vs207 5), (nt vs207 6), (nt vs207 7), (nt vs207 8), (nt vs207 9), (nt vs207 10), (nt vs207 11), (nt vs207 12), (nt vs207 13), (nt vs207 14), (nt vs207 15), (nt vs207 16), (nt vs207 17), (nt vs207 18), (nt vs207 19), (nt vs207 20), (nt vs207 21), (nt vs207 22), (nt vs207 23), (nt vs207 24), (nt vs207 25), (nt vs207 26), (nt vs207 27), (nt vs207 28), (nt vs207 29), (nt vs207 30), (nt vs207 31), (nt vs207 32), (nt vs207 33), (nt vs207 34), (nt vs207 35), (nt vs207 36), (nt vs207 37), (nt vs207 38), (nt vs207 39), (nt vs207 40), (nt vs207 41), (nt vs207 42), (nt vs207 43), (nt vs207 44), (nt vs207 45), (nt vs207 46), (nt vs207 47), (nt vs207 48), (nt vs207 49), (nt vs207 50), (nt vs207 51), (nt vs207 52)], h218, (l233 ++ (l222 ++ l209))⟩)
 (j224 [(nt vs207 0), (nt vs207 1), (nt vs207 2), (nt vs207 3), (nt vs207 4), (nt vs207 5), (nt vs207 6), (nt vs207 7), (nt vs207 8), (nt vs207 9), (nt vs207 10), (nt vs207 11), (nt vs207 12), (nt vs207 13), (nt vs207 14), (nt vs207 15), (nt vs207 16), (nt vs207 17), (nt vs207 18), (nt vs207 19), (nt vs207 20), (nt vs207 21), (nt vs207 22), (nt vs207 23), (nt vs207 24), (nt vs207 25), (nt vs207 26), (nt vs207 27), (nt vs207 28), (nt vs207 29), (nt vs207 30), (nt vs207 31), (nt vs207 32), (nt vs207 33), (nt vs207 34), (nt vs207 35), (nt vs207 36), (nt vs207 37), (nt vs207 38), (nt vs207 39), (nt vs207 40), (nt vs207 41), (nt vs207 42), (nt vs207 43), (nt vs207 44), (nt vs207 45), (nt vs207 46), (nt vs207 47), (nt vs207 48), (nt vs207 49), (nt vs207 50), (nt vs207 51), (nt vs207 52)] h218 (l222 ++ l209))) fun j206 => fork v205
 (j188 [(nt vs185 0), (nt vs185 1), (nt vs185 2), (nt vs185 3), (nt vs185 4), (nt vs185 5), (nt vs185 6), (nt vs185 7), v199, v200, v201, v202, v203, v204, (nt vs185 14), (nt vs185 15), (nt vs185 16), (nt vs185 17), (nt vs185 18), (nt vs185 19), (nt vs185 20), (nt vs185 21), (nt vs185 22), (nt vs185 23), (nt vs185 24), (nt vs185 25), (nt vs185 26), (nt vs185 27), (nt vs185 28), (nt vs185 29), (nt vs185 30), (nt vs185 31), (nt vs185 32), (nt vs185 33), (nt vs185 34), (nt vs185 35), (nt vs185 36), (nt vs185 37), (nt vs185 38), (nt vs185 39), (nt vs185 40), (nt vs185 41), (nt vs185 42), (nt vs185 43), (nt vs185 44), (nt vs185 45), (nt vs185 46), (nt vs185 47), (nt vs185 48), (nt vs185 49), (nt vs185 50), (nt vs185 51), (nt vs185 52)] h186 l187)
 (j206 [(nt vs185 0), (nt vs185 1), (nt vs185 2), (nt vs185 3), (nt vs185 4), (nt vs185 5), (nt vs185 6), (nt vs185 7), v199, v200, v201, v202, v203, v204, (nt vs185 14), (nt vs185 15), (nt vs185 16), (nt vs185 17), (nt vs185 18), (nt vs185 19), (nt vs185 20), (nt vs185 21), (nt vs185 22), (nt vs185 23), (nt vs185 24), (nt vs185 25), (nt vs185 26), (nt vs185 27), (nt vs185 28), (nt vs185 29), (nt vs185 30), (nt vs185 31), (nt vs185 32), (nt vs185 33), (nt vs185 34), (nt vs185 35), (nt vs185 36), (nt vs185 37), (nt vs185 38), (nt vs185 39), (nt vs185 40), (nt vs185 41), (nt vs185 42), (nt vs185 43), (nt vs185 44), (nt vs185 45), (nt vs185 46), (nt vs185 47), (nt vs185 48), (nt vs185 49), (nt vs185 50), (nt vs185 51), (nt vs185 52)] h186 l187)) fun j184 => fork v183
 (j184 [(nt vs180 0), (nt vs180 1), (nt vs180 2), (nt vs180 3), (nt vs180 4), (nt vs180 5), (nt vs180 6), (nt vs180 7), (nt vs180 8), (nt vs180 9), (nt vs180 10), (nt vs180 11), (nt vs180 12), (nt vs180 13), (nt vs180 14), (nt vs180 15), (nt vs180 16), (nt vs180 17), (nt vs180 18), (nt vs180 19), (nt vs180 20), (nt vs180 21), (nt vs180 22), (nt vs180 23), (nt vs180 24), (nt vs180 25), (nt vs180 26), (nt vs180 27), (nt vs180 28), (nt vs180 29), (nt vs180 30), (nt vs180 31), (nt vs180 32), (nt vs180 33), (nt vs180 34), (nt vs180 35), (nt vs180 36), (nt vs180 37), (nt vs180 38), (nt vs180 39), (nt vs180 40), (nt vs180 41), (nt vs180 42), (nt vs180 43), (nt vs180 44), (nt vs180 45), (nt vs180 46), (nt vs180 47), (nt vs180 48), (nt vs180 49), (nt vs180 50), (nt vs180 51), (nt vs180 52)] h181 [])
 (some ⟨(.exit 4), [(nt vs180 0), (nt vs180 1), (nt vs180 2), (nt vs180 3), (nt vs180 4), (nt vs180 5), (nt vs180 6), (nt vs180 7), (nt vs180 8), (nt vs180 9), (nt vs180 10), (nt vs180 11), (nt vs180 12), (nt vs180 13), (nt vs180 14), (nt vs180 15), (nt vs180 16), (nt vs180 17), (nt vs180 18), (nt vs180 19), (nt vs180 20), (nt vs180 21), (nt vs180 22), (nt vs180 23), (nt vs180 24), (nt vs180 25), (nt vs180 26), (nt vs180 27), (nt vs180 28), (nt vs180 29), (nt vs180 30), (nt vs180 31), (nt vs180 32), (nt vs180 33), (nt vs180 34), (nt vs180 35), (nt vs180 36), (nt vs180 37), (nt vs180 38), (nt vs180 39), (nt vs180 40), (nt vs180 41), (nt vs180 42), (nt vs180 43), (nt vs180 44), (nt vs180 45), (nt vs180 46), (nt vs180 47), (nt vs180 48), (nt vs180 49), (nt vs180 50), (nt vs180 51), (nt vs180 52)], h181, []⟩)
noncomputable def F_k89_L2010 (call : CallF) (lp : LoopF) : List Value → H → Option LOut := fun vs240 h241 =>
 ob (bI .lss (nt vs240 8) (nt vs240 2)) fun v242 =>
 jn3 (fun vs244 h245 l246 =>
 jn3 (fun vs248 h249 l250 =>
 ob (bI .add (nt vs248 8) (.int .i64 1)) fun v251 =>
 some ⟨.normal, [(nt vs248 0), (nt vs248 1), (nt vs248 2), (nt vs248 3), (nt vs248 4), (nt vs248 5), (nt vs248 6), (nt vs248 7), v251, (nt vs248 9), (nt vs248 10), (nt vs248 11), (nt vs248 12), (nt vs248 13), (nt vs248 14), (nt vs248 15), (nt vs248 16), (nt vs248 17), (nt vs248 18), (nt vs248 19), (nt vs248 20), (nt vs248 21), (nt vs248 22), (nt vs248 23), (nt vs248 24), (nt vs248 25), (nt vs248 26), (nt vs248 27), (nt vs248 28), (nt vs248 29), (nt vs248 30), (nt vs248 31), (nt vs248 32), (nt vs248 33), (nt vs248 34), (nt vs248 35), (nt vs248 36), (nt vs248 37), (nt vs248 38), (nt vs248 39), (nt vs248 40), (nt vs248 41), (nt vs248 42), (nt vs248 43), (nt vs248 44), (nt vs248 45), (nt vs248 46), (nt vs248 47), (nt vs248 48), (nt vs248 49), (nt vs248 50), (nt vs248 51), (nt vs248 52), (nt vs248 53)], h249, l250⟩) fun j247 =>
 ob (rNil (nt vs244 0)) fun v252 =>
 ob (rFld 1 v252) fun v253 =>
 ob (rLd1 h245.get v253) fun v254 =>
 ob (rIdxS 1 v254 (nt vs244 1)) fun v255 =>
 ob (rLd1 h245.get v255) fun v256 =>
 ob (rIdxS 2 v256 (nt vs244 8)) fun v257 =>
 ob (rFld 1 v257) fun v258 =>
 ob (rLd1 h245.get v258) fun v259 =>
 ob (rIdxS 3 v259 (nt vs244 7)) fun v260 =>
 ob (rLdA h245.get 3 v260) fun v261 =>
 ob (rIdxS 3 (nt vs244 6) (nt vs244 7)) fun v262 =>
 ob (rLdA h245.get 3 v262) fun v263 =>
 hv (call (.fn N_k147) [v261, v263] h245) fun v264 h265 l266 =>
 dr [0, 1, 3, 7, 0, 31, 63, 0, 255, 511, 1023, 0, 4095, 8191, 0, 0, 49152, 114688, 262143] [mP h245, mP h245, mP h245, mR h245 (rdP v253), mP h245, mP h245, mR h245 (rdP v255), mP h245, mP h245, mP h245, mR h245 (rdP v258), mP h245, mP h245, mR h245 (rdP v260), mP h245, mP h245, mP h245, mR h245 (rdP v262), mH h245 (rdL [v261, v263]) l266 h265] fun l267 =>
 jn3 (fun vs269 h270 l271 =>
 j247 [(nt vs269 0), (nt vs269 1), (nt vs269 2), (nt vs269 3), (nt vs269 4), (nt vs269 5), (nt vs269 6), (nt vs269 7), (nt vs269 8), (nt vs269 9), (nt vs269 10), (nt vs269 11), (nt vs269 12), (nt vs269 13), (nt vs269 14), (nt vs269 15), (nt vs269 16), (nt vs269 17), (nt vs269 18), (nt vs269 19), (nt vs269 20), (nt vs269 21), (nt vs269 22), (nt vs269 23), (nt vs269 24), (nt vs269 25), (nt vs269 26), (nt vs269 27), (nt vs269 28), (nt vs269 29), (nt vs269 30), (nt vs269 31), (nt vs269 32), (nt vs269 33), (nt vs269 34), (nt vs269 35), (nt vs269 36), (nt vs269 37), (nt vs269 38), (nt vs269 39), (nt vs269 40), (nt vs269 41), (nt vs269 42), (nt vs269 43), (nt vs269 44), (nt vs269 45), (nt vs269 46), (nt vs269 47), (nt vs269 48), (nt vs269 49), (nt vs269 50), (nt vs269 51), (nt vs269 52), (nt vs269 53)] h270 l271) fun j268 => fork v264
 (ob (rFld 2 (nt vs244 5)) fun v272 =>
 ob (rLd1 h265.get v272) fun v273 =>
 dr [0, 1, 0, 7] [mP h265, mR h265 (rdP v272), mP h265, mP h265] fun l274 =>
 some ⟨.ret, [(nt vs244 0), (nt vs244 1), (nt vs244 2), (.int .i64 8), v273, (nt vs244 5), (nt vs244 6), (nt vs244 7), (nt vs244 8), (nt vs244 9), (nt vs244 10), (nt vs244 11), (nt vs244 12), (nt vs244 13), (nt vs244 14), (nt vs244 15), (nt vs244 16), (nt vs244 17), (nt vs244 18), (nt vs244 19), (nt vs244 20), (nt vs244 21), (nt vs244 22), (nt vs244 23), (nt vs244 24), (nt vs244 25), (nt vs244 26), (nt vs244 27), (nt vs244 28), (nt vs244 29), (nt vs244 30), (nt vs244 31), (nt vs244 32), (nt vs244 33), (nt vs244 34), (nt vs244 35), (nt vs244 36), (nt vs244 37), (nt vs244 38), (nt vs244 39), (nt vs244 40), (nt vs244 41), (nt vs244 42), (nt vs244 43), (nt vs244 44), (nt vs244 45), (nt vs244 46), (nt vs244 47), (nt vs244 48), (nt vs244 49), (nt vs244 50), (nt vs244 51), (nt vs244 52), (nt vs244 53)], h265, (l274 ++ (l267 ++ l246))⟩)
 (j268 [(nt vs244 0), (nt vs244 1), (nt vs244 2), (nt vs244 3), (nt vs244 4), (nt vs244 5), (nt vs244 6), (nt vs244 7), (nt vs244 8), (nt vs244 9), (nt vs244 10), (nt vs244 11), (nt vs244 12), (nt vs244 13), (nt vs244 14), (nt vs244 15), (nt vs244 16), (nt vs244 17), (nt vs244 18), (nt vs244 19), (nt vs244 20), (nt vs244 21), (nt vs244 22), (nt vs244 23), (nt vs244 24), (nt vs244 25), (nt vs244 26), (nt vs244 27), (nt vs244 28), (nt vs244 29), (nt vs244 30), (nt vs244 31), (nt vs244 32), (nt vs244 33), (nt vs244 34), (nt vs244 35), (nt vs244 36), (nt vs244 37), (nt vs244 38), (nt vs244 39), (nt vs244 40), (nt vs244 41), (nt vs244 42), (nt vs244 43), (nt vs244 44), (nt vs244 45), (nt vs244 46), (nt vs244 47), (nt vs244 48), (nt vs244 49), (nt vs244 50), (nt vs244 51), (nt vs244 52), (nt vs244 53)] h265 (l267 ++ l246))) fun j243 => fork v242
 (j243 [(nt vs240 0), (nt vs240 1), (nt vs240 2), (nt vs240 3), (nt vs240 4), (nt vs240 5), (nt vs240 6), (nt vs240 7), (nt vs240 8), (nt vs240 9), (nt vs240 10), (nt vs240 11), (nt vs240 12), (nt vs240 13), (nt vs240 14), (nt vs240 15), (nt vs240 16), (nt vs240 17), (nt vs240 18), (nt vs240 19), (nt vs240 20), (nt vs240 21), (nt vs240 22), (nt vs240 23), (nt vs240 24), (nt vs240 25), (nt vs240 26), (nt vs240 27), (nt vs240 28), (nt vs240 29), (nt vs240 30), (nt vs240 31), (nt vs240 32), (nt vs240 33), (nt vs240 34), (nt vs240 35), (nt vs240 36), (nt vs240 37), (nt vs240 38), (nt vs240 39), (nt vs240 40), (nt vs240 41), (nt vs240 42), (nt vs240 43), (nt vs240 44), (nt vs240 45), (nt vs240 46), (nt vs240 47), (nt vs240 48), (nt vs240 49), (nt vs240 50), (nt vs240 51), (nt vs240 52), (nt vs240 53)] h241 [])
 (some ⟨(.exit 2), [(nt vs240 0), (nt vs240 1), (nt vs240 2), (nt vs240 3), (nt vs240 4), (nt vs240 5), (nt vs240 6), (nt vs240 7), (nt vs240 8), (nt vs240 9), (nt vs240 10), (nt vs240 11), (nt vs240 12), (nt vs240 13), (nt vs240 14), (nt vs240 15), (nt vs240 16), (nt vs240 17), (nt vs240 18), (nt vs240 19), (nt vs240 20), (nt vs240 21), (nt vs240 22), (nt vs240 23), (nt vs240 24), (nt vs240 25), (nt vs240 26), (nt vs240 27), (nt vs240 28), (nt vs240 29), (nt vs240 30), (nt vs240 31), (nt vs240 32), (nt vs240 33), (nt vs240 34), (nt vs240 35), (nt vs240 36), (nt vs240 37), (nt vs240 38), (nt vs240 39), (nt vs240 40), (nt vs240 41), (nt vs240 42), (nt vs240 43), (nt vs240 44), (nt vs240 45), (nt vs240 46), (nt vs240 47), (nt vs240 48), (nt vs240 49), (nt vs240 50), (nt vs240 51), (nt vs240 52), (nt vs240 53)], h241, []⟩)
noncomputable def F_k89_L122 (call : CallF) (lp : LoopF) : List Value → H → Option LOut := fun vs277 h278 =>
 ob (rLenL (nt vs277 6)) fun v279 =>
 ob (bI .lss (nt vs277 7) v279) fun v280 =>
 jn3 (fun vs282 h283 l284 =>
 jn3 (fun vs286 h287 l288 =>
 ob (bI .add (nt vs286 7) (.int .i64 1)) fun v289 =>
 some ⟨.normal, [(nt vs286 0), (nt vs286 1), (nt vs286 2), (nt vs286 3), (nt vs286 4), (nt vs286 5), (nt vs286 6), v289, (nt vs286 8), (nt vs286 9), (nt vs286 10), (nt vs286 11), (nt vs286 12), (nt vs286 13), (nt vs286 14), (nt vs286 15), (nt vs286 16), (nt vs286 17), (nt vs286 18), (nt vs286 19), (nt vs286 20), (nt vs286 21), (nt vs286 22), (nt vs286 23), (nt vs286 24), (nt vs286 25), (nt vs286 26), (nt vs286 27), (nt vs286 28), (nt vs286 29), (nt vs286 30), (nt vs286 31), (nt vs286 32), (nt vs286 33), (nt vs286 34), (nt vs286 35), (nt vs286 36), (nt vs286 37), (nt vs286 38), (nt vs286 39), (nt vs286 40), (nt vs286 41), (nt vs286 42), (nt vs286 43), (nt vs286 44), (nt vs286 45), (nt vs286 46), (nt vs286 47), (nt vs286 48), (nt vs286 49), (nt vs286 50), (nt vs286 51), (nt vs286 52), (nt vs286 53), (nt vs286 54), (nt vs286 55), (nt vs286 56), (nt vs286 57), (nt vs286 58)], h287, l288⟩) fun j285 =>
 ob (rFld 1 (nt vs282 5)) fun v290 =>
 ob (rLd1 h283.get v290) fun v291 =>
 ob (rIdxS 4 v291 (nt vs282 7)) fun v292 =>
 ob (rFld 2 v292) fun v293 =>
 ob (rLd1 h283.get v293) fun v294 =>
 gP (gd v294 true) (some (nt vs282 6)) fun v295 =>
 gP (gd v294 true) (some (nt vs282 7)) fun v296 =>
 gP (gd v294 true) (rIdxS 3 v295 v296) fun v297 =>
 gP (gd v294 true) (rFld 0 v297) fun v298 =>
 gP (gd v294 true) (rLd1 h283.get v298) fun v299 =>
 gP (gd v294 true) (bI .eql v299 (.int .i64 0)) fun v300 =>
 ob (rPick v294 v300 (.bool false)) fun v301 =>
 jn3 (fun vs303 h304 l305 =>
 j285 [(nt vs303 0), (nt vs303 1), (nt vs303 2), (nt vs303 3), (nt vs303 4), (nt vs303 5), (nt vs303 6), (nt vs303 7), (nt vs303 8), (nt vs303 9), (nt vs303 10), (nt vs303 11), (nt vs303 12), (nt vs303 13), (nt vs303 14), (nt vs303 15), (nt vs303 16), (nt vs303 17), (nt vs303 18), (nt vs303 19), (nt vs303 20), (nt vs303 21), (nt vs303 22), (nt vs303 23), (nt vs303 24), (nt vs303 25), (nt vs303 26), (nt vs303 27), (nt vs303 28), (nt vs303 29), (nt vs303 30), (nt vs303 31), (nt vs303 32), (nt vs303 33), (nt vs303 34), (nt vs303 35), (nt vs303 36), (nt vs303 37), (nt vs303 38), (nt vs303 39), (nt vs303 40), (nt vs303 41), (nt vs303 42), (nt vs303 43), (nt vs303 44), (nt vs303 45), (nt vs303 46), (nt vs303 47), (nt vs303 48), (nt vs303 49), (nt vs303 50), (nt vs303 51), (nt vs303 52), (nt vs303 53), (nt vs303 54), (nt vs303 55), (nt vs303 56), (nt vs303 57), (nt vs303 58)] h304 l305) fun j302 => fork v301
 (ob (rFld 1 (nt vs282 5)) fun v306 =>
 ob (rLd1 h283.get v306) fun v307 =>
 ob (rIdxS 4 v307 (nt vs282 7)) fun v308 =>
 ob (rFld 0 v308) fun v309 =>
 ob (rLd1 h283.get v309) fun v310 =>
 dr [0, 1, 0, 7, 15, 31, 0, 127] [mP h283, mR h283 (rdP v306), mP h283, mP h283, mP h283, mR h283 (rdP v309), mP h283, mP h283] fun l311 =>
 some ⟨.ret, [(nt vs282 0), (nt vs282 1), (nt vs282 2), (.int .i64 7), v310, (nt vs282 5), (nt vs282 6), (nt vs282 7), v295, v296, v297, v298, v299, v300, (nt vs282 14), (nt vs282 15), (nt vs282 16), (nt vs282 17), (nt vs282 18), (nt vs282 19), (nt vs282 20), (nt vs282 21), (nt vs282 22), (nt vs282 23), (nt vs282 24), (nt vs282 25), (nt vs282 26), (nt vs282 27), (nt vs282 28), (nt vs282 29), (nt vs282 30), (nt vs282 31), (nt vs282 32), (nt vs282 33), (nt vs282 34), (nt vs282 35), (nt vs282 36), (nt vs282 37), (nt vs282 38), (nt vs282 39), (nt vs282 40), (nt vs282 41), (nt vs282 42), (nt vs282 43), (nt vs282 44), (nt vs282 45), (nt vs282 46), (nt vs282 47), (nt vs282 48), (nt vs282 49), (nt vs282 50), (nt vs282 51), (nt vs282 52), (nt vs282 53), (nt vs282 54), (nt vs282 55), (nt vs282 56), (nt vs282 57), (nt vs282 58)], h283, (l311 ++ l284)⟩)
 (j302 [(nt vs282 0), (nt vs282 1), (nt vs282 2), (nt vs282 3), (nt vs282 4), (nt vs282 5), (nt vs282 6), (nt vs282 7), v295, v296, v297, v298, v299, v300, (nt vs282 14), (nt vs282 15), (nt vs282 16), (nt vs282 17), (nt vs282 18), (nt vs282 19), (nt vs282 20), (nt vs282 21), (nt vs282 22), (nt vs282 23), (nt vs282 24), (nt vs282 25), (nt vs282 26), (nt vs282 27), (nt vs282 28), (nt vs282 29), (nt vs282 30), (nt vs282 31), (nt vs282 32), (nt vs282 33), (nt vs282 34), (nt vs282 35), (nt vs282 36), (nt vs282 37), (nt vs282 38), (nt vs282 39), (nt vs282 40), (nt vs282 41), (nt vs282 42), (nt vs282 43), (nt vs282 44), (nt vs282 45), (nt vs282 46), (nt vs282 47), (nt vs282 48), (nt vs282 49), (nt vs282 50), (nt vs282 51), (nt vs282 52), (nt vs282 53), (nt vs282 54), (nt vs282 55), (nt vs282 56), (nt vs282 57), (nt vs282 58)] h283 l284)) fun j281 => fork v280
 (j281 [(nt vs277 0), (nt vs277 1), (nt vs277 2), (nt vs277 3), (nt vs277 4), (nt vs277 5), (nt vs277 6), (nt vs277 7), (nt vs277 8), (nt vs277 9), (nt vs277 10), (nt vs277 11), (nt vs277 12), (nt vs277 13), (nt vs277 14), (nt vs277 15), (nt vs277 16), (nt vs277 17), (nt vs277 18), (nt vs277 19), (nt vs277 20), (nt vs277 21), (nt vs277 22), (nt vs277 23), (nt vs277 24), (nt vs277 25), (nt vs277 26), (nt vs277 27), (nt vs277 28), (nt vs277 29), (nt vs277 30), (nt vs277 31), (nt vs277 32), (nt vs277 33), (nt vs277 34), (nt vs277 35), (nt vs277 36), (nt vs277 37), (nt vs277 38), (nt vs277 39), (nt vs277 40), (nt vs277 41), (nt vs277 42), (nt vs277 43), (nt vs277 44), (nt vs277 45), (nt vs277 46), (nt vs277 47), (nt vs277 48), (nt vs277 49), (nt vs277 50), (nt vs277 51), (nt vs277 52), (nt vs277 53), (nt vs277 54), (nt vs277 55), (nt vs277 56), (nt vs277 57), (nt vs277 58)] h278 [])
 (some ⟨(.exit 0), [(nt vs277 0), (nt vs277 1), (nt vs277 2), (nt vs277 3), (nt vs277 4), (nt vs277 5), (nt vs277 6), (nt vs277 7), (nt vs277 8), (nt vs277 9), (nt vs277 10), (nt vs277 11), (nt vs277 12), (nt vs277 13), (nt vs277 14), (nt vs277 15), (nt vs277 16), (nt vs277 17), (nt vs277 18), (nt vs277 19), (nt vs277 20), (nt vs277 21), (nt vs277 22), (nt vs277 23), (nt vs277 24), (nt vs277 25), (nt vs277 26), (nt vs277 27), (nt vs277 28), (nt vs277 29), (nt vs277 30), (nt vs277 31), (nt vs277 32), (nt vs277 33), (nt vs277 34), (nt vs277 35), (nt vs277 36), (nt vs277 37), (nt vs277 38), (nt vs277 39), (nt vs277 40), (nt vs277 41), (nt vs277 42), (nt vs277 43), (nt vs277 44), (nt vs277 45), (nt vs277 46), (nt vs277 47), (nt vs277 48), (nt vs277 49), (nt vs277 50), (nt vs277 51), (nt vs277 52), (nt vs277 53), (nt vs277 54), (nt vs277 55), (nt vs277 56), (nt vs277 57), (nt vs277 58)], h278, []⟩)
noncomputable def F_k89 (call : CallF) (lp : LoopF) (x0 : Value) (x1 : Value) (x2 : Value) (h : H) : Option (Value × H × List Nat) :=
 ob (rNil x0) fun v0 =>
 ob (rFld 0 v0) fun v1 =>
 ob (rLd1 h.get v1) fun v2 =>
 ob (rIdxS 4 v2 x1) fun v3 =>
 ob (rLdA h.get 4 v3) fun v4 =>
 ob (rNil x0) fun v5 =>
 ob (rFld 1 v5) fun v6 =>
 ob (rLd1 h.get v6) fun v7 =>
 ob (rIdxS 1 v7 x1) fun v8 =>
 ob (rLd1 h.get v8) fun v9 =>
 ob (rIdxS 2 v9 x2) fun v10 =>
 ob (rFld 1 v10) fun v11 =>
 ob (rLd1 h.get v11) fun v12 =>
 al (aNew h.n T_api_Table [(.string ⟨#[]⟩), (.slice none 0 0), (.string ⟨#[]⟩), (.slice none 0 0)]) h fun v13 h14 =>
 hv (rStore h14 4 v13 v4) fun v15 h16 l17 =>
 dr [0, 1, 3, 7, 0, 31, 63, 0, 128, 384, 896, 0, 3968, 8064, 0, 32640, 65408, 130944, 0, 262271, 1048575] [mP h, mP h, mP h, mR h (rdP v1), mP h, mP h, mR h (rdP v3), mP h, mP h, mP h, mR h (rdP v6), mP h, mP h, mR h (rdP v8), mP h, mP h, mP h, mR h (rdP v11), mA h [], mH h14 [] l17 h16, mP h16] fun l18 =>
 jn3 (fun vs20 h21 l22 =>
 ob (rLdA h21.get 4 (nt vs20 5)) fun v23 =>
 ob (rFld 2 (nt vs20 5)) fun v24 =>
 ob (rLd1 h21.get v24) fun v25 =>
 hv (call (.fn N_k148) [v23, v25] h21) fun v26 h27 l28 =>
 ob (bI .geq v26 (.int .i64 0)) fun v29 =>
 jn3 (fun vs31 h32 l33 =>
 jn3 (fun vs35 h36 l37 =>
 jn3 (fun vs39 h40 l41 =>
 fin h (rsT (.int .i64 0) (rsT (.string ⟨#[]⟩) (some []))) h40 l41) fun j38 =>
 ob (lp (F_k89_L1018 call lp) [(nt vs35 0), (nt vs35 1), (nt vs35 2), (nt vs35 3), (nt vs35 4), (nt vs35 5), (nt vs35 6), (.int .i64 0), (nt vs35 7), (nt vs35 8), (nt vs35 9), (nt vs35 10), (nt vs35 11), (nt vs35 12), (nt vs35 13), (nt vs35 14), (nt vs35 15), (nt vs35 16), (nt vs35 17), (nt vs35 18), (nt vs35 19), (nt vs35 20), (nt vs35 21), (nt vs35 22), (nt vs35 23), (nt vs35 24), (nt vs35 25), (nt vs35 26), (nt vs35 27), (nt vs35 28), (nt vs35 29), (nt vs35 30), (nt vs35 31), (nt vs35 32), (nt vs35 33), (nt vs35 34), (nt vs35 35), (nt vs35 36), (nt vs35 37), (nt vs35 38), (nt vs35 39), (nt vs35 40), (nt vs35 41), (nt vs35 42), (nt vs35 43), (nt vs35 44), (nt vs35 45)] h36) fun o178 =>
 onEx o178.ex (j38 [] o178.h (o178.lg ++ l37)) (fun i179 => bif Nat.beq i179 6 then j38 [] o178.h (o178.lg ++ l37) else none) (fin h (rsT (nt o178.vs 3) (rsT (nt o178.vs 4) (some []))) o178.h (o178.lg ++ l37))) fun j34 =>
 ob (lp (F_k89_L506 call lp) [(nt vs31 0), (nt vs31 1), (nt vs31 2), (nt vs31 3), (nt vs31 4), (nt vs31 5), (nt vs31 6), (.int .i64 0), (nt vs31 7), (nt vs31 8), (nt vs31 9), (nt vs31 10), (nt vs31 11), (nt vs31 12), (nt vs31 13), (nt vs31 14), (nt vs31 15), (nt vs31 16), (nt vs31 17), (nt vs31 18), (nt vs31 19), (nt vs31 20), (nt vs31 21), (nt vs31 22), (nt vs31 23), (nt vs31 24), (nt vs31 25), (nt vs31 26), (nt vs31 27), (nt vs31 28), (nt vs31 29), (nt vs31 30), (nt vs31 31), (nt vs31 32), (nt vs31 33), (nt vs31 34), (nt vs31 35), (nt vs31 36), (nt vs31 37), (nt vs31 38), (nt vs31 39), (nt vs31 40), (nt vs31 41), (nt vs31 42), (nt vs31 43), (nt vs31 44), (nt vs31 45), (nt vs31 46), (nt vs31 47), (nt vs31 48), (nt vs31 49), (nt vs31 50), (nt vs31 51)] h32) fun o234 =>
 onEx o234.ex (j34 [(nt o234.vs 0), (nt o234.vs 1), (nt o234.vs 2), (nt o234.vs 3), (nt o234.vs 4), (nt o234.vs 5), (nt o234.vs 6), (nt o234.vs 14), (nt o234.vs 15), (nt o234.vs 16), (nt o234.vs 17), (nt o234.vs 18), (nt o234.vs 19), (nt o234.vs 20), (nt o234.vs 21), (nt o234.vs 22), (nt o234.vs 23), (nt o234.vs 24), (nt o234.vs 25), (nt o234.vs 26), (nt o234.vs 27), (nt o234.vs 28), (nt o234.vs 29), (nt o234.vs 30), (nt o234.vs 31), (nt o234.vs 32), (nt o234.vs 33), (nt o234.vs 34), (nt o234.vs 35), (nt o234.vs 36), (nt o234.vs 37), (nt o234.vs 38), (nt o234.vs 39), (nt o234.vs 40), (nt o234.vs 41), (nt o234.vs 42), (nt o234.vs 43), (nt o234.vs 44), (nt o234.vs 45), (nt o234.vs 46), (nt o234.vs 47), (nt o234.vs 48), (nt o234.vs 49), (nt o234.vs 50), (nt o234.vs 51), (nt o234.vs 52)] o234.h (o234.lg ++ l33)) (fun i235 => bif Nat.beq i235 4 then j34 [(nt o234.vs 0), (nt o234.vs 1), (nt o234.vs 2), (nt o234.vs 3), (nt o234.vs 4), (nt o234.vs 5), (nt o234.vs 6), (nt o234.vs 14), (nt o234.vs 15), (nt o234.vs 16), (nt o234.vs 17), (nt o234.vs 18), (nt o234.vs 19), (nt o234.vs 20), (nt o234.vs 21), (nt o234.vs 22), (nt o234.vs 23), (nt o234.vs 24), (nt o234.vs 25), (nt o234.vs 26), (nt o234.vs 27), (nt o234.vs 28), (nt o234.vs 29), (nt o234.vs 30), (nt o234.vs 31), (nt o234.vs 32), (nt o234.vs 33), (nt o234.vs 34), (nt o234.vs 35), (nt o234.vs 36), (nt o234.vs 37), (nt o234.vs 38), (nt o234.vs 39), (nt o234.vs 40), (nt o234.vs 41), (nt o234.vs 42), (nt o234.vs 43), (nt o234.vs 44), (nt o234.vs 45), (nt o234.vs 46), (nt o234.vs 47), (nt o234.vs 48), (nt o234.vs 49), (nt o234.vs 50), (nt o234.vs 51), (nt o234.vs 52)] o234.h (o234.lg ++ l33) else none) (fin h (rsT (nt o234.vs 3) (rsT (nt o234.vs 4) (some []))) o234.h (o234.lg ++ l33))) fun j30 => fork v29
 (jn3 (fun vs237 h238 l239 =>
 j30 [(nt vs237 0), (nt vs237 1), (nt vs237 2), (nt vs237 3), (nt vs237 4), (nt vs237 5), (nt vs237 6), (nt vs237 7), (nt vs237 8), (nt vs237 9), (nt vs237 10), (nt vs237 11), (nt vs237 12), (nt vs237 13), (nt vs237 14), (nt vs237 15), (nt vs237 16), (nt vs237 17), (nt vs237 18), (nt vs237 19), (nt vs237 20), (nt vs237 21), (nt vs237 22), (nt vs237 23), (nt vs237 24), (nt vs237 25), (nt vs237 26), (nt vs237 27), (nt vs237 28), (nt vs237 29), (nt vs237 30), (nt vs237 31), (nt vs237 32), (nt vs237 33), (nt vs237 34), (nt vs237 35), (nt vs237 36), (nt vs237 37), (nt vs237 38), (nt vs237 39), (nt vs237 40), (nt vs237 41), (nt vs237 42), (nt vs237 43), (nt vs237 44), (nt vs237 45), (nt vs237 46), (nt vs237 47), (nt vs237 48), (nt vs237 49), (nt vs237 50), (nt vs237 51)] h238 l239) fun j236 =>
 ob (lp (F_k89_L2010 call lp) [(nt vs20 0), (nt vs20 1), (nt vs20 2), (nt vs20 3), (nt vs20 4), (nt vs20 5), (nt vs20 6), v26, (.int .i64 0), (nt vs20 7), (nt vs20 8), (nt vs20 9), (nt vs20 10), (nt vs20 11), (nt vs20 12), (nt vs20 13), (nt vs20 14), (nt vs20 15), (nt vs20 16), (nt vs20 17), (nt vs20 18), (nt vs20 19), (nt vs20 20), (nt vs20 21), (nt vs20 22), (nt vs20 23), (nt vs20 24), (nt vs20 25), (nt vs20 26), (nt vs20 27), (nt vs20 28), (nt vs20 29), (nt vs20 30), (nt vs20 31), (nt vs20 32), (nt vs20 33), (nt vs20 34), (nt vs20 35), (nt vs20 36), (nt vs20 37), (nt vs20 38), (nt vs20 39), (nt vs20 40), (nt vs20 41), (nt vs20 42), (nt vs20 43), (nt vs20 44), (nt vs20 45), (nt vs20 46), (nt vs20 47), (nt vs20 48), (nt vs20 49), (nt vs20 50), (nt vs20 51)] h27) fun o275 =>
 onEx o275.ex (j236 [(nt o275.vs 0), (nt o275.vs 1), (nt o275.vs 2), (nt o275.vs 3), (nt o275.vs 4), (nt o275.vs 5), (nt o275.vs 6), (nt o275.vs 9), (nt o275.vs 10), (nt o275.vs 11), (nt o275.vs 12), (nt o275.vs 13), (nt o275.vs 14), (nt o275.vs 15), (nt o275.vs 16), (nt o275.vs 17), (nt o275.vs 18), (nt o275.vs 19), (nt o275.vs 20), (nt o275.vs 21), (nt o275.vs 22), (nt o275.vs 23), (nt o275.vs 24), (nt o275.vs 25), (nt o275.vs 26), (nt o275.vs 27), (nt o275.vs 28), (nt o275.vs 29), (nt o275.vs 30), (nt o275.vs 31), (nt o275.vs 32), (nt o275.vs 33), (nt o275.vs 34), (nt o275.vs 35), (nt o275.vs 36), (nt o275.vs 37), (nt o275.vs 38), (nt o275.vs 39), (nt o275.vs 40), (nt o275.vs 41), (nt o275.vs 42), (nt o275.vs 43), (nt o275.vs 44), (nt o275.vs 45), (nt o275.vs 46), (nt o275.vs 47), (nt o275.vs 48), (nt o275.vs 49), (nt o275.vs 50), (nt o275.vs 51), (nt o275.vs 52), (nt o275.vs 53)] o275.h (o275.lg ++ (l28 ++ l22))) (fun i276 => bif Nat.beq i276 2 then j236 [(nt o275.vs 0), (nt o275.vs 1), (nt o275.vs 2), (nt o275.vs 3), (nt o275.vs 4), (nt o275.vs 5), (nt o275.vs 6), (nt o275.vs 9), (nt o275.vs 10), (nt o275.vs 11), (nt o275.vs 12), (nt o275.vs 13), (nt o275.vs 14), (nt o275.vs 15), (nt o275.vs 16), (nt o275.vs 17), (nt o275.vs 18), (nt o275.vs 19), (nt o275.vs 20), (nt o275.vs 21), (nt o275.vs 22), (nt o275.vs 23), (nt o275.vs 24), (nt o275.vs 25), (nt o275.vs 26), (nt o275.vs 27), (nt o275.vs 28), (nt o275.vs 29), (nt o275.vs 30), (nt o275.vs 31), (nt o275.vs 32), (nt o275.vs 33), (nt o275.vs 34), (nt o275.vs 35), (nt o275.vs 36), (nt o275.vs 37), (nt o275.vs 38), (nt o275.vs 39), (nt o275.vs 40), (nt o275.vs 41), (nt o275.vs 42), (nt o275.vs 43), (nt o275.vs 44), (nt o275.vs 45), (nt o275.vs 46), (nt o275.vs 47), (nt o275.vs 48), (nt o275.vs 49), (nt o275.vs 50), (nt o275.vs 51), (nt o275.vs 52), (nt o275.vs 53)] o275.h (o275.lg ++ (l28 ++ l22)) else none) (fin h (rsT (nt o275.vs 3) (rsT (nt o275.vs 4) (some []))) o275.h (o275.lg ++ (l28 ++ l22))))
 (j30 [(nt vs20 0), (nt vs20 1), (nt vs20 2), (nt vs20 3), (nt vs20 4), (nt vs20 5), (nt vs20 6), (nt vs20 7), (nt vs20 8), (nt vs20 9), (nt vs20 10), (nt vs20 11), (nt vs20 12), (nt vs20 13), (nt vs20 14), (nt vs20 15), (nt vs20 16), (nt vs20 17), (nt vs20 18), (nt vs20 19), (nt vs20 20), (nt vs20 21), (nt vs20 22), (nt vs20 23), (nt vs20 24), (nt vs20 25), (nt vs20 26), (nt vs20 27), (nt vs20 28), (nt vs20 29), (nt vs20 30), (nt vs20 31), (nt vs20 32), (nt vs20 33), (nt vs20 34), (nt vs20 35), (nt vs20 36), (nt vs20 37), (nt vs20 38), (nt vs20 39), (nt vs20 40), (nt vs20 41), (nt vs20 42), (nt vs20 43), (nt vs20 44), (nt vs20 45), (nt vs20 46), (nt vs20 47), (nt vs20 48), (nt vs20 49), (nt vs20 50), (nt vs20 51)] h27 (l28 ++ l22))) fun j19 =>
 ob (lp (F_k89_L122 call lp) [x0, x1, x2, (.int .i64 0), (.string ⟨#[]⟩), v13, v12, (.int .i64 0), poison, poison, poison, poison, poison, poison, poison, poison, poison, poison, poison, poison, poison, poison, poison, poison, poison, poison, poison, poison, poison, poison, poison, poison, poison, poison, poison, poison, poison, poison, poison, poison, poison, poison, poison, poison, poison, poison, poison, poison, poison, poison, poison, poison, poison, poison, poison, poison, poison, poison, poison] h16) fun o312 =>
 onEx o312.ex (j19 [(nt o312.vs 0), (nt o312.vs 1), (nt o312.vs 2), (nt o312.vs 3), (nt o312.vs 4), (nt o312.vs 5), (nt o312.vs 6), (nt o312.vs 14), (nt o312.vs 15), (nt o312.vs 16), (nt o312.vs 17), (nt o312.vs 18), (nt o312.vs 19), (nt o312.vs 20), (nt o312.vs 21), (nt o312.vs 22), (nt o312.vs 23), (nt o312.vs 24), (nt o312.vs 25), (nt o312.vs 26), (nt o312.vs 27), (nt o312.vs 28), (nt o312.vs 29), (nt o312.vs 30), (nt o312.vs 31), (nt o312.vs 32), (nt o312.vs 33), (nt o312.vs 34), (nt o312.vs 35), (nt o312.vs 36), (nt o312.vs 37), (nt o312.vs 38), (nt o312.vs 39), (nt o312.vs 40), (nt o312.vs 41), (nt o312.vs 42), (nt o312.vs 43), (nt o312.vs 44), (nt o312.vs 45), (nt o312.vs 46), (nt o312.vs 47), (nt o312.vs 48), (nt o312.vs 49), (nt o312.vs 50), (nt o312.vs 51), (nt o312.vs 52), (nt o312.vs 53), (nt o312.vs 54), (nt o312.vs 55), (nt o312.vs 56), (nt o312.vs 57), (nt o312.vs 58)] o312.h (o312.lg ++ (l18 ++ []))) (fun i313 => bif Nat.beq i313 0 then j19 [(nt o312.vs 0), (nt o312.vs 1), (nt o312.vs 2), (nt o312.vs 3), (nt o312.vs 4), (nt o312.vs 5), (nt o312.vs 6), (nt o312.vs 14), (nt o312.vs 15), (nt o312.vs 16), (nt o312.vs 17), (nt o312.vs 18), (nt o312.vs 19), (nt o312.vs 20), (nt o312.vs 21), (nt o312.vs 22), (nt o312.vs 23), (nt o312.vs 24), (nt o312.vs 25), (nt o312.vs 26), (nt o312.vs 27), (nt o312.vs 28), (nt o312.vs 29), (nt o312.vs 30), (nt o312.vs 31), (nt o312.vs 32), (nt o312.vs 33), (nt o312.vs 34), (nt o312.vs 35), (nt o312.vs 36), (nt o312.vs 37), (nt o312.vs 38), (nt o312.vs 39), (nt o312.vs 40), (nt o312.vs 41), (nt o312.vs 42), (nt o312.vs 43), (nt o312.vs 44), (nt o312.vs 45), (nt o312.vs 46), (nt o312.vs 47), (nt o312.vs 48), (nt o312.vs 49), (nt o312.vs 50), (nt o312.vs 51), (nt o312.vs 52), (nt o312.vs 53), (nt o312.vs 54), (nt o312.vs 55), (nt o312.vs 56), (nt o312.vs 57), (nt o312.vs 58)] o312.h (o312.lg ++ (l18 ++ [])) else none) (fin h (rsT (nt o312.vs 3) (rsT (nt o312.vs 4) (some []))) o312.h (o312.lg ++ (l18 ++ [])))

-- 90 asterism/table.New
noncomputable def F_k90_L122 (call : CallF) (lp : LoopF) : List Value → H → Option LOut := fun vs13 h14 =>
 ob (bI .lss (nt vs13 4) (nt vs13 3)) fun v15 =>
 jn3 (fun vs17 h18 l19 =>
 jn3 (fun vs21 h22 l23 =>
 ob (bI .add (nt vs21 4) (.int .i64 1)) fun v24 =>
 some ⟨.normal, [(nt vs21 0), (nt vs21 1), (nt vs21 2), (nt vs21 3), v24], h22, l23⟩) fun j20 =>
 ob (rIdxS 4 (nt vs17 2) (nt vs17 4)) fun v25 =>
 ob (rLdA h18.get 4 v25) fun v26 =>
 al (aNew h18.n T_api_Col [(.string ⟨#[]⟩), (.int .i64 0), (.bool false), (.string ⟨#[]⟩)]) h18 fun v27 h28 =>
 hv (rStore h28 4 v27 v26) fun v29 h30 l31 =>
 ob (rNil (nt vs17 1)) fun v32 =>
 ob (rFld 4 v32) fun v33 =>
 ob (rLd1 h30.get v33) fun v34 =>
 ob (rFld 1 v27) fun v35 =>
 ob (rLd1 h30.get v35) fun v36 =>
 hv (call (.fn N_k150) [v36] h30) fun v37 h38 l39 =>
 al (aBuildS pgB h38.n T_LPcolumn_Column 1 [(0, v37)]) h38 fun v40 h41 =>
 hv (rApp h41 T_Pcolumn_Column 1 8 [(.pointer none)] v34 v40) fun v42 h43 l44 =>
 ob (rNil (nt vs17 1)) fun v45 =>
 ob (rFld 4 v45) fun v46 =>
 hv (rStore h43 1 v46 v42) fun v47 h48 l49 =>
 dr [0, 0, 2, 6, 14, 0, 32, 96, 224, 510, 1023, 2047, 4095] [mP h30, mP h30, mP h30, mP h30, mR h30 (rdP v33), mP h30, mR h30 (rdP v35), mH h30 (rdL [v36]) l39 h38, mA h38 [], mH h41 (rdL [v34, v40]) l44 h43, mP h43, mP h43, mH h43 [] l49 h48] fun l50 =>
 j20 [(nt vs17 0), (nt vs17 1), (nt vs17 2), (nt vs17 3), (nt vs17 4)] h48 (l50 ++ (l31 ++ l19))) fun j16 => fork v15
 (j16 [(nt vs13 0), (nt vs13 1), (nt vs13 2), (nt vs13 3), (nt vs13 4)] h14 [])
 (some ⟨(.exit 0), [(nt vs13 0), (nt vs13 1), (nt vs13 2), (nt vs13 3), (nt vs13 4)], h14, []⟩)
noncomputable def F_k90 (call : CallF) (lp : LoopF) (x0 : Value) (h : H) : Option (Value × H × List Nat) :=
 al (aBx h.n T_api_Table 4 x0) h fun v0 h1 =>
 ob (rLdA h1.get 4 v0) fun v2 =>
 ob (oBuild pgB T_table_Table [(0, v2)]) fun v3 =>
 al (aBx h1.n T_table_Table 7 v3) h1 fun v4 h5 =>
 ob (rFld 1 v0) fun v6 =>
 ob (rLd1 h5.get v6) fun v7 =>
 ob (rLenL v7) fun v8 =>
 jn3 (fun vs10 h11 l12 =>
 fin h (rsT (nt vs10 0) (some [])) h11 l12) fun j9 =>
 ob (lp (F_k90_L122 call lp) [(.pointer none), v4, v7, v8, (.int .i64 0)] h5) fun o51 =>
 onEx o51.ex (j9 [(nt o51.vs 1)] o51.h (o51.lg ++ [])) (fun i52 => bif Nat.beq i52 0 then j9 [(nt o51.vs 1)] o51.h (o51.lg ++ []) else none) (fin h (rsT (nt o51.vs 0) (some [])) o51.h (o51.lg ++ []))

-- 91 (asterism/asterismref8.Schema).May
noncomputable def F_k91_L506 (call : CallF) (lp : LoopF) : List Value → H → Option LOut := fun vs40 h41 =>
 ob (rFld 1 (nt vs40 1)) fun v42 =>
 ob (rLd1 h41.get v42) fun v43 =>
 ob (rLenL v43) fun v44 =>
 ob (bI .lss (nt vs40 3) v44) fun v45 =>
 jn3 (fun vs47 h48 l49 =>
 jn3 (fun vs51 h52 l53 =>
 ob (bI .add (nt vs51 3) (.int .i64 1)) fun v54 =>
 some ⟨.normal, [(nt vs51 0), (nt vs51 1), (nt vs51 2), v54], h52, l53⟩) fun j50 =>
 ob (rFld 1 (nt vs47 1)) fun v55 =>
 ob (rLd1 h48.get v55) fun v56 =>
 ob (rIdxS 4 v56 (nt vs47 3)) fun v57 =>
 ob (rFld 3 v57) fun v58 =>
 ob (rLd1 h48.get v58) fun v59 =>
 ob (binV pgB.ty (tyD .string) .eql v59 (.string ⟨#[]⟩)) fun v60 =>
 jn3 (fun vs62 h63 l64 =>
 ob (rFld 1 (nt vs62 1)) fun v65 =>
 ob (rLd1 h63.get v65) fun v66 =>
 ob (rIdxS 4 v66 (nt vs62 3)) fun v67 =>
 ob (rFld 3 v67) fun v68 =>
 ob (rLd1 h63.get v68) fun v69 =>
 hv (call (.fn N_k108) [(nt vs62 0), v69] h63) fun v70 h71 l72 =>
 ob (bI .lss v70 (.int .i64 0)) fun v73 =>
 jn3 (fun vs75 h76 l77 =>
 ob (rIdxS 4 (nt vs75 0) (nt vs75 4)) fun v78 =>
 ob (rFld 2 v78) fun v79 =>
 ob (rLd1 h76.get v79) fun v80 =>
 ob (binV pgB.ty (tyD .string) .eql v80 (.string ⟨#[]⟩)) fun v81 =>
 jn3 (fun vs83 h84 l85 =>
 ob (rIdxS 4 (nt vs83 0) (nt vs83 4)) fun v86 =>
 ob (rFld 1 v86) fun v87 =>
 ob (rLd1 h84.get v87) fun v88 =>
 ob (rIdxS 4 (nt vs83 0) (nt vs83 4)) fun v89 =>
 ob (rLdA h84.get 4 v89) fun v90 =>
 ob (rIdxS 4 (nt vs83 0) (nt vs83 4)) fun v91 =>
 ob (rFld 2 v91) fun v92 =>
 ob (rLd1 h84.get v92) fun v93 =>
 hv (call (.fn N_k148) [v90, v93] h84) fun v94 h95 l96 =>
 ob (rIdxS 4 v88 v94) fun v97 =>
 ob (rFld 1 v97) fun v98 =>
 ob (rLd1 h95.get v98) fun v99 =>
 ob (rFld 1 (nt vs83 1)) fun v100 =>
 ob (rLd1 h95.get v100) fun v101 =>
 ob (rIdxS 4 v101 (nt vs83 3)) fun v102 =>
 ob (rFld 1 v102) fun v103 =>
 ob (rLd1 h95.get v103) fun v104 =>
 ob (bI .neq v99 v104) fun v105 =>
 dr [0, 0, 3, 7, 15, 0, 0, 96, 224, 0, 0, 1536, 3584, 7680, 16352, 32767, 65535, 131071, 0, 262144, 0, 1835008, 3932160, 8126464, 16777215] [mP h84, mP h84, mP h84, mP h84, mR h84 (rdP v87), mP h84, mP h84, mP h84, mR h84 (rdP v89), mP h84, mP h84, mP h84, mP h84, mR h84 (rdP v92), mH h84 (rdL [v90, v93]) l96 h95, mP h95, mP h95, mR h95 (rdP v98), mP h95, mR h95 (rdP v100), mP h95, mP h95, mP h95, mR h95 (rdP v103), mP h95] fun l106 =>
 jn3 (fun vs108 h109 l110 =>
 j50 [(nt vs108 0), (nt vs108 1), (nt vs108 2), (nt vs108 3)] h109 l110) fun j107 => fork v105
 (some ⟨.ret, [(nt vs83 0), (nt vs83 1), (.int .i64 4), (nt vs83 3)], h95, (l106 ++ l85)⟩)
 (j107 [(nt vs83 0), (nt vs83 1), (nt vs83 2), (nt vs83 3)] h95 (l106 ++ l85))) fun j82 => fork v81
 (some ⟨.ret, [(nt vs75 0), (nt vs75 1), (.int .i64 9), (nt vs75 3)], h76, l77⟩)
 (j82 [(nt vs75 0), (nt vs75 1), (nt vs75 2), (nt vs75 3), (nt vs75 4)] h76 l77)) fun j74 => fork v73
 (some ⟨.ret, [(nt vs62 0), (nt vs62 1), (.int .i64 3), (nt vs62 3)], h71, (l72 ++ l64)⟩)
 (j74 [(nt vs62 0), (nt vs62 1), (nt vs62 2), (nt vs62 3), v70] h71 (l72 ++ l64))) fun j61 => fork v60
 (j50 [(nt vs47 0), (nt vs47 1), (nt vs47 2), (nt vs47 3)] h48 l49)
 (j61 [(nt vs47 0), (nt vs47 1), (nt vs47 2), (nt vs47 3)] h48 l49)) fun j46 => fork v45
 (j46 [(nt vs40 0), (nt vs40 1), (nt vs40 2), (nt vs40 3)] h41 [])
 (some ⟨(.exit 2), [(nt vs40 0), (nt vs40 1), (nt vs40 2), (nt vs40 3)], h41, []⟩)
noncomputable def F_k91_L250 (call : CallF) (lp : LoopF) : List Value → H → Option LOut := fun vs113 h114 =>
 ob (rFld 1 (nt vs113 1)) fun v115 =>
 ob (rLd1 h114.get v115) fun v116 =>
 ob (rLenL v116) fun v117 =>
 ob (bI .lss (nt vs113 3) v117) fun v118 =>
 jn3 (fun vs120 h121 l122 =>
 jn3 (fun vs124 h125 l126 =>
 ob (bI .add (nt vs124 3) (.int .i64 1)) fun v127 =>
 some ⟨.normal, [(nt vs124 0), (nt vs124 1), (nt vs124 2), v127, (nt vs124 4), (nt vs124 5), (nt vs124 6), (nt vs124 7), (nt vs124 8), (nt vs124 9), (nt vs124 10)], h125, l126⟩) fun j123 =>
 ob (rFld 1 (nt vs120 1)) fun v128 =>
 ob (rLd1 h121.get v128) fun v129 =>
 ob (rIdxS 4 v129 (nt vs120 3)) fun v130 =>
 ob (rFld 1 v130) fun v131 =>
 ob (rLd1 h121.get v131) fun v132 =>
 ob (bI .neq v132 (.int .i64 1)) fun v133 =>
 gP (gd v133 true) (rFld 1 (nt vs120 1)) fun v134 =>
 gP (gd v133 true) (rLd1 h121.get v134) fun v135 =>
 gP (gd v133 true) (some (nt vs120 3)) fun v136 =>
 gP (gd v133 true) (rIdxS 4 v135 v136) fun v137 =>
 gP (gd v133 true) (rFld 1 v137) fun v138 =>
 gP (gd v133 true) (rLd1 h121.get v138) fun v139 =>
 gP (gd v133 true) (bI .neq v139 (.int .i64 2)) fun v140 =>
 ob (rPick v133 v140 (.bool false)) fun v141 =>
 jn3 (fun vs143 h144 l145 =>
 j123 [(nt vs143 0), (nt vs143 1), (nt vs143 2), (nt vs143 3), (nt vs143 4), (nt vs143 5), (nt vs143 6), (nt vs143 7), (nt vs143 8), (nt vs143 9), (nt vs143 10)] h144 l145) fun j142 => fork v141
 (some ⟨.ret, [(nt vs120 0), (nt vs120 1), (.int .i64 4), (nt vs120 3), v134, v135, v136, v137, v138, v139, v140], h121, l122⟩)
 (j142 [(nt vs120 0), (nt vs120 1), (nt vs120 2), (nt vs120 3), v134, v135, v136, v137, v138, v139, v140] h121 l122)) fun j119 => fork v118
 (j119 [(nt vs113 0), (nt vs113 1), (nt vs113 2), (nt vs113 3), (nt vs113 4), (nt vs113 5), (nt vs113 6), (nt vs113 7), (nt vs113 8), (nt vs113 9), (nt vs113 10)] h114 [])
 (some ⟨(.exit 0), [(nt vs113 0), (nt vs113 1), (nt vs113 2), (nt vs113 3), (nt vs113 4), (nt vs113 5), (nt vs113 6), (nt vs113 7), (nt vs113 8), (nt vs113 9), (nt vs113 10)], h114, []⟩)
noncomputable def F_k91 (call : CallF) (lp : LoopF) (x0 : Value) (x1 : Value) (h : H) : Option (Value × H × List Nat) :=
 al (aBx h.n T_api_Table 4 x1) h fun v0 h1 =>
 ob (rLenL x0) fun v2 =>
 ob (bI .geq v2 (.int .i64 8)) fun v3 =>
 gP (gd v3 false) (rFld 1 v0) fun v4 =>
 gP (gd v3 false) (rLd1 h1.get v4) fun v5 =>
 gP (gd v3 false) (rLenL v5) fun v6 =>
 gP (gd v3 false) (bI .lss v6 (.int .i64 1)) fun v7 =>
 ob (rPick v3 (.bool true) v7) fun v8 =>
 gP (gd v8 false) (rFld 1 v0) fun v9 =>
 gP (gd v8 false) (rLd1 h1.get v9) fun v10 =>
 gP (gd v8 false) (rLenL v10) fun v11 =>
 gP (gd v8 false) (bI .gtr v11 (.int .i64 6)) fun v12 =>
 ob (rPick v8 (.bool true) v12) fun v13 =>
 gP (gd v13 false) (rFld 3 v0) fun v14 =>
 gP (gd v13 false) (rLd1 h1.get v14) fun v15 =>
 gP (gd v13 false) (rLenL v15) fun v16 =>
 gP (gd v13 false) (bI .gtr v16 (.int .i64 3)) fun v17 =>
 ob (rPick v13 (.bool true) v17) fun v18 =>
 jn3 (fun vs20 h21 l22 =>
 ob (rLdA h21.get 4 (nt vs20 1)) fun v23 =>
 hv (call (.fn N_k151) [(nt vs20 0), v23] h21) fun v24 h25 l26 =>
 ob (unV .not v24) fun v27 =>
 jn3 (fun vs29 h30 l31 =>
 jn3 (fun vs33 h34 l35 =>
 jn3 (fun vs37 h38 l39 =>
 fin h (rsT (.int .i64 0) (some [])) h38 l39) fun j36 =>
 ob (lp (F_k91_L506 call lp) [(nt vs33 0), (nt vs33 1), (nt vs33 2), (.int .i64 0)] h34) fun o111 =>
 onEx o111.ex (j36 [] o111.h (o111.lg ++ l35)) (fun i112 => bif Nat.beq i112 2 then j36 [] o111.h (o111.lg ++ l35) else none) (fin h (rsT (nt o111.vs 2) (some [])) o111.h (o111.lg ++ l35))) fun j32 =>
 ob (lp (F_k91_L250 call lp) [(nt vs29 0), (nt vs29 1), (nt vs29 2), (.int .i64 0), (nt vs29 3), (nt vs29 4), (nt vs29 5), (nt vs29 6), (nt vs29 7), (nt vs29 8), (nt vs29 9)] h30) fun o146 =>
 onEx o146.ex (j32 [(nt o146.vs 0), (nt o146.vs 1), (nt o146.vs 2)] o146.h (o146.lg ++ l31)) (fun i147 => bif Nat.beq i147 0 then j32 [(nt o146.vs 0), (nt o146.vs 1), (nt o146.vs 2)] o146.h (o146.lg ++ l31) else none) (fin h (rsT (nt o146.vs 2) (some [])) o146.h (o146.lg ++ l31))) fun j28 => fork v27
 (fin h (rsT (.int .i64 3) (some [])) h25 (l26 ++ l22))
 (j28 [(nt vs20 0), (nt vs20 1), (nt vs20 2), (nt vs20 3), (nt vs20 4), (nt vs20 5), (nt vs20 6), (nt vs20 7), (nt vs20 8), (nt vs20 9)] h25 (l26 ++ l22))) fun j19 => fork v18
 (fin h (rsT (.int .i64 5) (some [])) h1 [])
 (j19 [x0, v0, (.int .i64 0), poison, poison, poison, poison, poison, poison, poison] h1 [])

-- 92 asterism/asterismref8.Form
noncomputable def F_k92_L122 (call : CallF) (lp : LoopF) : List Value → H → Option LOut := fun vs21 h22 =>
 ob (rFld 1 (nt vs21 0)) fun v23 =>
 ob (rLd1 h22.get v23) fun v24 =>
 ob (rLenL v24) fun v25 =>
 ob (bI .lss (nt vs21 2) v25) fun v26 =>
 jn3 (fun vs28 h29 l30 =>
 jn3 (fun vs32 h33 l34 =>
 ob (bI .add (nt vs32 2) (.int .i64 1)) fun v35 =>
 some ⟨.normal, [(nt vs32 0), (nt vs32 1), v35], h33, l34⟩) fun j31 =>
 ob (rFld 1 (nt vs28 0)) fun v36 =>
 ob (rLd1 h29.get v36) fun v37 =>
 ob (rIdxS 4 v37 (nt vs28 2)) fun v38 =>
 ob (rFld 0 v38) fun v39 =>
 ob (rLd1 h29.get v39) fun v40 =>
 ob (rFld 2 (nt vs28 0)) fun v41 =>
 ob (rLd1 h29.get v41) fun v42 =>
 ob (binV pgB.ty (tyD .string) .eql v40 v42) fun v43 =>
 dr [0, 1, 0, 7, 15, 31, 0, 64, 255] [mP h29, mR h29 (rdP v36), mP h29, mP h29, mP h29, mR h29 (rdP v39), mP h29, mR h29 (rdP v41), mP h29] fun l44 =>
 jn3 (fun vs46 h47 l48 =>
 j31 [(nt vs46 0), (nt vs46 1), (nt vs46 2)] h47 l48) fun j45 => fork v43
 (ob (rFld 1 (nt vs28 0)) fun v49 =>
 ob (rLd1 h29.get v49) fun v50 =>
 ob (rIdxS 4 v50 (nt vs28 2)) fun v51 =>
 ob (rFld 2 v51) fun v52 =>
 hv (rStore h29 1 v52 (.bool true)) fun v53 h54 l55 =>
 j45 [(nt vs28 0), (nt vs28 1), (nt vs28 2)] h54 (l55 ++ (l44 ++ l30)))
 (j45 [(nt vs28 0), (nt vs28 1), (nt vs28 2)] h29 (l44 ++ l30))) fun j27 => fork v26
 (j27 [(nt vs21 0), (nt vs21 1), (nt vs21 2)] h22 [])
 (some ⟨(.exit 0), [(nt vs21 0), (nt vs21 1), (nt vs21 2)], h22, []⟩)
noncomputable def F_k92 (call : CallF) (lp : LoopF) (x0 : Value) (h : H) : Option (Value × H × List Nat) :=
 al (aBx h.n T_api_Table 4 x0) h fun v0 h1 =>
 al (aNew h1.n T_api_Table [(.string ⟨#[]⟩), (.slice none 0 0), (.string ⟨#[]⟩), (.slice none 0 0)]) h1 fun v2 h3 =>
 ob (rFld 1 v0) fun v4 =>
 ob (rLd1 h3.get v4) fun v5 =>
 hv (rApp h3 T_api_Col 4 48 [(.string ⟨#[]⟩), (.int .i64 0), (.bool false), (.string ⟨#[]⟩)] (.slice none 0 0) v5) fun v6 h7 l8 =>
 ob (rFld 1 v0) fun v9 =>
 hv (rStore h7 1 v9 v6) fun v10 h11 l12 =>
 jn3 (fun vs14 h15 l16 =>
 ob (rLdA h15.get 4 (nt vs14 0)) fun v17 =>
 hv (rStore h15 4 (nt vs14 1) v17) fun v18 h19 l20 =>
 fin h (rsK (rLdA h19.get 4 (nt vs14 1)) (some [])) h19 (l20 ++ l16)) fun j13 =>
 ob (lp (F_k92_L122 call lp) [v0, v2, (.int .i64 0)] h11) fun o56 =>
 onEx o56.ex (j13 [(nt o56.vs 0), (nt o56.vs 1)] o56.h (o56.lg ++ (l12 ++ (l8 ++ [])))) (fun i57 => bif Nat.beq i57 0 then j13 [(nt o56.vs 0), (nt o56.vs 1)] o56.h (o56.lg ++ (l12 ++ (l8 ++ []))) else none) (fin h (rsK (rLdA o56.h.get 4 (nt o56.vs 1)) (some [])) o56.h (o56.lg ++ (l12 ++ (l8 ++ []))))

-- 93 cmp.Or[int]
noncomputable def F_k93_L122 (call : CallF) (lp : LoopF) : List Value → H → Option LOut := fun vs5 h6 =>
 ob (bI .lss (nt vs5 4) (nt vs5 3)) fun v7 =>
 jn3 (fun vs9 h10 l11 =>
 jn3 (fun vs13 h14 l15 =>
 ob (bI .add (nt vs13 4) (.int .i64 1)) fun v16 =>
 some ⟨.normal, [(nt vs13 0), (nt vs13 1), (nt vs13 2), (nt vs13 3), v16], h14, l15⟩) fun j12 =>
 ob (rIdxS 1 (nt vs9 2) (nt vs9 4)) fun v17 =>
 ob (rLd1 h10.get v17) fun v18 =>
 ob (bI .neq v18 (nt vs9 1)) fun v19 =>
 jn3 (fun vs21 h22 l23 =>
 j12 [(nt vs21 0), (nt vs21 1), (nt vs21 2), (nt vs21 3), (nt vs21 4)] h22 l23) fun j20 => fork v19
 (some ⟨.ret, [v18, (nt vs9 1), (nt vs9 2), (nt vs9 3), (nt vs9 4)], h10, l11⟩)
 (j20 [(nt vs9 0), (nt vs9 1), (nt vs9 2), (nt vs9 3), (nt vs9 4)] h10 l11)) fun j8 => fork v7
 (j8 [(nt vs5 0), (nt vs5 1), (nt vs5 2), (nt vs5 3), (nt vs5 4)] h6 [])
 (some ⟨(.exit 0), [(nt vs5 0), (nt vs5 1), (nt vs5 2), (nt vs5 3), (nt vs5 4)], h6, []⟩)
noncomputable def F_k93 (call : CallF) (lp : LoopF) (x0 : Value) (h : H) : Option (Value × H × List Nat) :=
 ob (rLenL x0) fun v0 =>
 jn3 (fun vs2 h3 l4 =>
 fin h (rsT (nt vs2 0) (some [])) h3 l4) fun j1 =>
 ob (lp (F_k93_L122 call lp) [(.int .i64 0), (.int .i64 0), x0, v0, (.int .i64 0)] h) fun o24 =>
 onEx o24.ex (j1 [(nt o24.vs 1)] o24.h (o24.lg ++ [])) (fun i25 => bif Nat.beq i25 0 then j1 [(nt o24.vs 1)] o24.h (o24.lg ++ []) else none) (fin h (rsT (nt o24.vs 0) (some [])) o24.h (o24.lg ++ []))

end Go.L1
