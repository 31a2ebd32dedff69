/- Joined: O15, O17, O18, O19, O20, O21, O22, O23, O24, O25, RP26, RP26b, O26, O27, O28. -/
import Derived.Test.YteogfjpaljbkoaaGreatK6
import Derived.Test.YteogfjpaljbkoaaGreatK3
import Derived.Test.YteogfjpaljbkoaaGreatK5
set_option linter.unusedVariables false
set_option linter.unusedSimpArgs false
set_option maxRecDepth 100000
set_option maxHeartbeats 16000000
namespace Go.Proofs.YteogfjpaljbkoaaGreat
open Go.RowKit
section
open Go.Proofs.Tryz (prog)
attribute [local irreducible] CallV RoundV aggK
theorem rt_small (r:Route) (h:smallA r.attrs):∀x∈[r],smallA x.attrs:=by simpa using h
theorem encUt2_free (fr:Bool) (l:List Upd) (n:Int):Free (.tup [encUt fr l,.int .i64 n]):=.tup (by intro v hv;simp at hv;rcases hv with rfl|rfl;exact encUt_free _ _;exact .int)
theorem rt_free (r:Route):∀v∈cellsRt false r,Free v:=fun v hv=>rowsRt_free [r] _ (by simp) v hv
theorem works26_ok:PCon prog 10 [] (.bool true):=by
 have hA:=(tell_B sf1 pe2 polE [] (by decide) [rtW] (by decide) (rt_small _ a5_small) okW).callV
 rw[nowW,upd_a]at hA
 have hB:=(tell_B sf1 pe2 polE mW (by decide) [rtW] (by decide) (rt_small _ a5_small) okW).callV
 rw[nowW,upd_b]at hB
 have hC:=(tell_B sf1 pe2 polE mW (by decide) [] (by decide) (by simp) (by decide)).callV
 rw[show nowL sf1 pe2 polE []=[]from rfl,upd_c]at hC
 have hD:=(tell_B sf1 pe2 polE [] (by decide) [rtD] (by decide) (rt_small _ a5_small) okD).callV
 rw[nowD,upd_d]at hD
 have hE:=tell_bad sf1 pe2 polE [] [rtW,rtW] (by simp;exact a5_small) okWW
 have n0:=num26_ok 0
 have n2:=num26_ok 2
 have hnew:=newO_ok sf1 pe2 polE (by decide)
 refine callV_of (fn:=Go.Proofs.Tryz.f10) (body:=_) tab_ok mixed rfl rfl (by decide) (by simp[Go.Proofs.Tryz.f10]) ?_
 conv=>whnf
 refine callV_frame (nx:=2) (n0:=0) id hnew ⟨.fr rfl,.fr rfl,.aggL ⟨.snil_sl,.fr rfl,trivial⟩,trivial⟩ (LeH.nil (by omega) (fun _ h=>by omega) (by simp)) (fun b hb=>by omega) (fun b hb=>by omega) ?_
 rintro v h' nx' ⟨rfl,rfl,rfl⟩ _
 refine⟨.tup [.ptr 2 0,.int .i64 0],[(2,varOut sf1 pe2 polE []),(0,some (.var true 31 (cellsP ten24))),(1,some (.var true 26 (cellsPe pe2)))],.tup ⟨.ptr rfl,.free .int,trivial⟩,(by repeat' (first|exact True.intro|exact Or.inr ⟨by decide,rfl⟩|exact Or.inl ⟨0,rfl,by omega,_,rfl,.var (cellsOut_free _ _ _ _)⟩|refine⟨?_,?_⟩)),?_⟩
 conv=>whnf
 refine callV_freeze (args':=[.ptr 2 0,encRts [rtW]]) [4] (h':=[(2,varOut sf1 pe2 polE []),(0,some (.var true 31 (cellsP ten24))),(1,some (.var true 26 (cellsPe pe2))),(3,some (.var true 37 (cellsRt false rtW)))]) (LeH.i (by repeat' (first|exact LHa|exact LeL.freeV (cellsOut_free _ _ _ _)|exact⟨.fr rfl,.fr rfl,.fr rfl,.snil_sl,.fr rfl,.fr rfl,.fr rfl,.fr rfl,.fr rfl,.snil_sl,.fr rfl,.fr rfl,.fr rfl,.fr rfl,trivial⟩|exact .A|exact LeL.fr rfl|exact LHb|refine Or.inl ⟨by simp,_,rfl,?_⟩|exact Or.inr ⟨by simp,_,_,_,_,rfl⟩|refine⟨rfl,rfl,rfl,rfl,rfl,rfl,?_⟩|refine⟨?_,?_⟩)) (Nat.le_refl _) (by intro z hz;simp only[List.mem_cons,List.not_mem_nil,or_false]at hz;rcases hz with rfl<;>exact ne_none_of rfl)) ⟨.ptr rfl (by decide),LeV.fresh_off (LeV.freezeR (fr:=true) (ys:=rowsRt [rtW]) (by simp) rfl (by simp) ⟨⟨.fr rfl,.fr rfl,.fr rfl,.snil_sl,.fr rfl,.fr rfl,.fr rfl,.fr rfl,.fr rfl,.snil_sl,.fr rfl,.fr rfl,.fr rfl,.fr rfl,trivial⟩,trivial⟩),trivial⟩ ?_
 refine callV_out hA rfl (cellsOut_free _ _ _ _) (cellsOut_free _ _ _ _) ⟨.ptr rfl (by omega),.fr rfl,trivial⟩ ?_
 rintro v rfl
 refine⟨encUt2_free _ _ _,?_⟩
 show _
 conv=>whnf
 refine callV_freeze (args':=[.ptr 2 0,encRts [rtW]]) [5] (h':=[(2,varOut sf1 pe2 polE mW),(0,some (.var true 31 (cellsP ten24))),(1,some (.var true 26 (cellsPe pe2))),(3,some (.var true 37 (cellsRt false rtW)))]) (LeH.i (by repeat' (first|exact LHa|exact LeL.freeV (cellsOut_free _ _ _ _)|exact⟨.fr rfl,.fr rfl,.fr rfl,.snil_sl,.fr rfl,.fr rfl,.fr rfl,.fr rfl,.fr rfl,.snil_sl,.fr rfl,.fr rfl,.fr rfl,.fr rfl,trivial⟩|exact .A|exact LeL.fr rfl|exact LHb|refine Or.inl ⟨by simp,_,rfl,?_⟩|exact Or.inr ⟨by simp,_,_,_,_,rfl⟩|refine⟨rfl,rfl,rfl,rfl,rfl,rfl,?_⟩|refine⟨?_,?_⟩)) (Nat.le_refl _) (by intro z hz;simp only[List.mem_cons,List.not_mem_nil,or_false]at hz;rcases hz with rfl<;>exact ne_none_of rfl)) ⟨.ptr rfl (by decide),LeV.fresh_off (LeV.freezeR (fr:=true) (ys:=rowsRt [rtW]) (by simp) rfl (by simp) ⟨LeL.freeV (rt_free rtW),trivial⟩),trivial⟩ ?_
 refine callV_out hB rfl (cellsOut_free _ _ _ _) (cellsOut_free _ _ _ _) ⟨.ptr rfl (by omega),.fr rfl,trivial⟩ ?_
 rintro v rfl
 refine⟨encUt2_free _ _ _,?_⟩
 show _
 conv=>whnf
 refine callV_out hC rfl (cellsOut_free _ _ _ _) (cellsOut_free _ _ _ _) ⟨.ptr rfl (by omega),.snil_sl,trivial⟩ ?_
 rintro v rfl
 refine⟨encUt2_free _ _ _,?_⟩
 show _
 conv=>whnf
 refine callV_freeze (args':=[.ptr 2 0,encRts [rtD]]) [6] (h':=[(2,varOut sf1 pe2 polE []),(0,some (.var true 31 (cellsP ten24))),(1,some (.var true 26 (cellsPe pe2))),(3,some (.var true 37 (cellsRt false rtW)))]) (LeH.i (by repeat' (first|exact LHa|exact LeL.freeV (cellsOut_free _ _ _ _)|exact⟨.fr rfl,.fr rfl,.fr rfl,.snil_sl,.fr rfl,.fr rfl,.fr rfl,.fr rfl,.fr rfl,.snil_sl,.fr rfl,.fr rfl,.fr rfl,.fr rfl,trivial⟩|exact .A|exact LeL.fr rfl|exact LHb|refine Or.inl ⟨by simp,_,rfl,?_⟩|exact Or.inr ⟨by simp,_,_,_,_,rfl⟩|refine⟨rfl,rfl,rfl,rfl,rfl,rfl,?_⟩|refine⟨?_,?_⟩)) (Nat.le_refl _) (by intro z hz;simp only[List.mem_cons,List.not_mem_nil,or_false]at hz;rcases hz with rfl<;>exact ne_none_of rfl)) ⟨.ptr rfl (by decide),LeV.fresh_off (LeV.freezeR (fr:=true) (ys:=rowsRt [rtD]) (by simp) rfl (by simp) ⟨⟨.fr rfl,.fr rfl,.fr rfl,.snil_sl,.fr rfl,.fr rfl,.fr rfl,.fr rfl,.fr rfl,.snil_sl,.fr rfl,.fr rfl,.fr rfl,.fr rfl,trivial⟩,trivial⟩),trivial⟩ ?_
 refine callV_out hD rfl (cellsOut_free _ _ _ _) (cellsOut_free _ _ _ _) ⟨.ptr rfl (by omega),.fr rfl,trivial⟩ ?_
 rintro v rfl
 refine⟨encUt2_free _ _ _,?_⟩
 show _
 conv=>whnf
 refine callV_freeze (args':=[.ptr 2 0,encRts [rtW,rtW]]) [7] (h':=[(2,varOut sf1 pe2 polE []),(0,some (.var true 31 (cellsP ten24))),(1,some (.var true 26 (cellsPe pe2))),(3,some (.var true 37 (cellsRt false rtW)))]) (LeH.i (by repeat' (first|exact LHa|exact LeL.freeV (cellsOut_free _ _ _ _)|exact⟨.fr rfl,.fr rfl,.fr rfl,.snil_sl,.fr rfl,.fr rfl,.fr rfl,.fr rfl,.fr rfl,.snil_sl,.fr rfl,.fr rfl,.fr rfl,.fr rfl,trivial⟩|exact .A|exact LeL.fr rfl|exact LHb|refine Or.inl ⟨by simp,_,rfl,?_⟩|exact Or.inr ⟨by simp,_,_,_,_,rfl⟩|refine⟨rfl,rfl,rfl,rfl,rfl,rfl,?_⟩|refine⟨?_,?_⟩)) (Nat.le_refl _) (by intro z hz;simp only[List.mem_cons,List.not_mem_nil,or_false]at hz;rcases hz with rfl<;>exact ne_none_of rfl)) ⟨.ptr rfl (by decide),LeV.fresh_off (LeV.freezeR (fr:=true) (ys:=rowsRt [rtW,rtW]) (by simp) rfl (by simp) ⟨LeL.freeV (rt_free rtW),LeL.freeV (rt_free rtW),trivial⟩),trivial⟩ ?_
 refine callV_out hE rfl (cellsOut_free _ _ _ _) (cellsOut_free _ _ _ _) ⟨.ptr rfl (by omega),.fr rfl,trivial⟩ ?_
 rintro v rfl
 refine⟨.tup (by simp;exact⟨.snil,.int⟩),?_⟩
 show _
 conv=>whnf
 refine callV_pure n0 ⟨.fr rfl,trivial⟩ ?_
 conv=>whnf
 refine callV_pure n0 ⟨.fr rfl,trivial⟩ ?_
 conv=>whnf
 refine callV_pure n0 ⟨.fr rfl,trivial⟩ ?_
 conv=>whnf
 refine callV_pure n0 ⟨.fr rfl,trivial⟩ ?_
 conv=>whnf
 refine callV_pure n0 ⟨.fr rfl,trivial⟩ ?_
 conv=>whnf
 refine callV_pure n2 ⟨.fr rfl,trivial⟩ ?_
 conv=>whnf
 intro _
 conv=>whnf
 refine⟨rfl,_,⟨by decide,rfl⟩,?_⟩
 conv=>whnf
 intro _
 conv=>whnf
 refine⟨rfl,_,⟨by decide,rfl⟩,?_⟩
 conv=>whnf
 refine⟨rfl,_,⟨by decide,rfl⟩,?_⟩
 conv=>whnf
 intro _
 conv=>whnf
 intro _
 conv=>whnf
 intro _
 conv=>whnf
 refine⟨rfl,_,⟨by decide,rfl⟩,?_⟩
 conv=>whnf
 intro _
 conv=>whnf
 intro _
 conv=>whnf
 exact(Ends.pA)
end
section
open Go.Proofs.Tryz (prog)
attribute [local irreducible] CallV RoundV aggK
structure RelO (s:SelfL) (pe:Peer) (pol:Policy) (m:List (Prefix × Attrs)) (o:OutS):Prop where
 eself:o.self=s
 epeer:o.peer=pe
 epol:o.pol=pol
 perm:o.told.Perm m
 ris:RisE o.told
 few:m.length≤1000
 good:∀e∈m,rightA e.2=true
theorem RelO.keys {s:SelfL} {pe:Peer} {pol:Policy} {m:List (Prefix × Attrs)} {o:OutS} (h:RelO s pe pol m o):sortPs (keysE m)=keysE o.told:=by
 have h1:(keysE m).Perm (keysE o.told):=(h.perm.map _).symm
 rw[sortPs_perm h1]
 exact sorted_eq (List.mergeSort_perm _ _) (sortPs_sorted (keysE o.told)) (List.Pairwise.imp (fun h=>Nat.le_of_lt h) h.ris)
theorem RelO.nod {s:SelfL} {pe:Peer} {pol:Policy} {m:List (Prefix × Attrs)} {o:OutS} (h:RelO s pe pol m o):NodE m:=(h.perm.map _).nodup_iff.1 h.ris.nod
theorem RelO.get {s:SelfL} {pe:Peer} {pol:Policy} {m:List (Prefix × Attrs)} {o:OutS} (h:RelO s pe pol m o) {i:Nat} (hi:i < o.told.length):getE m o.told[i].1=some o.told[i].2:=
 mem_getE h.nod (h.perm.mem_iff.1 (List.getElem_mem hi))
theorem RelO.len {s:SelfL} {pe:Peer} {pol:Policy} {m:List (Prefix × Attrs)} {o:OutS} (h:RelO s pe pol m o):o.told.length=m.length:=h.perm.length_eq
theorem RelO.at {s:SelfL} {pe:Peer} {pol:Policy} {m:List (Prefix × Attrs)} {o:OutS} (h:RelO s pe pol m o) {i:Nat} (hi:i < o.told.length):rightA o.told[i].2=true:=h.good _ (h.perm.mem_iff.1 (List.getElem_mem hi))
theorem is26_ok {s:SelfL} {pe:Peer} {pol:Policy} {m:List (Prefix × Attrs)} {o:OutS} (hr:RelO s pe pol m o):OutC 18 [.ptr 0 0,encOS o] (cellsOut s pe pol m) (cellsOut s pe pol m) (·=.bool true):=by
 have hso:=sortedO_ok m hr.few
 rw[hr.keys]at hso
 have hlm:=hr.len
 have hm4:=hr.few
 unfold OutC
 refine callV_of (fn:=Go.Proofs.Tryz.f18) (body:=_) tab_ok mixed rfl rfl (by decide) (by simp[Go.Proofs.Tryz.f18]) ?_
 conv=>whnf
 refine callV_out (toldO_ok s pe pol m) rfl (cellsOut_free _ _ _ _) (cellsOut_free _ _ _ _) ⟨.ptr rfl (by omega),trivial⟩ ?_
 rintro v rfl
 refine⟨.fn (by simp) (by intro v hv;simp at hv;subst hv;exact .iptr (by intro v hv;simp at hv;subst hv;exact imapA_free m)),?_⟩
 show _
 conv=>whnf
 refine callV_out (toldO_ok s pe pol m) rfl (cellsOut_free _ _ _ _) (cellsOut_free _ _ _ _) ⟨.ptr rfl (by omega),trivial⟩ ?_
 rintro v rfl
 refine⟨.fn (by simp) (by intro v hv;simp at hv;subst hv;exact .iptr (by intro v hv;simp at hv;subst hv;exact imapA_free m)),?_⟩
 show _
 conv=>whnf
 refine callV_loop [(3,.ptr 1 0),(4,.ptr 2 0),(5,.ptr 3 0)] ⟨rfl,rfl,rfl,trivial⟩ fun asg' body' hasg hbody=>?_
 refine callV_of (fn:=Go.Proofs.Tryz.f49) (body:=_) tab_ok mixed rfl rfl (by decide) (by simp[Go.Proofs.Tryz.f49]) ?_
 conv=>whnf
 refine callV_pure hso ⟨.fr rfl,trivial⟩ ?_
 conv=>whnf
 intro hgl
 have hgl:(keysE o.told).length≤maxLen:=by simpa[gd]using hgl
 conv=>whnf
 refine vcg_loop tab_ok mixed (fun i:{i:Nat // i≤(keysE o.told).length}=>⟨[(0,.yld 4),(1,.iptr true [.imap false (esA m)]),(6,encPs true (keysE o.told)),(7,cI (keysE o.told).length),(8,cI i.1)],[(4,some (.loop 54 [(3,.ptr 1 0),(4,.ptr 2 0),(5,.ptr 3 0)] [13,14] asg' body' .ready none)),(0,varOut s pe pol m),(1,some (.var true 47 (cellsOS o))),(2,some (.var true 4 [.bool false])),(3,some (.var true 3 [cI i.1]))],5⟩) (fun i=>(keysE o.told).length - i.1) ⟨0,by omega⟩ (Wk.i (by repeat' (first|exact LHa|exact LeL.freeV (cellsOut_free s pe pol m)|exact LeL.freeV (cellsOS_free o)|exact .int_of (by simp)|exact .free (.iptr (by intro v hv;simp at hv;subst hv;exact imapA_free m))|exact .A|exact LeL.fr rfl|exact LHb|refine Or.inl ⟨by simp,_,rfl,?_⟩|exact Or.inr ⟨by simp,_,_,_,_,rfl⟩|refine⟨rfl,rfl,rfl,rfl,rfl,rfl,?_⟩|refine⟨?_,?_⟩)) (by omega)) (fun i=>?_)
 obtain⟨i,hi⟩:=i
 conv=>whnf
 split
 ·rename_i hc
  have hc:i < (keysE o.told).length:=by simpa using hc
  have hcl:i < o.told.length:=by simpa[keysE]using hc
  have hkey:(keysE o.told)[i]=o.told[i].1:=by simp[keysE]
  have hget:=hr.get hcl
  have hsm:smallA o.told[i].2:=right_small (hr.at hcl)
  have sm:=ref_same_ok true false o.told[i].2 o.told[i].2
  rw[sameA_refl]at sm
  have hcp:=copy_pure false o.told[i].2 hsm.1 hsm.2.1 hsm.2.2
  conv=>whnf
  refine ixK (idxP hc) ?_
  rw[hkey]
  conv=>whnf
  refine⟨esA_keys _,keyP _,some (encA false o.told[i].2),look_some hget,?_⟩
  conv=>whnf
  refine⟨_,[],fun h nx _=>pureV_pure hcp ⟨.fr rfl,trivial⟩,by simp,?_⟩
  conv=>whnf
  refine⟨by kernel_rfl,?_⟩
  conv=>whnf
  refine roundV_eq tab_ok mixed hasg hbody rfl (by simp) (show 4 < 6 by omega) ?_
  conv=>whnf
  refine⟨rfl,?_⟩
  conv=>whnf
  split
  case' h_1 hh=>exfalso;simp at hh;omega
  conv=>whnf
  refine ixK (idxEn hcl) ?_
  conv=>whnf
  refine neqP o.told[i].1 o.told[i].1 ?_
  rw[show(!decide (o.told[i].1=o.told[i].1))=false by simp]
  conv=>whnf
  refine ixK (idxEn hcl) ?_
  conv=>whnf
  refine⟨_,[],fun h nx _=>pureV_pure sm ⟨.fr rfl,.fr rfl,trivial⟩,by simp,?_⟩
  conv=>whnf
  refine⟨by kernel_rfl,?_⟩
  conv=>whnf
  refine⟨rfl,?_⟩
  conv=>whnf
  exact⟨⟨i + 1,by omega⟩,(Wk.i (by repeat' (first|exact LHa|exact LeL.freeV (cellsOut_free s pe pol m)|exact LeL.freeV (cellsOS_free o)|exact .int_of (wrap64_succ hc hgl)|exact .free (.iptr (by intro v hv;simp at hv;subst hv;exact imapA_free m))|exact .A|exact LeL.fr rfl|exact LHb|refine Or.inl ⟨by simp,_,rfl,?_⟩|exact Or.inr ⟨by simp,_,_,_,_,rfl⟩|refine⟨rfl,rfl,rfl,rfl,rfl,rfl,?_⟩|refine⟨?_,?_⟩)) (by omega)),by simp only;omega⟩
 rename_i hc
 have hc:i=(keysE o.told).length:=by simp at hc;omega
 subst hc
 conv=>whnf
 refine⟨_,_,_,Ends.here,?_⟩
 conv=>whnf
 split
 case' h_2 hh=>exfalso;simp[keysE]at hh
 conv=>whnf
 refine⟨_,[(0,varOut s pe pol m)],fun h nx hrd=>pureV_var (lenO_ok s pe pol m) .int (hrd 0 _ (by simp)) (cellsOut_free s pe pol m) ⟨.ptr rfl (by omega),trivial⟩,by intro b ob hb;simp at hb;obtain⟨rfl,rfl⟩:=hb;rfl,?_⟩
 conv=>whnf
 refine⟨by kernel_rfl,?_⟩
 conv=>whnf
 exact⟨.bool true,[(0,varOut s pe pol m)],1,(Ends.all id [] (by repeat' (first|exact LHa|exact LeL.freeV (cellsOut_free s pe pol m)|exact .bool_of (by simp[keysE,hlm])|exact .A|exact LeL.fr rfl|exact LHb|refine Or.inl ⟨by simp,_,rfl,?_⟩|exact Or.inr ⟨by simp,_,_,_,_,rfl⟩|refine⟨rfl,rfl,rfl,rfl,rfl,rfl,?_⟩|refine⟨?_,?_⟩)) (fun _ _ _ _ h=>h) (fun _ _=>rfl) (by omega) (by simp)),rfl,rfl,rfl⟩
end
section
open Go.Proofs.Tryz (prog)
attribute [local irreducible] CallV RoundV aggK
theorem RelO.new {s:SelfL} {pe:Peer} {pol:Policy} (h:newO s pe pol=true):RelO s pe pol [] (newOS s pe pol):=by
 rw[newOS,if_pos h]
 exact⟨rfl,rfl,rfl,.refl _,by simp[RisE,keysE],by simp,by simp⟩
end
section
open Go.Proofs.Tryz (prog)
theorem keys_sorted {l m:List (Prefix × Attrs)} (h:RisE l) (hp:l.Perm m):sortPs (keysE m)=keysE l:=by
 have h1:(keysE m).Perm (keysE l):=(hp.map _).symm
 rw[sortPs_perm h1]
 exact sorted_eq (List.mergeSort_perm _ _) (sortPs_sorted (keysE l)) (List.Pairwise.imp (fun h=>Nat.le_of_lt h) h)
theorem comKs_eq {m n now was:List (Prefix × Attrs)} (hn:∀e∈now,getE n e.1=some e.2) (hm:∀p,getE m p=getE was p):comKs (keysE now) m n=comK was now:=by
 unfold comKs comK
 induction now with
 | nil=>rfl
 | cons e r ih=>
  have he:=hn e (by simp)
  have ih:=ih fun e' h'=>hn e' (by simp[h'])
  have h1:comOne m n e.1=if getE was e.1=some e.2 then none else some e:=by rw[comOne,he,hm];rfl
  show List.filterMap (comOne m n) (e.1 :: keysE r)=_
  rw[List.filterMap_cons,h1,List.filter_cons]
  by_cases hc:getE was e.1=some e.2
  ·simp[hc];exact ih
  ·simp[hc];exact ih
theorem upd_eq {m n was now:List (Prefix × Attrs)} (hw:RisE was) (hwp:was.Perm m) (hn:RisE now) (hnp:now.Perm n):updP m n=updO was now:=by
 have hNn:NodE n:=(hnp.map _).nodup_iff.1 hn.nod
 unfold updP updO
 rw[keys_sorted hw hwp,keys_sorted hn hnp,comKs_eq (was:=was) (fun e he=>mem_getE hNn (hnp.mem_iff.1 he)) (fun p=>(getE_perm hw.nod hwp p).symm)]
 have:goKs (keysE was) n=goK was now:=by
  unfold goKs goK
  refine List.filter_congr fun p _=>?_
  have:p∈keysE n↔p∈keysE now:=(hnp.map _).mem_iff.symm
  simp[this]
 rw[this]
theorem RelO.tell {s:SelfL} {pe:Peer} {pol:Policy} {m:List (Prefix × Attrs)} {o:OutS} (h:RelO s pe pol m o) {l:List Route} (hl:l.length≤1000) (hok:okT l=true):RelO s pe pol (nowL s pe pol l) (tellS o l):=by
 obtain⟨h1,h2⟩:=nowR_perm (o:=o) hok
 rw[h.eself,h.epeer,h.epol]at h2
 rw[tellS,if_pos hok]
 refine⟨h.eself,h.epeer,h.epol,h2,h1,Nat.le_trans (List.length_filterMap_le _ _) hl,fun e he=>nowR_right e (h2.mem_iff.2 he)⟩
theorem RelO.upd {s:SelfL} {pe:Peer} {pol:Policy} {m:List (Prefix × Attrs)} {o:OutS} (h:RelO s pe pol m o) {l:List Route} (hl:l.length≤1000) (hok:okT l=true):updP m (nowL s pe pol l)=tellU o l:=by
 have ht:=h.tell hl hok
 rw[tellS,if_pos hok]at ht
 rw[tellU,if_pos hok]
 exact upd_eq h.ris h.perm ht.ris ht.perm
theorem tell26_ok (o:OutS) (l:List Route) (hl:l.length≤1000) (ht:o.told.length≤1000):PCon prog 43 [encOS o,encRts l] (.tup [encOS (tellS o l),encUt false (tellU o l),.int .i64 (tellE l)]):=by
 cases h:okT l with
 | true=>have:=tell26_good o l h hl ht;rw[tellS,tellU,tellE,if_pos h,if_pos h,if_pos h];exact this
 | false=>have:=tell26_bad o l h;rw[tellS,tellU,tellE,if_neg (by simp[h]),if_neg (by simp[h]),if_neg (by simp[h])];exact this
theorem rightA_legs {a:Attrs} (h:rightA a=true):∀p∈a.path,0 < p.ns.length:=by
 simp only[rightA,Bool.and_eq_true,decide_eq_true_eq]at h
 obtain⟨⟨⟨⟨⟨⟨_,h1⟩,_⟩,_⟩,_⟩,h2⟩,_⟩:=h
 simp only[pathOk,Bool.and_eq_true,decide_eq_true_eq,List.all_eq_true]at h1
 intro p hp
 have:=h1.2 p hp
 simp only[legOk,Bool.and_eq_true,decide_eq_true_eq]at this
 have:=this.1.1.1
 omega
theorem comS_right {out:List (List Prefix × Attrs)} {e:Prefix × Attrs} {P:Attrs→Prop} (h:∀x∈out,P x.2) (he:P e.2):∀x∈comS out e,P x.2:=by
 intro x hx
 unfold comS at hx
 split at hx
 ·rcases List.mem_or_eq_of_mem_set hx with hx|rfl
  ·exact h x hx
  ·exact he
 ·rcases List.mem_append.1 hx with hx|hx
  ·exact h x hx
  ·obtain rfl:=List.mem_singleton.1 hx;exact he
theorem comU_right {P:Attrs→Prop} {l:List (Prefix × Attrs)} (h:∀e∈l,P e.2):∀x∈comU l,P x.2:=by
 have key:∀(l:List (Prefix × Attrs)) (out:List (List Prefix × Attrs)),(∀e∈l,P e.2)→(∀x∈out,P x.2)→∀x∈l.foldl comS out,P x.2:=by
  intro l
  induction l with
  | nil=>intro out _ h;exact h
  | cons e r ih=>intro out hl ho;exact ih _ (fun e' h'=>hl e' (by simp[h'])) (comS_right ho (hl e (by simp)))
 exact key l [] h (by simp)
theorem updO_legs {was now:List (Prefix × Attrs)} (h:∀e∈now,rightA e.2=true):∀u∈updO was now,∀p∈u.attrs.path,0 < p.ns.length:=by
 intro u hu
 unfold updO at hu
 rcases List.mem_append.1 hu with hu|hu
 ·obtain⟨g,_,rfl⟩:=List.mem_map.1 hu
  intro p hp;simp[noA]at hp
 ·obtain⟨x,hx,rfl⟩:=List.mem_map.1 hu
  exact rightA_legs (comU_right (P:=fun a=>rightA a=true) (fun e he=>h e (List.mem_filter.1 he).1) x hx)
theorem tellU_legs (o:OutS) (l:List Route):∀u∈tellU o l,∀p∈u.attrs.path,0 < p.ns.length:=by
 unfold tellU
 split
 ·exact updO_legs nowR_right
 ·simp
end
section
open Go.Proofs.Tryz (prog)
attribute [local irreducible] CallV RoundV VC VH
section
variable {G : Gh} {w w' : World} {ad : Addr} {u0 u1 : Value}
theorem pfx_ch {fr:Bool} {l:List Prefix} {u:Value} (hv:vr G w (encPs fr l) u) (hch:Ch w w' ad u1) (h0:w.cell? ad=some u0) (hk:Kin u0 u1):∃l':List Prefix,l'.length=l.length∧vr G w' (encPs fr l') u:=by
 obtain⟨l',q1,_,q3⟩:=sl_ch (cells:=cellsP) (sz:=2) (by omega) (fun _=>rfl) (Sh:=fun _ _=>True) (fun x us us' hx hkin=>by
  obtain⟨c0,k0⟩:=kin_u32 (w':=w') (hx 0 _ rfl) (hkin 0)
  have k1:=kin_u8 (w':=w') (hx 1 _ rfl) (hkin 1)
  refine⟨⟨c0,x.len⟩,trivial,fun q v hq=>?_⟩
  have hlt:q < 2:=(List.getElem?_eq_some_iff.1 hq).1
  match q,hlt with
  | 0,_=>cases hq;exact k0
  | 1,_=>cases hq;exact k1) hv hch h0 hk
 exact⟨l',q1,q3⟩
structure ShU (y x:Upd):Prop where
 new:y.new.length=x.new.length
 legs:Alike y.attrs.path x.attrs.path
theorem ups_ch {fr:Bool} {l:List Upd} {u:Value} (hv:vr G w (encUt fr l) u) (hch:Ch w w' ad u1) (h0:w.cell? ad=some u0) (hk:Kin u0 u1) :
  ∃l':List Upd,l'.length=l.length∧(∀i (h1:i < l'.length) (h2:i < l.length),ShU l'[i] l[i])∧vr G w' (encUt fr l') u:=by
 refine sl_ch (cells:=cellsU fr) (sz:=10) (by omega) (fun _=>rfl) (Sh:=ShU) (fun x us us' hx hkin=>?_) hv hch h0 hk
 obtain⟨c0,q0,k0⟩:=pfx_ch (hx 0 _ rfl) hch h0 hk
 have e0:=kin_sl (hx 0 _ rfl) (hkin 0)
 obtain⟨c1,q1,k1⟩:=pfx_ch (hx 1 _ rfl) hch h0 hk
 have e1:=kin_sl (hx 1 _ rfl) (hkin 1)
 have k2:=kin_u8 (w':=w') (hx 2 _ rfl) (hkin 2)
 obtain⟨c3,q3,k3⟩:=legs_ch (hx 3 _ rfl) hch h0 hk
 have e3:=kin_sl (hx 3 _ rfl) (hkin 3)
 obtain⟨c4,k4⟩:=kin_u32 (w':=w') (hx 4 _ rfl) (hkin 4)
 obtain⟨c5,k5⟩:=kin_bool (w':=w') (hx 5 _ rfl) (hkin 5)
 obtain⟨c6,k6⟩:=kin_u32 (w':=w') (hx 6 _ rfl) (hkin 6)
 obtain⟨c7,k7⟩:=kin_bool (w':=w') (hx 7 _ rfl) (hkin 7)
 obtain⟨c8,k8⟩:=kin_u32 (w':=w') (hx 8 _ rfl) (hkin 8)
 obtain⟨c9,q9,k9⟩:=words_ch (hx 9 _ rfl) hch h0 hk
 have e9:=kin_sl (hx 9 _ rfl) (hkin 9)
 refine⟨⟨c0,c1,⟨x.attrs.origin,c3,c4,c5,c6,c7,c8,c9⟩⟩,⟨q1,q3⟩,fun q v hq=>?_⟩
 have hlt:q < 10:=(List.getElem?_eq_some_iff.1 hq).1
 match q,hlt with
 | 0,_=>cases hq;rw[e0];exact k0
 | 1,_=>cases hq;rw[e1];exact k1
 | 2,_=>cases hq;exact k2
 | 3,_=>cases hq;rw[e3];exact k3
 | 4,_=>cases hq;exact k4
 | 5,_=>cases hq;exact k5
 | 6,_=>cases hq;exact k6
 | 7,_=>cases hq;exact k7
 | 8,_=>cases hq;exact k8
 | 9,_=>cases hq;rw[e9];exact k9
end
def ShUL (l x:List Upd):Prop:=x.length=l.length∧∀i (h1:i < x.length) (h2:i < l.length),ShU x[i] l[i]
theorem ShUL.refl (l:List Upd):ShUL l l:=⟨rfl,fun i h1 h2=>⟨rfl,rfl⟩⟩
theorem ShUL.trans {a b c:List Upd} (h:ShUL a b) (k:ShUL b c):ShUL a c:=⟨k.1.trans h.1,fun i h1 h2=>by
 have h3:i < b.length:=by rw[h.1];exact h2
 exact⟨(k.2 i h1 h3).new.trans (h.2 i h3 h2).new,(k.2 i h1 h3).legs.trans (h.2 i h3 h2).legs⟩⟩
def spU (k:Nat) (t:List (Nat × V)) (x:List Upd):St:=⟨(k,encUt true x) :: t,[],0⟩
inductive Fixed:V→Prop
 | int {k n}:Fixed (.int k n)
 | bool {b}:Fixed (.bool b)
 | pin {u}:Fixed (.pin u .any)
theorem Fixed.vr {v:V} (h:Fixed v) {G G':Gh} {w w':World} {u:Value} (hv:vr G w v u):vr G' w' v u:=by
 cases h with
 | int=>cases hv;constructor
 | bool=>cases hv;constructor
 | pin=>cases hv;exact .pin _ _ (.any _)
theorem LeV.pinned {h:Heap} {nx nx':Nat} {ρ:Nat→Nat} {Z:List Nat} {u:Value} {v:V}:LeV h nx ρ nx' Z (.pin u v) (.pin u .any):=fun G w x hr hv=>by cases hv;exact .pin _ _ (.any _)
def Fixeds (s:St):List (Nat × V)→Prop
 | []=>True
 | (i,v) :: r=>(Fixed v∧s.get i=v)∧Fixeds s r
theorem Fixeds.out {s:St}:∀{t:List (Nat × V)},Fixeds s t→∀i,look t i=.any∨(Fixed (look t i)∧s.get i=look t i)
 | [],_,i=>.inl rfl
 | (j,v) :: r,h,i=>by
  rw[look_cons]
  by_cases hij:j=i
  ·subst hij;rw[if_pos rfl];exact .inr h.1
  ·rw[if_neg hij];exact Fixeds.out h.2 i
theorem spU_hot {N k:Nat} {s:St} {x:List Upd} {t:List (Nat × V)} (h1:s.get k=encUt true x) (hb:Fixeds s t) {G:Gh} {a:Act} {w w':World} {ad:Addr} {u0 u1:Value} (hs:Sim G N s a w) (hk:Gok G)
  (hi:imm G w true ad u0) (hsp:ad.spot=none) (hkin:Kin u0 u1) (hch:Ch w w' ad u1) (hn:s.nx=0):∃x',ShUL x x'∧Sim G N (spU k t x') a w'∧Gok G:=by
 have hv:=hs.tmp k
 rw[h1]at hv
 obtain⟨x',q1,q2,q3⟩:=ups_ch hv hch ((rd_cell hsp).symm.trans hi.1) hkin
 refine⟨x',⟨q1,q2⟩,⟨hs.size,fun i=>?_,⟨fun c hc=>by rw[hch.size];exact hs.hr.amb_lt c hc,by rw[hch.size];exact hs.hr.B_le,fun b hb=>hs.hr.dom b (by rw[hn];exact hb),fun b blk hblk=>by simp[spU,hget]at hblk,fun b b' k k' c' q1=>by simp[spU,hget]at q1,fun b blk c' q1=>by simp[spU,hget]at q1,fun b c' hc'=>by rw[hch.size];exact hs.hr.lt b c' hc',fun b blk hblk=>by simp[spU,hget]at hblk,?_⟩⟩,hk⟩
 ·show vr G w' (look ((k,encUt true x') :: t) i) _
  rw[look_cons]
  split
  ·rename_i e;subst e;exact q3
  ·have:=hs.tmp i
   rcases hb.out i with h|⟨h,h2⟩
   ·rw[h];exact .any _
   ·rw[h2]at this;exact h.vr this
 ·exact fun p hp=>⟨(hs.hr.gl p hp).1,by rw[hch.other p.1 (by have:=hk.2 p hp;have:=(hi.2.2.1 rfl).1;omega)];exact(hs.hr.gl p hp).2⟩
end
section
open Go.Proofs.Tryz (prog)
attribute [local irreducible] CallV RoundV aggK VC VM CallB VH VB2
structure ActO where
 what:Int
 rts:List Route
 pol:Policy
def cellsActO (x:ActO):List V:=.int .i64 x.what :: encRts x.rts :: cellsPo false x.pol
def encActsO (l:List ActO):V:=.sl false 4 (l.map cellsActO)
theorem cellsActO_free (x:ActO):∀v∈cellsActO x,Free v:=by
 intro v hv
 simp only[cellsActO,List.mem_cons]at hv
 rcases hv with rfl|rfl|hv
 ·exact .int
 ·exact encRts_free _
 ·exact cellsPo_free false _ v hv
theorem encActsO_free (l:List ActO):Free (encActsO l):=.sl (by
 intro x hx v hv
 obtain⟨c,_,rfl⟩:=List.mem_map.1 hx
 exact cellsActO_free c v hv)
instance {l}:FreeI (encActsO l):=⟨⟨encActsO_free l⟩⟩
theorem idxActO {l:List ActO} {i:Nat} (h:i < l.length):(l.map cellsActO)[(i:Int).toNat]? = some (cellsActO l[i]):=by simp[h]
theorem encU_cold' (u:Upd):∀v∈cellsU false u,Cold v:=by
 intro v hv
 simp only[cellsU,cellsA,List.mem_cons,List.not_mem_nil,or_false]at hv
 rcases hv with rfl|rfl|rfl|rfl|rfl|rfl|rfl|rfl|rfl|rfl
 all_goals first|exact .int|exact .bool|exact encLegs_cold _|exact encW_cold _|exact encPs_cold _
theorem encUt_cold (l:List Upd):Cold (encUt false l):=.sl fun x hx v hv=>by
 obtain⟨c,_,rfl⟩:=List.mem_map.1 hx
 exact encU_cold' c v hv
instance {fr l}:FreeI (encUt fr l):=⟨⟨encUt_free fr l⟩⟩
def zeroOS:List V:=[.int .u32 0,.int .u32 0,.int .u32 0,.int .u32 0,.int .u32 0,.int .u32 0,.bool false,.snil,.bool false,.snil]
theorem act26_good {s:SelfL} {pe:Peer} {pol:Policy} {m:List (Prefix × Attrs)} {o:OutS} (hr:RelO s pe pol m o) (x:ActO) (hw:x.what=0) (hx:few26S x.rts 400=true) (hok:okT x.rts=true) :
  CallV prog 17 [.ptr 0 0,encOS o,.agg (cellsActO x)] [(0,varOut s pe pol m)] 1
   (fun v h nx=>v=.tup [encOS (tellS o x.rts),.bool true]∧h=[(0,varOut s pe pol (nowL s pe pol x.rts))]∧nx=1):=by
 have hF:FW Fence.wide:=.inl rfl
 obtain⟨hsm,hl⟩:=few26S_out hx
 have hl:x.rts.length≤1000:=by omega
 have ht:=tell26_ok o x.rts hl (by rw[hr.len];exact hr.few)
 have hB:=tell_B s pe pol m hr.few x.rts hl hsm hok
 rw[hr.upd hl hok]at hB
 rw[tellE,if_pos hok]at ht
 have hsame:=sameUs_ok false true (tellU o x.rts)
 have hlegs:=tellU_legs o x.rts
 have n0:=num26_ok 0
 generalize tellU o x.rts=U at *
 refine callV_of_vc (fn:=Go.Proofs.Tryz.f17) (body:=_) tab_ok rfl rfl (by simp[Go.Proofs.Tryz.f17]) (Nat.le_of_ble_eq_true rfl) ?_
 refine vc_seq (vcg_ok (rd:=false) tab_ok mixed hF (fun _=>rfl) ?_)
 conv=>whnf
 refine vc_seq (vc_seq (vcg_ok (rd:=false) tab_ok mixed hF (fun _=>rfl) ?_))
 conv=>whnf
 refine vc_block (vc_seq (vcg_ok (rd:=false) tab_ok mixed hF (fun _=>rfl) ?_))
 conv=>whnf
 refine vc_cond (b:=x.what == 0) rfl (fun _=>?_) (fun e=>by simp[hw]at e)
 refine vc_seq (vcg_ok (rd:=false) tab_ok mixed hF (fun _=>rfl) ?_)
 conv=>whnf
 refine callV_pure ht ⟨.fr rfl,.fr rfl,trivial⟩ ?_
 conv=>whnf
 refine vb_call tab_ok hF (m:=3) (fid:=19) (d:=36) (by decide) rfl rfl rfl rfl rfl (by decide) ?_
 conv=>whnf
 refine⟨_,rfl,?_⟩
 refine callB_frame (nx:=5) (n0:=1) id (hB) (by repeat' (first|exact True.intro|exact .ptr rfl (by omega)|exact .fr rfl|exact LeL.freeV (cellsOut_free s pe pol m)|exact .A|exact LeL.fr rfl|refine⟨?_,?_⟩)) (LeH.of (by repeat' (first|exact LHa|exact .ptr rfl (by omega)|exact .fr rfl|exact LeL.freeV (cellsOut_free s pe pol m)|exact .A|exact LeL.fr rfl|exact LHb|refine Or.inl ⟨by simp,_,rfl,?_⟩|exact Or.inr ⟨by simp,_,_,_,_,rfl⟩|refine⟨rfl,rfl,rfl,rfl,rfl,rfl,?_⟩|refine⟨?_,?_⟩)) (show ∀b∈([0]:List Nat),∀b'∈([0]:List Nat),id b=id b'→b=b' by decide) (fun _ h=>by omega) (by omega) (by simp)) (fun b hb=>by match b,hb with|0,_=>exact ne_none_of rfl) (by decide) ?_
 rintro v h' nx' ⟨rfl,rfl,rfl⟩ _
 refine⟨[(0,varOut s pe pol (nowL s pe pol x.rts)),(3,some (.var true 47 zeroOS)),(4,some (.var true 47 (cellsOS (tellS o x.rts))))],(by repeat' (first|exact True.intro|exact Or.inr ⟨by decide,rfl⟩|exact Or.inl ⟨0,rfl,by omega,_,rfl,.var (cellsOut_free s pe pol _)⟩|refine⟨?_,?_⟩)),?_⟩
 intro u'
 refine⟨[(9,encUt false U),(10,.int .i64 0),(6,.pin (u' 6) .any),(8,.pin (u' 8) .any)],⟨.inl ⟨rfl,encUt_free _ _,encUt_cold _⟩,.inl ⟨rfl,.int,.int⟩,.inr ⟨.any,rfl,.inl rfl⟩,.inr ⟨.any,rfl,.inl rfl⟩,trivial⟩,?_⟩
 conv=>whnf
 refine vb2_seq (vh_region tab_ok hF ?_)
 conv=>whnf
 refine callV_pure hsame ⟨.fr rfl,.fr rfl,trivial⟩ ?_
 conv=>whnf
 refine callV_pure n0 ⟨.fr rfl,trivial⟩ ?_
 conv=>whnf
 refine vb2_seq (vh_seq (vh_region tab_ok hF ?_))
 conv=>whnf
 refine vh_block (vh_loop (fun i:{i:Nat × List Upd // i.1≤U.length∧ShUL U i.2}=>spU 11 [(14,cI i.1.1),(13,.bool true),(6,.pin (u' 6) .any),(8,.pin (u' 8) .any)] i.1.2) (fun i=>U.length - i.1.1) ⟨(0,U),Nat.zero_le _,ShUL.refl U⟩ ?_ fun i=>?_)
 ·exact Wk.of id [] ⟨.free (encUt_free _ _),.int_of rfl,.bool_of rfl,.pinned,.pinned,trivial⟩ (LeH.same trivial (by omega))
 ·obtain⟨⟨i,x1⟩,hi,hx1⟩:=i
  have hi:i≤U.length:=hi
  have hx1:ShUL U x1:=hx1
  refine vh_seq (vh_seq (vh_region tab_ok hF ?_))
  conv=>whnf
  intro hlen
  conv=>whnf
  have hxl:x1.length=U.length:=hx1.1
  refine vh_cond rfl (fun e=>?_) (fun e=>?_)
  ·refine vh_skip ?_
   have hin:i < U.length:=by simp at e;omega
   conv=>whnf
   refine vh_seq (vh_block (vh_seq (vh_seq (vh_region tab_ok hF ?_))))
   conv=>whnf
   refine vh_block (vh_loop (fun k:{k:Nat × List Upd // k.1≤U[i].attrs.path.length∧ShUL U k.2}=>spU 11 [(14,cI i),(15,cI k.1.1),(13,.bool true),(6,.pin (u' 6) .any),(8,.pin (u' 8) .any)] k.1.2) (fun k=>U[i].attrs.path.length - k.1.1) ⟨(0,x1),Nat.zero_le _,hx1⟩ ?_ fun k=>?_)
   ·exact Wk.of id [] ⟨.free (encUt_free _ _),.int_of rfl,.int_of rfl,.bool_of rfl,.pinned,.pinned,trivial⟩ (LeH.same trivial (by omega))
   ·obtain⟨⟨k,y⟩,hk,hy⟩:=k
    have hk:k≤U[i].attrs.path.length:=hk
    have hy:ShUL U y:=hy
    have hiy:i < y.length:=by rw[hy.1];exact hin
    have hyp:y[i].attrs.path.length=U[i].attrs.path.length:=(hy.2 i hiy hin).legs.length
    refine vh_seq (vh_seq (vh_region tab_ok hF ?_))
    conv=>whnf
    refine ixK (idxUt hiy) ?_
    conv=>whnf
    intro hlen2
    conv=>whnf
    refine vh_cond rfl (fun e=>?_) (fun e=>?_)
    ·refine vh_skip ?_
     have hkn:k < U[i].attrs.path.length:=by simp at e;omega
     have hkn':k < y[i].attrs.path.length:=by omega
     have hns:0 < y[i].attrs.path[k].ns.length:=by
      rw[(hy.2 i hiy hin).legs.at hkn' hkn]
      exact hlegs _ (List.getElem_mem hin) _ (List.getElem_mem hkn)
     conv=>whnf
     refine vh_seq (vh_block (vh_hot tab_ok mixed hF (m:=14) (draw:=false) rfl rfl rfl rfl rfl ?_))
     conv=>whnf
     refine ixK (idxUt hiy) ?_
     conv=>whnf
     refine ixK (idxL hkn') ?_
     conv=>whnf
     refine ixK (idxW (i:=0) hns) ?_
     conv=>whnf
     refine ixK (idxW (i:=0) hns) ?_
     conv=>whnf
     refine⟨_,_,_,rfl,rfl,rfl,(by show TK.int .u32 ≠ TK.other;simp),rfl,fun G a' w w' ad u0 u1 hs hg him hsp h0 h1 hch=>?_⟩
     obtain⟨x',hx',hs',hg'⟩:=spU_hot (k:=11) (x:=y) (t:=[(14,cI i),(15,cI k),(13,.bool true),(6,.pin (u' 6) .any),(8,.pin (u' 8) .any)]) rfl ⟨⟨.int,rfl⟩,⟨.int,rfl⟩,⟨.bool,rfl⟩,⟨.pin,rfl⟩,⟨.pin,rfl⟩,trivial⟩ hs hg him hsp (Kin.u32 (UInt32.toNat_lt _) (by constructor<;>simp[IntKind.wrap,IntKind.bits,IntKind.signed]<;>omega) h0 h1) hch rfl
     refine⟨_,G,?_,hs',hg',rfl⟩
     conv=>whnf
     refine vh_region tab_ok hF ?_
     conv=>whnf
     refine⟨⟨(k + 1,x'),by simp only;omega,hy.trans hx'⟩,Wk.of id [] ⟨.free (encUt_free _ _),.int_of rfl,.int_of (by rw[wrap64_succ hkn' (by have:=hlen2;simpa[gd]using this)]),.bool_of rfl,.pinned,.pinned,trivial⟩ (LeH.same trivial (by omega)),?_⟩
     simp only
     omega
    ·refine vh_exit ?_
     conv=>whnf
     refine vh_seq (vh_region tab_ok hF ?_)
     conv=>whnf
     refine vh_block (vh_loop (fun k:{k:Nat × List Upd // k.1≤U[i].new.length∧ShUL U k.2}=>spU 11 [(14,cI i),(16,cI k.1.1),(13,.bool true),(6,.pin (u' 6) .any),(8,.pin (u' 8) .any)] k.1.2) (fun k=>U[i].new.length - k.1.1) ⟨(0,y),Nat.zero_le _,hy⟩ ?_ fun k=>?_)
     ·exact Wk.of id [] ⟨.free (encUt_free _ _),.int_of rfl,.int_of rfl,.bool_of rfl,.pinned,.pinned,trivial⟩ (LeH.same trivial (by omega))
     ·obtain⟨⟨k,z⟩,hk,hz⟩:=k
      have hk:k≤U[i].new.length:=hk
      have hz:ShUL U z:=hz
      have hiz:i < z.length:=by rw[hz.1];exact hin
      have hzn:z[i].new.length=U[i].new.length:=(hz.2 i hiz hin).new
      refine vh_seq (vh_seq (vh_region tab_ok hF ?_))
      conv=>whnf
      refine ixK (idxUt hiz) ?_
      conv=>whnf
      intro hlen3
      conv=>whnf
      refine vh_cond rfl (fun e=>?_) (fun e=>?_)
      ·refine vh_skip ?_
       have hkn':k < z[i].new.length:=by simp at e;omega
       conv=>whnf
       refine vh_seq (vh_block (vh_hot tab_ok mixed hF (m:=12) (draw:=false) rfl rfl rfl rfl rfl ?_))
       conv=>whnf
       refine ixK (idxUt hiz) ?_
       conv=>whnf
       refine ixK (idxP hkn') ?_
       conv=>whnf
       refine ixK (idxP hkn') ?_
       conv=>whnf
       refine⟨_,_,_,rfl,rfl,rfl,(by show TK.int .u32 ≠ TK.other;simp),rfl,fun G a' w w' ad u0 u1 hs hg him hsp h0 h1 hch=>?_⟩
       obtain⟨x',hx',hs',hg'⟩:=spU_hot (k:=11) (x:=z) (t:=[(14,cI i),(16,cI k),(13,.bool true),(6,.pin (u' 6) .any),(8,.pin (u' 8) .any)]) rfl ⟨⟨.int,rfl⟩,⟨.int,rfl⟩,⟨.bool,rfl⟩,⟨.pin,rfl⟩,⟨.pin,rfl⟩,trivial⟩ hs hg him hsp (Kin.u32 (UInt32.toNat_lt _) (by constructor<;>simp[IntKind.wrap,IntKind.bits,IntKind.signed]<;>omega) h0 h1) hch rfl
       refine⟨_,G,?_,hs',hg',rfl⟩
       conv=>whnf
       refine vh_region tab_ok hF ?_
       conv=>whnf
       refine⟨⟨(k + 1,x'),by simp only;omega,hz.trans hx'⟩,Wk.of id [] ⟨.free (encUt_free _ _),.int_of rfl,.int_of (by rw[wrap64_succ hkn' (by have:=hlen3;simpa[gd]using this)]),.bool_of rfl,.pinned,.pinned,trivial⟩ (LeH.same trivial (by omega)),?_⟩
       simp only
       omega
      ·refine vh_exit ?_
       conv=>whnf
       refine vh_region tab_ok hF ?_
       conv=>whnf
       refine⟨⟨(i + 1,z),by simp only;omega,hz⟩,Wk.of id [] ⟨.free (encUt_free _ _),.int_of (by rw[wrap64_succ hin (by have:=hlen;simpa[gd,hxl]using this)]),.bool_of rfl,.pinned,.pinned,trivial⟩ (LeH.same trivial (by omega)),?_⟩
       simp only
       omega
  ·refine vh_exit ?_
   conv=>whnf
   refine vb2_end [(6,.ptr 3 0),(8,.ptr 4 0),(13,.bool true)] ⟨.inr ⟨rfl,_,rfl⟩,.inr ⟨rfl,_,rfl⟩,.inl ⟨.bool,rfl⟩,trivial⟩ ?_
   refine vcg_ok (rd:=false) tab_ok mixed hF (fun _=>rfl) ?_
   conv=>whnf
   exact⟨.tup [encOS (tellS o x.rts),.bool true],[(0,varOut s pe pol (nowL s pe pol x.rts))],1,(Ends.all id [] (by repeat' (first|exact LHa|exact LeL.freeV (cellsOut_free s pe pol _)|exact .tupL ⟨.fr rfl,.fr rfl,trivial⟩|exact .A|exact LeL.fr rfl|exact LHb|refine Or.inl ⟨by simp,_,rfl,?_⟩|exact Or.inr ⟨by simp,_,_,_,_,rfl⟩|refine⟨rfl,rfl,rfl,rfl,rfl,rfl,?_⟩|refine⟨?_,?_⟩)) (fun _ _ _ _ h=>h) (fun _ _=>rfl) (by omega) (by simp)),rfl,rfl,rfl⟩
end
section
open Go.Proofs.Tryz (prog)
attribute [local irreducible] CallV RoundV aggK
theorem RelO.policy {s:SelfL} {pe:Peer} {pol:Policy} {m:List (Prefix × Attrs)} {o:OutS} (h:RelO s pe pol m o) (p:Policy):RelO s pe p m { o with pol:=p }:=⟨h.eself,h.epeer,rfl,h.perm,h.ris,h.few,h.good⟩
theorem RelO.clear {s:SelfL} {pe:Peer} {pol:Policy} {m:List (Prefix × Attrs)} {o:OutS} (h:RelO s pe pol m o):RelO s pe pol [] { o with told:=[] }:=⟨h.eself,h.epeer,h.epol,.refl _,by simp[RisE,keysE],by simp,by simp⟩
theorem newO_pol {s:SelfL} {pe:Peer} {pol:Policy} (h:newO s pe pol=true) (p:Policy):newO s pe p=decide (checkP p=0):=by
 unfold newO at h ⊢
 simp only[Bool.and_eq_true]at h
 rw[h.1.1.1,h.1.1.2,h.1.2]
 rfl
theorem act26_bad {s:SelfL} {pe:Peer} {pol:Policy} {m:List (Prefix × Attrs)} {o:OutS} (hr:RelO s pe pol m o) (x:ActO) (hw:x.what=0) (hx:few26S x.rts 400=true) (hok:okT x.rts=false) :
  CallV prog 17 [.ptr 0 0,encOS o,.agg (cellsActO x)] [(0,varOut s pe pol m)] 1
   (fun v h nx=>v=.tup [encOS o,.bool true]∧h=[(0,varOut s pe pol m)]∧nx=1):=by
 obtain⟨hsm,hl⟩:=few26S_out hx
 have ht:=tell26_bad o x.rts hok
 have hT:=tell_bad s pe pol m x.rts hsm hok
 have n2:=num26_ok 2
 refine callV_of (fn:=Go.Proofs.Tryz.f17) (body:=_) tab_ok mixed rfl rfl (by decide) (by simp[Go.Proofs.Tryz.f17]) ?_
 conv=>whnf
 rw[show(x.what == 0)=true by simp[hw]]
 conv=>whnf
 refine callV_pure ht ⟨.fr rfl,.fr rfl,trivial⟩ ?_
 conv=>whnf
 refine callV_out hT rfl (cellsOut_free _ _ _ _) (cellsOut_free _ _ _ _) ⟨.ptr rfl (by omega),.fr rfl,trivial⟩ ?_
 rintro v rfl
 refine⟨.tup (by simp;exact⟨.snil,.int⟩),?_⟩
 show _
 conv=>whnf
 refine callV_pure (sameUs_ok false false []) ⟨.fr rfl,.snil_sl,trivial⟩ ?_
 conv=>whnf
 refine callV_pure n2 ⟨.fr rfl,trivial⟩ ?_
 conv=>whnf
 refine vcg_loop tab_ok mixed (fun _:Unit=>⟨[(6,.ptr 3 0),(8,.ptr 4 0),(11,.snil),(13,.bool true),(14,.int .i64 0)],[(0,varOut s pe pol m),(4,some (.var true 47 (cellsOS o))),(3,some (.var true 47 zeroOS))],5⟩) (fun _=>0) () (Wk.i (by repeat' (first|exact LHa|exact LeL.freeV (cellsOut_free s pe pol m)|exact LeL.freeV (cellsOS_free o)|exact .bool_of rfl|exact .A|exact LeL.fr rfl|exact LHb|refine Or.inl ⟨by simp,_,rfl,?_⟩|exact Or.inr ⟨by simp,_,_,_,_,rfl⟩|refine⟨rfl,rfl,rfl,rfl,rfl,rfl,?_⟩|refine⟨?_,?_⟩)) (by omega)) (fun _=>?_)
 conv=>whnf
 exact⟨.tup [encOS o,.bool true],[(0,varOut s pe pol m)],1,(Ends.all id [] (by repeat' (first|exact LHa|exact LeL.freeV (cellsOut_free s pe pol m)|exact .tupL ⟨.fr rfl,.fr rfl,trivial⟩|exact .A|exact LeL.fr rfl|exact LHb|refine Or.inl ⟨by simp,_,rfl,?_⟩|exact Or.inr ⟨by simp,_,_,_,_,rfl⟩|refine⟨rfl,rfl,rfl,rfl,rfl,rfl,?_⟩|refine⟨?_,?_⟩)) (fun _ _ _ _ h=>h) (fun _ _=>rfl) (by omega) (by simp)),rfl,rfl,rfl⟩
theorem act26_policy {s:SelfL} {pe:Peer} {pol:Policy} {m:List (Prefix × Attrs)} {o:OutS} (hr:RelO s pe pol m o) (hnew:newO s pe pol=true) (x:ActO) (hw:x.what=1) (hc:checkP x.pol=0) :
  CallV prog 17 [.ptr 0 0,encOS o,.agg (cellsActO x)] [(0,varOut s pe pol m)] 1
   (fun v h nx=>v=.tup [encOS { o with pol:=x.pol },.bool true]∧h=[(0,varOut s pe x.pol m)]∧nx=1):=by
 obtain⟨os,op,opol,told⟩:=o
 obtain rfl:os=s:=hr.eself
 obtain rfl:op=pe:=hr.epeer
 have hP:=policyO_ok os op pol m x.pol hc
 have hrn:=refNew26_ok os op x.pol
 have hn2:newO os op x.pol=true:=by rw[newO_pol hnew];simp[hc]
 rw[newOE,newOS,hn2,if_pos rfl,if_pos rfl]at hrn
 have n0:=num26_ok 0
 refine callV_of (fn:=Go.Proofs.Tryz.f17) (body:=_) tab_ok mixed rfl rfl (by decide) (by simp[Go.Proofs.Tryz.f17]) ?_
 conv=>whnf
 rw[show(x.what == 0)=false by simp[hw]]
 conv=>whnf
 rw[show(x.what == 1)=true by simp[hw]]
 conv=>whnf
 refine callV_out hP rfl (cellsOut_free _ _ _ _) (cellsOut_free _ _ _ _) ⟨.ptr rfl (by omega),.fr rfl,trivial⟩ ?_
 rintro v rfl
 refine⟨.int,?_⟩
 show _
 conv=>whnf
 refine callV_pure hrn ⟨.fr rfl,.fr rfl,.fr rfl,trivial⟩ ?_
 conv=>whnf
 refine⟨_,[],fun h nx _=>pureV_pure n0 ⟨.fr rfl,trivial⟩,by simp,?_⟩
 conv=>whnf
 refine⟨by kernel_rfl,?_⟩
 conv=>whnf
 exact⟨.tup [encOS ⟨os,op,x.pol,told⟩,.bool true],[(0,varOut os op x.pol m)],1,(Ends.all id [] (by repeat' (first|exact LHa|exact LeL.freeV (cellsOut_free os op x.pol m)|exact .tupL ⟨.fr rfl,.fr rfl,trivial⟩|exact .A|exact LeL.fr rfl|exact LHb|refine Or.inl ⟨by simp,_,rfl,?_⟩|exact Or.inr ⟨by simp,_,_,_,_,rfl⟩|refine⟨rfl,rfl,rfl,rfl,rfl,rfl,?_⟩|refine⟨?_,?_⟩)) (fun _ _ _ _ h=>h) (fun _ _=>rfl) (by omega) (by simp)),rfl,rfl,rfl⟩
theorem act26_polbad {s:SelfL} {pe:Peer} {pol:Policy} {m:List (Prefix × Attrs)} {o:OutS} (hr:RelO s pe pol m o) (hnew:newO s pe pol=true) (x:ActO) (hw:x.what=1) (hc:checkP x.pol ≠ 0) :
  CallV prog 17 [.ptr 0 0,encOS o,.agg (cellsActO x)] [(0,varOut s pe pol m)] 1
   (fun v h nx=>v=.tup [encOS o,.bool true]∧h=[(0,varOut s pe pol m)]∧nx=1):=by
 obtain⟨os,op,opol,told⟩:=o
 obtain rfl:os=s:=hr.eself
 obtain rfl:op=pe:=hr.epeer
 have hP:=policyO_bad os op pol m x.pol hc
 have hrn:=refNew26_ok os op x.pol
 have hn2:newO os op x.pol=false:=by rw[newO_pol hnew];simp[hc]
 rw[newOE,newOS,hn2,if_neg (by decide),if_neg (by decide)]at hrn
 have n2:=num26_ok 2
 refine callV_of (fn:=Go.Proofs.Tryz.f17) (body:=_) tab_ok mixed rfl rfl (by decide) (by simp[Go.Proofs.Tryz.f17]) ?_
 conv=>whnf
 rw[show(x.what == 0)=false by simp[hw]]
 conv=>whnf
 rw[show(x.what == 1)=true by simp[hw]]
 conv=>whnf
 refine callV_out hP rfl (cellsOut_free _ _ _ _) (cellsOut_free _ _ _ _) ⟨.ptr rfl (by omega),.fr rfl,trivial⟩ ?_
 rintro v rfl
 refine⟨.int,?_⟩
 show _
 conv=>whnf
 refine callV_pure hrn ⟨.fr rfl,.fr rfl,.fr rfl,trivial⟩ ?_
 conv=>whnf
 refine⟨_,[],fun h nx _=>pureV_pure n2 ⟨.fr rfl,trivial⟩,by simp,?_⟩
 conv=>whnf
 refine⟨by kernel_rfl,?_⟩
 conv=>whnf
 exact⟨.tup [encOS ⟨os,op,opol,told⟩,.bool true],[(0,varOut os op pol m)],1,(Ends.all id [] (by repeat' (first|exact LHa|exact LeL.freeV (cellsOut_free os op pol m)|exact .tupL ⟨.fr rfl,.fr rfl,trivial⟩|exact .A|exact LeL.fr rfl|exact LHb|refine Or.inl ⟨by simp,_,rfl,?_⟩|exact Or.inr ⟨by simp,_,_,_,_,rfl⟩|refine⟨rfl,rfl,rfl,rfl,rfl,rfl,?_⟩|refine⟨?_,?_⟩)) (fun _ _ _ _ h=>h) (fun _ _=>rfl) (by omega) (by simp)),rfl,rfl,rfl⟩
theorem act26_clear {s:SelfL} {pe:Peer} {pol:Policy} {m:List (Prefix × Attrs)} {o:OutS} (hr:RelO s pe pol m o) (x:ActO) (hw:x.what ≠ 0) (hw1:x.what ≠ 1) :
  CallV prog 17 [.ptr 0 0,encOS o,.agg (cellsActO x)] [(0,varOut s pe pol m)] 1
   (fun v h nx=>v=.tup [encOS { o with told:=[] },.bool true]∧h=[(0,varOut s pe pol [])]∧nx=1):=by
 have hP:=clearO_ok s pe pol m
 have n0:=num26_ok 0
 refine callV_of (fn:=Go.Proofs.Tryz.f17) (body:=_) tab_ok mixed rfl rfl (by decide) (by simp[Go.Proofs.Tryz.f17]) ?_
 conv=>whnf
 rw[show(x.what == 0)=false by simp[hw]]
 conv=>whnf
 rw[show(x.what == 1)=false by simp[hw1]]
 conv=>whnf
 refine⟨.int .i64 0,[(0,varOut s pe pol m)],[(0,varOut s pe pol [])],fun h nx hrd=>?_,by intro b ob hb;simp at hb;obtain⟨rfl,rfl⟩:=hb;rfl,?_⟩
 ·have h2:hget h 0=some (.var true 97 (cellsOut s pe pol m)):=hrd _ _ (by simp)
  exact updV_var (Z:=[]) hP .int h2 (by simp) (by simp) (cellsOut_free _ _ _ _) (cellsOut_free _ _ _ _) ⟨.ptr rfl (by omega),trivial⟩
 conv=>whnf
 refine⟨_,[],fun h nx _=>pureV_pure n0 ⟨.fr rfl,trivial⟩,by simp,?_⟩
 conv=>whnf
 refine⟨by kernel_rfl,?_⟩
 conv=>whnf
 exact⟨.tup [encOS { o with told:=[] },.bool true],[(0,varOut s pe pol [])],1,(Ends.all id [] (by repeat' (first|exact LHa|exact LeL.freeV (cellsOut_free s pe pol [])|exact .tupL ⟨.aggL ⟨.fr rfl,.fr rfl,.fr rfl,.fr rfl,.fr rfl,.fr rfl,.fr rfl,.fr rfl,.fr rfl,.snil_sl,trivial⟩,.fr rfl,trivial⟩|exact .A|exact LeL.fr rfl|exact LHb|refine Or.inl ⟨by simp,_,rfl,?_⟩|exact Or.inr ⟨by simp,_,_,_,_,rfl⟩|refine⟨rfl,rfl,rfl,rfl,rfl,rfl,?_⟩|refine⟨?_,?_⟩)) (fun _ _ _ _ h=>h) (fun _ _=>rfl) (by omega) (by simp)),rfl,rfl,rfl⟩
def actsO (s:SelfL) (pe:Peer) (pol:Policy) (m:List (Prefix × Attrs)) (o:OutS) (x:ActO) (pol':Policy) (m':List (Prefix × Attrs)) (o':OutS):Prop:=
 RelO s pe pol' m' o'∧newO s pe pol'=true∧CallV prog 17 [.ptr 0 0,encOS o,.agg (cellsActO x)] [(0,varOut s pe pol m)] 1
   (fun v h nx=>v=.tup [encOS o',.bool true]∧h=[(0,varOut s pe pol' m')]∧nx=1)
theorem acts_to {s:SelfL} {pe:Peer} {pol:Policy} {m:List (Prefix × Attrs)} {o:OutS} (hr:RelO s pe pol m o) (hnew:newO s pe pol=true) (x:ActO) (hx:few26S x.rts 400=true):∃pol' m' o',actsO s pe pol m o x pol' m' o'∧(pol'=pol∨pol'=x.pol):=by
 by_cases h0:x.what=0
 ·by_cases hok:okT x.rts=true
  ·have hl:=(few26S_out hx).2
   exact⟨pol,_,_,⟨hr.tell (by omega) hok,hnew,act26_good hr x h0 hx hok⟩,.inl rfl⟩
  ·exact⟨pol,m,o,⟨hr,hnew,act26_bad hr x h0 hx (by simpa using hok)⟩,.inl rfl⟩
 ·by_cases h1:x.what=1
  ·by_cases hc:checkP x.pol=0
   ·exact⟨x.pol,m,_,⟨hr.policy x.pol,by rw[newO_pol hnew];simp[hc],act26_policy hr hnew x h1 hc⟩,.inr rfl⟩
   ·exact⟨pol,m,o,⟨hr,hnew,act26_polbad hr hnew x h1 hc⟩,.inl rfl⟩
  ·exact⟨pol,[],_,⟨hr.clear,hnew,act26_clear hr x h0 h1⟩,.inl rfl⟩
theorem few26S_most {l:List Route} {a b:Int} (h:few26S l a=true) (hab:a≤b):few26S l b=true:=by
 simp only[few26S,Bool.and_eq_true,decide_eq_true_eq]at h ⊢
 exact⟨h.1,by omega⟩
theorem tupO_free (o:OutS) (b:Bool):Free (.tup [encOS o,.bool b]):=.tup (by intro v hv;simp at hv;rcases hv with rfl|rfl;exact encOS_free o;exact .bool)
end
section
open Go.Proofs.Tryz (prog)
attribute [local irreducible] CallV RoundV aggK
theorem RelO.new' {s:SelfL} {pe:Peer} {pol:Policy} (h:newO s pe pol=true):RelO s pe pol [] ⟨s,pe,pol,[]⟩:=
 ⟨rfl,rfl,rfl,.refl _,by simp[RisE,keysE],by simp,by simp⟩
theorem plays26_ok (s:SelfL) (pe:Peer) (pol:Policy) (sc:List ActO):PCon prog 4 [encSf s,encPe pe,encPo false pol,encActsO sc] (.bool true):=by
 have hrn:=refNew26_ok s pe pol
 have n0:=num26_ok 0
 have n2:=num26_ok 2
 refine callV_of (fn:=Go.Proofs.Tryz.f4) (body:=_) tab_ok mixed rfl rfl (by decide) (by simp[Go.Proofs.Tryz.f4]) ?_
 conv=>whnf
 intro _
 conv=>whnf
 split
 ·conv=>whnf
  refine callV_pure works26_ok trivial ?_
  conv=>whnf
  exact(Ends.pA)
 conv=>whnf
 intro _
 conv=>whnf
 split
 ·conv=>whnf
  refine callV_pure works26_ok trivial ?_
  conv=>whnf
  exact(Ends.pA)
 conv=>whnf
 cases hn:newO s pe pol with
 | false=>
  rw[newOE,hn,if_neg (by decide)]at hrn
  refine callV_pure (newO_bad s pe pol hn) ⟨.fr rfl,.fr rfl,.fr rfl,trivial⟩ ?_
  conv=>whnf
  refine callV_pure hrn ⟨.fr rfl,.fr rfl,.fr rfl,trivial⟩ ?_
  conv=>whnf
  refine callV_pure n2 ⟨.fr rfl,trivial⟩ ?_
  conv=>whnf
  refine callV_pure works26_ok trivial ?_
  conv=>whnf
  exact(Ends.pA)
 | true=>
 have hnew:=newO_ok s pe pol hn
 rw[newOE,newOS,hn,if_pos rfl,if_pos rfl]at hrn
 refine callV_frame (nx:=3) (n0:=0) id hnew ⟨.fr rfl,.fr rfl,.fr rfl,trivial⟩ (LeH.nil (by omega) (fun _ h=>by omega) (by simp)) (fun b hb=>by omega) (fun b hb=>by omega) ?_
 rintro v h' nx' ⟨rfl,rfl,rfl⟩ _
 refine⟨.tup [.ptr 3 0,.int .i64 0],[(3,varOut s pe pol []),(0,some (.var true 24 (cellsSf s))),(1,some (.var true 26 (cellsPe pe))),(2,some (.var true 29 (cellsPo false pol)))],.tup ⟨.ptr rfl,.free .int,trivial⟩,(by repeat' (first|exact True.intro|exact Or.inr ⟨by decide,rfl⟩|exact Or.inl ⟨0,rfl,by omega,_,rfl,.var (cellsOut_free _ _ _ _)⟩|refine⟨?_,?_⟩)),?_⟩
 conv=>whnf
 refine callV_pure hrn ⟨.fr rfl,.fr rfl,.fr rfl,trivial⟩ ?_
 conv=>whnf
 refine vcg_loop tab_ok mixed (fun q:{q:Nat × Policy × List (Prefix × Attrs) × OutS // q.1≤sc.length∧RelO s pe q.2.1 q.2.2.1 q.2.2.2∧newO s pe q.2.1=true}=>⟨[(3,encActsO sc),(9,.ptr 3 0),(10,.int .i64 0),(11,.ptr 4 0),(13,cI q.1.1)],[(3,varOut s pe q.1.2.1 q.1.2.2.1),(4,some (.var true 47 (cellsOS q.1.2.2.2)))],5⟩) (fun q=>sc.length - q.1.1) ⟨(0,pol,[],⟨s,pe,pol,[]⟩),by simp,RelO.new' hn,hn⟩ (Wk.i (by repeat' (first|exact LHa|exact LeL.freeV (cellsOut_free s pe _ _)|exact LeL.freeV (cellsOS_free _)|exact .int_of (by simp)|exact .A|exact LeL.fr rfl|exact LHb|refine Or.inl ⟨by simp,_,rfl,?_⟩|exact Or.inr ⟨by simp,_,_,_,_,rfl⟩|refine⟨rfl,rfl,rfl,rfl,rfl,rfl,?_⟩|refine⟨?_,?_⟩)) (by omega)) (fun q=>?_)
 obtain⟨⟨i,pol1,m1,o1⟩,hi,hr,hn1⟩:=q
 have hi:i≤sc.length:=hi
 have hr:RelO s pe pol1 m1 o1:=hr
 have hn1:newO s pe pol1=true:=hn1
 conv=>whnf
 intro hgl
 have hgl:sc.length≤maxLen:=by simpa[gd]using hgl
 conv=>whnf
 split
 ·rename_i hc
  have hc:i < sc.length:=by simpa using hc
  have hfew:=few26_ok sc[i].rts 40
  conv=>whnf
  refine ixK (idxActO hc) ?_
  conv=>whnf
  refine callV_pure hfew ⟨.fr rfl,.fr rfl,trivial⟩ ?_
  cases hf:few26S sc[i].rts 40 with
  | false=>
   conv=>whnf
   refine callV_pure works26_ok trivial ?_
   conv=>whnf
   exact(Ends.pA)
  | true=>
  conv=>whnf
  refine ixK (idxActO hc) ?_
  conv=>whnf
  intro _
  conv=>whnf
  split
  ·conv=>whnf
   refine callV_pure works26_ok trivial ?_
   conv=>whnf
   exact(Ends.pA)
  obtain⟨pol2,m2,o2,⟨hr2,hn2,hact⟩,_⟩:=acts_to hr hn1 sc[i] (few26S_most hf (by omega))
  conv=>whnf
  refine ixK (idxActO hc) ?_
  conv=>whnf
  refine⟨.tup [encOS o2,.bool true],[(3,varOut s pe pol1 m1)],[(3,varOut s pe pol2 m2)],fun h nx hrd=>?_,by intro b ob hb;simp at hb;obtain⟨rfl,rfl⟩:=hb;rfl,?_⟩
  ·have h2:hget h 3=some (.var true 97 (cellsOut s pe pol1 m1)):=hrd _ _ (by simp)
   exact updV_var (Z:=[]) hact (tupO_free _ _) h2 (by simp) (by simp) (cellsOut_free _ _ _ _) (cellsOut_free _ _ _ _) ⟨.ptr rfl (by omega),.fr rfl,.free (.agg (cellsActO_free _)),trivial⟩
  conv=>whnf
  refine⟨by kernel_rfl,?_⟩
  conv=>whnf
  refine callV_out (is26_ok hr2) rfl (cellsOut_free _ _ _ _) (cellsOut_free _ _ _ _) ⟨.ptr rfl (by omega),.fr rfl,trivial⟩ ?_
  rintro v rfl
  refine⟨.bool,?_⟩
  show _
  conv=>whnf
  exact⟨⟨(i + 1,pol2,m2,o2),by simp only;omega,hr2,hn2⟩,(Wk.i (by repeat' (first|exact LHa|exact LeL.freeV (cellsOut_free s pe _ _)|exact LeL.freeV (cellsOS_free _)|exact .int_of (wrap64_succ hc hgl)|exact .A|exact LeL.fr rfl|exact LHb|refine Or.inl ⟨by simp,_,rfl,?_⟩|exact Or.inr ⟨by simp,_,_,_,_,rfl⟩|refine⟨rfl,rfl,rfl,rfl,rfl,rfl,?_⟩|refine⟨?_,?_⟩)) (by omega)),by simp only;omega⟩
 rename_i hc
 conv=>whnf
 refine callV_pure n0 ⟨.fr rfl,trivial⟩ ?_
 conv=>whnf
 refine callV_pure works26_ok trivial ?_
 conv=>whnf
 exact(Ends.pA)
end
section
open Go.Proofs.Tryz (prog)
attribute [local irreducible] CallV RoundV aggK
theorem sameP_comm26 (p q:Policy):sameP p q=sameP q p:=by
 cases h:sameP p q with
 | true=>rw[sameP_eq.1 h];exact(sameP_eq.2 rfl).symm
 | false=>
  cases h2:sameP q p with
  | false=>rfl
  | true=>rw[sameP_eq.1 h2,sameP_eq.2 rfl]at h;cases h
theorem same_relO {s:SelfL} {pe:Peer} {pol pol1:Policy} {m m1:List (Prefix × Attrs)} {r r1:OutS} (h:RelO s pe pol m r) (k:RelO s pe pol1 m1 r1):(decide (s=s)&& decide (pe=pe)&& sameP pol pol1 && eqE m m1)=sameOS r r1:=by
 rw[sameOS,h.eself,h.epeer,h.epol,k.eself,k.epeer,k.epol,show decide (pe=pe)=true by simp,show decide (s=s)=true by simp]
 simp only[Bool.true_and]
 congr 1
 cases he:eqE m m1 with
 | true=>
  have hp:=(eqE_perm h.nod k.nod).1 he
  symm
  exact decide_eq_true (rise_eq h.ris k.ris ((h.perm.trans hp).trans k.perm.symm))
 | false=>
  symm
  refine decide_eq_false fun e=>?_
  have:eqE m m1=true:=(eqE_perm h.nod k.nod).2 ((h.perm.symm.trans (by rw[e])).trans k.perm)
  rw[he]at this;cases this
theorem sameOS_comm (a b:OutS):sameOS a b=sameOS b a:=by
 unfold sameOS
 rw[sameP_comm26,decide_eq_decide.2 (eq_comm (a:=a.self)),decide_eq_decide.2 (eq_comm (a:=a.peer)),decide_eq_decide.2 (eq_comm (a:=a.told))]
theorem sameOS_refl (a:OutS):sameOS a a=true:=by simp[sameOS,sameP_eq.2 rfl]
theorem newO_rules {s:SelfL} {pe:Peer} {pol:Policy} (h:newO s pe pol=true):pol.rules.length≤1000:=by
 have:=pol_small (newO_out h).2.2
 omega
theorem copies26_ok (pe:Peer) (pol:Policy) (sc:List ActO) (x y:ActO):PCon prog 7 [encPe pe,encPo false pol,encActsO sc,.agg (cellsActO x),.agg (cellsActO y)] (.bool true):=by
 have hrn:=refNew26_ok sf1 pe pol
 have n0:=num26_ok 0
 have n2:=num26_ok 2
 have hfx':=few26_ok x.rts 40
 have hfy':=few26_ok y.rts 40
 refine callV_of (fn:=Go.Proofs.Tryz.f7) (body:=_) tab_ok mixed rfl rfl (by decide) (by simp[Go.Proofs.Tryz.f7]) ?_
 conv=>whnf
 intro _
 conv=>whnf
 split
 ·conv=>whnf
  refine callV_pure works26_ok trivial ?_
  conv=>whnf
  exact(Ends.pA)
 conv=>whnf
 intro _
 conv=>whnf
 split
 ·conv=>whnf
  refine callV_pure works26_ok trivial ?_
  conv=>whnf
  exact(Ends.pA)
 conv=>whnf
 refine callV_pure hfx' ⟨.fr rfl,.fr rfl,trivial⟩ ?_
 cases hfx:few26S x.rts 40 with
 | false=>
  conv=>whnf
  refine callV_pure works26_ok trivial ?_
  conv=>whnf
  exact(Ends.pA)
 | true=>
 conv=>whnf
 refine callV_pure hfy' ⟨.fr rfl,.fr rfl,trivial⟩ ?_
 cases hfy:few26S y.rts 40 with
 | false=>
  conv=>whnf
  refine callV_pure works26_ok trivial ?_
  conv=>whnf
  exact(Ends.pA)
 | true=>
 conv=>whnf
 intro _
 conv=>whnf
 split
 ·conv=>whnf
  refine callV_pure works26_ok trivial ?_
  conv=>whnf
  exact(Ends.pA)
 conv=>whnf
 intro _
 conv=>whnf
 split
 ·conv=>whnf
  refine callV_pure works26_ok trivial ?_
  conv=>whnf
  exact(Ends.pA)
 conv=>whnf
 cases hn:newO sf1 pe pol with
 | false=>
  rw[newOE,hn,if_neg (by decide)]at hrn
  refine callV_pure (newO_bad sf1 pe pol hn) ⟨.fr rfl,.fr rfl,.fr rfl,trivial⟩ ?_
  conv=>whnf
  refine callV_pure hrn ⟨.fr rfl,.fr rfl,.fr rfl,trivial⟩ ?_
  conv=>whnf
  refine callV_pure n2 ⟨.fr rfl,trivial⟩ ?_
  conv=>whnf
  refine callV_pure works26_ok trivial ?_
  conv=>whnf
  exact(Ends.pA)
 | true=>
 have hnew:=newO_ok sf1 pe pol hn
 rw[newOE,newOS,hn,if_pos rfl,if_pos rfl]at hrn
 refine callV_frame (nx:=5) (n0:=0) id hnew ⟨.fr rfl,.fr rfl,.fr rfl,trivial⟩ (LeH.nil (by omega) (fun _ h=>by omega) (by simp)) (fun b hb=>by omega) (fun b hb=>by omega) ?_
 rintro v h' nx' ⟨rfl,rfl,rfl⟩ _
 refine⟨.tup [.ptr 5 0,.int .i64 0],[(5,varOut sf1 pe pol []),(0,some (.var true 26 (cellsPe pe))),(1,some (.var true 29 (cellsPo false pol))),(2,some (.var true 57 (cellsActO x))),(3,some (.var true 57 (cellsActO y))),(4,some (.var true 24 (cellsSf sf1)))],.tup ⟨.ptr rfl,.free .int,trivial⟩,(by repeat' (first|exact True.intro|exact Or.inr ⟨by decide,rfl⟩|exact Or.inl ⟨0,rfl,by omega,_,rfl,.var (cellsOut_free _ _ _ _)⟩|refine⟨?_,?_⟩)),?_⟩
 conv=>whnf
 refine callV_pure hrn ⟨.fr rfl,.fr rfl,.fr rfl,trivial⟩ ?_
 conv=>whnf
 refine vcg_loop tab_ok mixed (fun q:{q:Nat × Policy × List (Prefix × Attrs) × OutS // q.1≤sc.length∧RelO sf1 pe q.2.1 q.2.2.1 q.2.2.2∧newO sf1 pe q.2.1=true}=>⟨[(2,encActsO sc),(8,.ptr 2 0),(9,.ptr 3 0),(12,.ptr 5 0),(14,.ptr 6 0),(16,cI q.1.1)],[(5,varOut sf1 pe q.1.2.1 q.1.2.2.1),(6,some (.var true 47 (cellsOS q.1.2.2.2))),(2,some (.var true 57 (cellsActO x))),(3,some (.var true 57 (cellsActO y)))],7⟩) (fun q=>sc.length - q.1.1) ⟨(0,pol,[],⟨sf1,pe,pol,[]⟩),by simp,RelO.new' hn,hn⟩ (Wk.i (by repeat' (first|exact LHa|exact LeL.freeV (cellsOut_free sf1 pe _ _)|exact LeL.freeV (cellsOS_free _)|exact LeL.freeV (cellsActO_free _)|exact .int_of (by simp)|exact .A|exact LeL.fr rfl|exact LHb|refine Or.inl ⟨by simp,_,rfl,?_⟩|exact Or.inr ⟨by simp,_,_,_,_,rfl⟩|refine⟨rfl,rfl,rfl,rfl,rfl,rfl,?_⟩|refine⟨?_,?_⟩)) (by omega)) (fun q=>?_)
 obtain⟨⟨i,pol1,m1,o1⟩,hi,hr,hn1⟩:=q
 have hi:i≤sc.length:=hi
 have hr:RelO sf1 pe pol1 m1 o1:=hr
 have hn1:newO sf1 pe pol1=true:=hn1
 conv=>whnf
 intro hgl
 have hgl:sc.length≤maxLen:=by simpa[gd]using hgl
 conv=>whnf
 split
 ·rename_i hc
  have hc:i < sc.length:=by simpa using hc
  have hfew:=few26_ok sc[i].rts 40
  conv=>whnf
  refine ixK (idxActO hc) ?_
  conv=>whnf
  refine callV_pure hfew ⟨.fr rfl,.fr rfl,trivial⟩ ?_
  cases hf:few26S sc[i].rts 40 with
  | false=>
   conv=>whnf
   refine callV_pure works26_ok trivial ?_
   conv=>whnf
   exact(Ends.pA)
  | true=>
  conv=>whnf
  refine ixK (idxActO hc) ?_
  conv=>whnf
  intro _
  conv=>whnf
  split
  ·conv=>whnf
   refine callV_pure works26_ok trivial ?_
   conv=>whnf
   exact(Ends.pA)
  obtain⟨pol2,m2,o2,⟨hr2,hn2,hact⟩,_⟩:=acts_to hr hn1 sc[i] (few26S_most hf (by omega))
  conv=>whnf
  refine ixK (idxActO hc) ?_
  conv=>whnf
  refine⟨.tup [encOS o2,.bool true],[(5,varOut sf1 pe pol1 m1)],[(5,varOut sf1 pe pol2 m2)],fun h nx hrd=>?_,by intro b ob hb;simp at hb;obtain⟨rfl,rfl⟩:=hb;rfl,?_⟩
  ·have h2:hget h 5=some (.var true 97 (cellsOut sf1 pe pol1 m1)):=hrd _ _ (by simp)
   exact updV_var (Z:=[]) hact (tupO_free _ _) h2 (by simp) (by simp) (cellsOut_free _ _ _ _) (cellsOut_free _ _ _ _) ⟨.ptr rfl (by omega),.fr rfl,.free (.agg (cellsActO_free _)),trivial⟩
  conv=>whnf
  refine⟨by kernel_rfl,?_⟩
  conv=>whnf
  exact⟨⟨(i + 1,pol2,m2,o2),by simp only;omega,hr2,hn2⟩,(Wk.i (by repeat' (first|exact LHa|exact LeL.freeV (cellsOut_free sf1 pe _ _)|exact LeL.freeV (cellsOS_free _)|exact LeL.freeV (cellsActO_free _)|exact .int_of (wrap64_succ hc hgl)|exact .A|exact LeL.fr rfl|exact LHb|refine Or.inl ⟨by simp,_,rfl,?_⟩|exact Or.inr ⟨by simp,_,_,_,_,rfl⟩|refine⟨rfl,rfl,rfl,rfl,rfl,rfl,?_⟩|refine⟨?_,?_⟩)) (by omega)),by simp only;omega⟩
 rename_i hc
 obtain⟨pol2,m2,o2,⟨hr2,hn2,hactx⟩,_⟩:=acts_to hr hn1 x (few26S_most hfx (by omega))
 obtain⟨pol3,m3,o3,⟨hr3,hn3,hacty⟩,_⟩:=acts_to hr hn1 y (few26S_most hfy (by omega))
 have s1:=sameO_ok sf1 sf1 pe pe pol1 pol1 m1 m1
 rw[same_relO hr hr,sameOS_refl]at s1
 have s2:=sameO_ok sf1 sf1 pe pe pol2 pol1 m2 m1
 rw[same_relO hr2 hr,sameOS_comm]at s2
 have s3:=sameO_ok sf1 sf1 pe pe pol1 pol2 m1 m2
 rw[same_relO hr hr2]at s3
 have s4:=rsame26_ok o1 o2
 generalize sameOS o1 o2=sm at s2 s3 s4
 conv=>whnf
 refine callV_frame (nx:=7) (n0:=1) (renOf [(0,5)]) (copyO_ok sf1 pe pol1 m1 (newO_rules hn1)) (by repeat' (first|exact True.intro|exact .ptr rfl (by omega)|exact LeL.freeV (cellsOut_free _ _ _ _)|exact .A|exact LeL.fr rfl|refine⟨?_,?_⟩)) (LeH.of (by repeat' (first|exact LHa|exact .ptr rfl (by omega)|exact LeL.freeV (cellsOut_free _ _ _ _)|exact .A|exact LeL.fr rfl|exact LHb|refine Or.inl ⟨by simp,_,rfl,?_⟩|exact Or.inr ⟨by simp,_,_,_,_,rfl⟩|refine⟨rfl,rfl,rfl,rfl,rfl,rfl,?_⟩|refine⟨?_,?_⟩)) (show ∀b∈([0]:List Nat),∀b'∈([0]:List Nat),(renOf [(0,5)]) b=(renOf [(0,5)]) b'→b=b' by decide) (fun _ h=>by omega) (by omega) (by simp)) (fun b hb=>by match b,hb with|0,_=>exact ne_none_of rfl) (by decide) ?_
 rintro v h' nx' ⟨rfl,rfl,rfl⟩ _
 refine⟨.ptr 7 0,[(5,varOut sf1 pe pol1 m1),(7,varOut sf1 pe pol1 m1),(6,some (.var true 47 (cellsOS o1))),(2,some (.var true 57 (cellsActO x))),(3,some (.var true 57 (cellsActO y)))],Ren.ptr rfl,(by repeat' (first|exact True.intro|exact Or.inr ⟨by decide,rfl⟩|exact Or.inl ⟨0,rfl,by omega,_,rfl,.var (cellsOut_free _ _ _ _)⟩|exact Or.inl ⟨1,rfl,by omega,_,rfl,.var (cellsOut_free _ _ _ _)⟩|refine⟨?_,?_⟩)),?_⟩
 conv=>whnf
 refine callV_frame (nx:=8) (n0:=2) (renOf [(0,5),(1,7)]) (s1) (by repeat' (first|exact True.intro|exact .ptr rfl (by omega)|exact LeL.freeV (cellsOut_free _ _ _ _)|exact .A|exact LeL.fr rfl|refine⟨?_,?_⟩)) (LeH.of (by repeat' (first|exact LHa|exact .ptr rfl (by omega)|exact LeL.freeV (cellsOut_free _ _ _ _)|exact .A|exact LeL.fr rfl|exact LHb|refine Or.inl ⟨by simp,_,rfl,?_⟩|exact Or.inr ⟨by simp,_,_,_,_,rfl⟩|refine⟨rfl,rfl,rfl,rfl,rfl,rfl,?_⟩|refine⟨?_,?_⟩)) (show ∀b∈([0,1]:List Nat),∀b'∈([0,1]:List Nat),(renOf [(0,5),(1,7)]) b=(renOf [(0,5),(1,7)]) b'→b=b' by decide) (fun _ h=>by omega) (by omega) (by simp)) (fun b hb=>by match b,hb with|0,_=>exact ne_none_of rfl|1,_=>exact ne_none_of rfl) (by decide) ?_
 rintro v h' nx' ⟨rfl,rfl,rfl⟩ _
 refine⟨.bool true,[(5,varOut sf1 pe pol1 m1),(7,varOut sf1 pe pol1 m1),(6,some (.var true 47 (cellsOS o1))),(2,some (.var true 57 (cellsActO x))),(3,some (.var true 57 (cellsActO y)))],.free .bool,(by repeat' (first|exact True.intro|exact Or.inr ⟨by decide,rfl⟩|exact Or.inl ⟨0,rfl,by omega,_,rfl,.var (cellsOut_free _ _ _ _)⟩|exact Or.inl ⟨1,rfl,by omega,_,rfl,.var (cellsOut_free _ _ _ _)⟩|refine⟨?_,?_⟩)),?_⟩
 conv=>whnf
 refine callV_out (b:=7) (is26_ok hr) rfl (cellsOut_free _ _ _ _) (cellsOut_free _ _ _ _) ⟨.ptr rfl (by omega),.fr rfl,trivial⟩ ?_
 rintro v rfl
 refine⟨.bool,?_⟩
 show _
 conv=>whnf
 refine callV_frame (nx:=8) (n0:=1) (renOf [(0,5)]) (hactx) (by repeat' (first|exact True.intro|exact .ptr rfl (by omega)|exact .fr rfl|exact .free (.agg (cellsActO_free _))|exact LeL.freeV (cellsOut_free _ _ _ _)|exact .A|exact LeL.fr rfl|refine⟨?_,?_⟩)) (LeH.of (by repeat' (first|exact LHa|exact .ptr rfl (by omega)|exact .fr rfl|exact .free (.agg (cellsActO_free _))|exact LeL.freeV (cellsOut_free _ _ _ _)|exact .A|exact LeL.fr rfl|exact LHb|refine Or.inl ⟨by simp,_,rfl,?_⟩|exact Or.inr ⟨by simp,_,_,_,_,rfl⟩|refine⟨rfl,rfl,rfl,rfl,rfl,rfl,?_⟩|refine⟨?_,?_⟩)) (show ∀b∈([0]:List Nat),∀b'∈([0]:List Nat),(renOf [(0,5)]) b=(renOf [(0,5)]) b'→b=b' by decide) (fun _ h=>by omega) (by omega) (by simp)) (fun b hb=>by match b,hb with|0,_=>exact ne_none_of rfl) (by decide) ?_
 rintro v h' nx' ⟨rfl,rfl,rfl⟩ _
 refine⟨.tup [encOS o2,.bool true],[(5,varOut sf1 pe pol2 m2),(7,varOut sf1 pe pol1 m1),(6,some (.var true 47 (cellsOS o1))),(2,some (.var true 57 (cellsActO x))),(3,some (.var true 57 (cellsActO y)))],.free (tupO_free _ _),(by repeat' (first|exact True.intro|exact Or.inr ⟨by decide,rfl⟩|exact Or.inl ⟨0,rfl,by omega,_,rfl,.var (cellsOut_free _ _ _ _)⟩|refine⟨?_,?_⟩)),?_⟩
 conv=>whnf
 refine callV_pure s4 ⟨.fr rfl,.fr rfl,trivial⟩ ?_
 conv=>whnf
 refine callV_frame (nx:=9) (n0:=2) (renOf [(0,5),(1,7)]) (s2) (by repeat' (first|exact True.intro|exact .ptr rfl (by omega)|exact LeL.freeV (cellsOut_free _ _ _ _)|exact .A|exact LeL.fr rfl|refine⟨?_,?_⟩)) (LeH.of (by repeat' (first|exact LHa|exact .ptr rfl (by omega)|exact LeL.freeV (cellsOut_free _ _ _ _)|exact .A|exact LeL.fr rfl|exact LHb|refine Or.inl ⟨by simp,_,rfl,?_⟩|exact Or.inr ⟨by simp,_,_,_,_,rfl⟩|refine⟨rfl,rfl,rfl,rfl,rfl,rfl,?_⟩|refine⟨?_,?_⟩)) (show ∀b∈([0,1]:List Nat),∀b'∈([0,1]:List Nat),(renOf [(0,5),(1,7)]) b=(renOf [(0,5),(1,7)]) b'→b=b' by decide) (fun _ h=>by omega) (by omega) (by simp)) (fun b hb=>by match b,hb with|0,_=>exact ne_none_of rfl|1,_=>exact ne_none_of rfl) (by decide) ?_
 rintro v h' nx' ⟨rfl,rfl,rfl⟩ _
 refine⟨.bool sm,[(5,varOut sf1 pe pol2 m2),(7,varOut sf1 pe pol1 m1),(6,some (.var true 47 (cellsOS o1))),(2,some (.var true 57 (cellsActO x))),(3,some (.var true 57 (cellsActO y))),(8,some (.var true 47 (cellsOS o2)))],.free .bool,(by repeat' (first|exact True.intro|exact Or.inr ⟨by decide,rfl⟩|exact Or.inl ⟨0,rfl,by omega,_,rfl,.var (cellsOut_free _ _ _ _)⟩|exact Or.inl ⟨1,rfl,by omega,_,rfl,.var (cellsOut_free _ _ _ _)⟩|refine⟨?_,?_⟩)),?_⟩
 conv=>whnf
 rw[bne_self_eq_false]
 conv=>whnf
 refine callV_frame (nx:=9) (n0:=2) (renOf [(0,7),(1,5)]) (s3) (by repeat' (first|exact True.intro|exact .ptr rfl (by omega)|exact LeL.freeV (cellsOut_free _ _ _ _)|exact .A|exact LeL.fr rfl|refine⟨?_,?_⟩)) (LeH.of (by repeat' (first|exact LHa|exact .ptr rfl (by omega)|exact LeL.freeV (cellsOut_free _ _ _ _)|exact .A|exact LeL.fr rfl|exact LHb|refine Or.inl ⟨by simp,_,rfl,?_⟩|exact Or.inr ⟨by simp,_,_,_,_,rfl⟩|refine⟨rfl,rfl,rfl,rfl,rfl,rfl,?_⟩|refine⟨?_,?_⟩)) (show ∀b∈([0,1]:List Nat),∀b'∈([0,1]:List Nat),(renOf [(0,7),(1,5)]) b=(renOf [(0,7),(1,5)]) b'→b=b' by decide) (fun _ h=>by omega) (by omega) (by simp)) (fun b hb=>by match b,hb with|0,_=>exact ne_none_of rfl|1,_=>exact ne_none_of rfl) (by decide) ?_
 rintro v h' nx' ⟨rfl,rfl,rfl⟩ _
 refine⟨.bool sm,[(5,varOut sf1 pe pol2 m2),(7,varOut sf1 pe pol1 m1),(6,some (.var true 47 (cellsOS o1))),(2,some (.var true 57 (cellsActO x))),(3,some (.var true 57 (cellsActO y))),(8,some (.var true 47 (cellsOS o2)))],.free .bool,(by repeat' (first|exact True.intro|exact Or.inr ⟨by decide,rfl⟩|exact Or.inl ⟨1,rfl,by omega,_,rfl,.var (cellsOut_free _ _ _ _)⟩|exact Or.inl ⟨0,rfl,by omega,_,rfl,.var (cellsOut_free _ _ _ _)⟩|refine⟨?_,?_⟩)),?_⟩
 conv=>whnf
 rw[bne_self_eq_false]
 conv=>whnf
 refine callV_frame (nx:=9) (n0:=1) (renOf [(0,7)]) (hacty) (by repeat' (first|exact True.intro|exact .ptr rfl (by omega)|exact .fr rfl|exact .free (.agg (cellsActO_free _))|exact LeL.freeV (cellsOut_free _ _ _ _)|exact .A|exact LeL.fr rfl|refine⟨?_,?_⟩)) (LeH.of (by repeat' (first|exact LHa|exact .ptr rfl (by omega)|exact .fr rfl|exact .free (.agg (cellsActO_free _))|exact LeL.freeV (cellsOut_free _ _ _ _)|exact .A|exact LeL.fr rfl|exact LHb|refine Or.inl ⟨by simp,_,rfl,?_⟩|exact Or.inr ⟨by simp,_,_,_,_,rfl⟩|refine⟨rfl,rfl,rfl,rfl,rfl,rfl,?_⟩|refine⟨?_,?_⟩)) (show ∀b∈([0]:List Nat),∀b'∈([0]:List Nat),(renOf [(0,7)]) b=(renOf [(0,7)]) b'→b=b' by decide) (fun _ h=>by omega) (by omega) (by simp)) (fun b hb=>by match b,hb with|0,_=>exact ne_none_of rfl) (by decide) ?_
 rintro v h' nx' ⟨rfl,rfl,rfl⟩ _
 refine⟨.tup [encOS o3,.bool true],[(5,varOut sf1 pe pol2 m2),(7,varOut sf1 pe pol3 m3),(8,some (.var true 47 (cellsOS o2)))],.free (tupO_free _ _),(by repeat' (first|exact True.intro|exact Or.inr ⟨by decide,rfl⟩|exact Or.inl ⟨0,rfl,by omega,_,rfl,.var (cellsOut_free _ _ _ _)⟩|refine⟨?_,?_⟩)),?_⟩
 conv=>whnf
 refine callV_out (b:=5) (is26_ok hr2) rfl (cellsOut_free _ _ _ _) (cellsOut_free _ _ _ _) ⟨.ptr rfl (by omega),.fr rfl,trivial⟩ ?_
 rintro v rfl
 refine⟨.bool,?_⟩
 show _
 conv=>whnf
 refine callV_out (b:=7) (is26_ok hr3) rfl (cellsOut_free _ _ _ _) (cellsOut_free _ _ _ _) ⟨.ptr rfl (by omega),.fr rfl,trivial⟩ ?_
 rintro v rfl
 refine⟨.bool,?_⟩
 show _
 conv=>whnf
 refine callV_pure works26_ok trivial ?_
 conv=>whnf
 exact(Ends.pA)
end
section
open Go.Proofs.Tryz (prog)
attribute [local irreducible] CallV RoundV aggK
def manyA (each:Int) (i:Nat):Attrs:=if Int.tmod i each=0 then { a5 with hasMed:=true,med:=UInt32.ofNat (i % 3) } else a5
def manyR (each:Int) (i:Nat):Route:=⟨pfN i,manyA each i,noPe⟩
def manyL (each:Int) (n:Nat):List Route:=(List.range n).map (manyR each)
theorem manyL_len (each:Int) (n:Nat):(manyL each n).length=n:=by simp[manyL]
theorem manyL_succ (each:Int) (n:Nat):manyL each (n + 1)=manyL each n ++ [manyR each n]:=by simp[manyL,List.range_succ]
theorem manyR_few (each:Int) (i:Nat):few26R (manyR each i)=true:=by
 unfold manyR manyA
 split<;>rfl
theorem manyL_few {l:List Route} {each:Int} {n:Nat} (h:∀r∈l,r∈manyL each n) (hl:l.length≤400):few26S l 400=true:=by
 simp only[few26S,Bool.and_eq_true,decide_eq_true_eq,List.all_eq_true]
 refine⟨fun r hr=>?_,by omega⟩
 obtain⟨i,_,rfl⟩:=List.mem_map.1 (h r hr)
 exact manyR_few each i
theorem acts_tell {s:SelfL} {pe:Peer} {pol:Policy} {m:List (Prefix × Attrs)} {o:OutS} (hr:RelO s pe pol m o) (hnew:newO s pe pol=true) (x:ActO) (h0:x.what=0) (hx:few26S x.rts 400=true):∃m' o',actsO s pe pol m o x pol m' o':=by
 by_cases hok:okT x.rts=true
 ·have hl:=(few26S_out hx).2
  exact⟨_,_,hr.tell (by omega) hok,hnew,act26_good hr x h0 hx hok⟩
 ·exact⟨m,o,hr,hnew,act26_bad hr x h0 hx (by simpa using hok)⟩
theorem newO_sf1:newO sf1 pe2 polE=true:=by decide
theorem many26_ok (many each but:Int) (hbu:but≤9223372036854775807):PCon prog 5 [.int .i64 many,.int .i64 each,.int .i64 but] (.bool true):=by
 have n0:=num26_ok 0
 have hrn:=refNew26_ok sf1 pe2 polE
 have hnew:=newO_ok sf1 pe2 polE newO_sf1
 rw[newOE,newOS,newO_sf1,if_pos rfl,if_pos rfl]at hrn
 have hF:FW Fence.wide:=.inl rfl
 refine callV_of_vc (fn:=Go.Proofs.Tryz.f5) (body:=_) tab_ok rfl rfl (by simp[Go.Proofs.Tryz.f5]) (Nat.le_of_ble_eq_true rfl) ?_
 refine vc_seq (vcg_ok (rd:=false) tab_ok mixed hF (fun _=>rfl) ?_)
 conv=>whnf
 refine vc_seq (vcg_ok (rd:=false) tab_ok mixed hF (fun _=>rfl) ?_)
 conv=>whnf
 split
 ·conv=>whnf
  refine callV_pure works26_ok trivial ?_
  conv=>whnf
  exact(Ends.pA)
 rename_i h1
 conv=>whnf
 split
 ·conv=>whnf
  refine callV_pure works26_ok trivial ?_
  conv=>whnf
  exact(Ends.pA)
 rename_i h2
 conv=>whnf
 split
 ·conv=>whnf
  refine callV_pure works26_ok trivial ?_
  conv=>whnf
  exact(Ends.pA)
 rename_i h3
 conv=>whnf
 split
 ·conv=>whnf
  refine callV_pure works26_ok trivial ?_
  conv=>whnf
  exact(Ends.pA)
 rename_i h4
 conv=>whnf
 have hb:0≤many∧many≤130∧1≤each∧0≤but:=by
  simp at h1 h2 h3 h4
  omega
 clear h1 h2 h3 h4
 obtain⟨b1,b2,b3,b4⟩:=hb
 refine vc_seq (vcg_ok (rd:=false) tab_ok mixed hF (fun _=>rfl) ?_)
 conv=>whnf
 refine vc_seq (vcg_ok (rd:=false) tab_ok mixed hF (fun _=>rfl) ?_)
 conv=>whnf
 refine callV_frame (nx:=2) (n0:=0) id hnew ⟨.fr rfl,.fr rfl,.aggL ⟨.snil_sl,.fr rfl,trivial⟩,trivial⟩ (LeH.nil (by omega) (fun _ h=>by omega) (by simp)) (fun b hb=>by omega) (fun b hb=>by omega) ?_
 rintro v h' nx' ⟨rfl,rfl,rfl⟩ _
 refine⟨.tup [.ptr 2 0,.int .i64 0],[(2,varOut sf1 pe2 polE []),(0,some (.var true 24 (cellsSf sf1))),(1,some (.var true 26 (cellsPe pe2)))],.tup ⟨.ptr rfl,.free .int,trivial⟩,(by repeat' (first|exact True.intro|exact Or.inr ⟨by decide,rfl⟩|exact Or.inl ⟨0,rfl,by omega,_,rfl,.var (cellsOut_free _ _ _ _)⟩|refine⟨?_,?_⟩)),?_⟩
 conv=>whnf
 refine vc_seq (vcg_ok (rd:=false) tab_ok mixed hF (fun _=>rfl) ?_)
 conv=>whnf
 refine callV_pure hrn ⟨.fr rfl,.fr rfl,.aggL ⟨.snil_sl,.fr rfl,trivial⟩,trivial⟩ ?_
 conv=>whnf
 refine vc_seq (vcg_ok (rd:=false) tab_ok mixed hF (fun _=>rfl) ?_)
 conv=>whnf
 refine vc_join tab_ok mixed hF (rd:=false) (fun _=>rfl) (fun _:Unit=>⟨[(2,.int .i64 but),(9,.ptr 2 0),(10,.int .i64 0),(11,.ptr 3 0),(13,encRts (manyL each many.toNat))],[(2,varOut sf1 pe2 polE []),(3,some (.var true 47 (cellsOS ⟨sf1,pe2,polE,[]⟩)))],4⟩) ?_ fun _=>?_
 ·conv=>whnf
  refine vcg_loop tab_ok mixed (fun i:{i:Nat // (i:Int)≤many}=>⟨[(0,.int .i64 many),(1,.int .i64 each),(2,.int .i64 but),(9,.ptr 2 0),(10,.int .i64 0),(11,.ptr 3 0),(13,.osl 4 14 0 i.1),(14,cI i.1)],[(2,varOut sf1 pe2 polE []),(3,some (.var true 47 (cellsOS ⟨sf1,pe2,polE,[]⟩))),(4,some (.arr true false 37 14 (rowsRt (manyL each i.1))))],5⟩) (fun i=>many.toNat - i.1) ⟨0,by simpa using b1⟩ (Wk.i (by repeat' (first|exact LHa|exact .int_of (by simp)|exact .osl0|exact LeL.freeV (cellsOut_free sf1 pe2 _ _)|exact LeL.freeV (cellsOS_free _)|exact .A|exact LeL.fr rfl|exact LHb|refine Or.inl ⟨by simp,_,rfl,?_⟩|exact Or.inr ⟨by simp,_,_,_,_,rfl⟩|refine⟨rfl,rfl,rfl,rfl,rfl,rfl,?_⟩|refine⟨?_,?_⟩)) (by omega)) (fun i=>?_)
  obtain⟨i,hi⟩:=i
  conv=>whnf
  split
  ·rename_i hc
   have hc:(i:Int) < many:=by simpa using hc
   have hw3:IntKind.u32.wrap ((i:Int).tmod 3)=((UInt32.ofNat (i % 3)).toNat:Int):=by rw[show(i:Int).tmod 3=((i % 3:Nat):Int)from(Int.ofNat_tmod i 3).symm];exact wrap32n _
   have hwi:IntKind.i64.wrap ((i:Int)+ 1)=((i + 1:Nat):Int):=wrap64_succ (n:=130) (by omega) (by unfold maxLen;omega)
   conv=>whnf
   refine⟨by omega,?_⟩
   conv=>whnf
   split
   ·rename_i hh
    have hA:manyA each i={ a5 with hasMed:=true,med:=UInt32.ofNat (i % 3) }:=if_pos (by simpa using hh)
    conv=>whnf
    refine⟨by decide,?_⟩
    conv=>whnf
    refine⟨rfl,by simp,?_⟩
    conv=>whnf
    refine⟨⟨rfl,rfl,rfl,rfl,by decide⟩,by simp[manyL_len],⟨by simp[tab,tabOf,nth,manyL_len];omega,by simp[manyL_len];omega⟩,?_⟩
    conv=>whnf
    exact⟨⟨i + 1,by omega⟩,(Wk.all (renOf [(4,7)]) [] (by repeat' (first|exact LHa|exact .int_of hwi|exact .osl_of rfl (by omega) (by simp)|exact Or.inl ⟨by decide,_,rfl,id,id,rfl,rfl,LeR.out (LeR.of_eq' (LeR.app (LeR.of_eq (List.take_of_length_le (by simp[manyL_len])) (.free (rowsRt_free (manyL each i)))) (ys':=rowsRt [⟨pfN i,{ a5 with hasMed:=true,med:=UInt32.ofNat (i % 3) },noPe⟩]) ⟨⟨.int_of (wrap32n i),.fr rfl,.fr rfl,.snil_sl,.fr rfl,.fr rfl,.int_of hw3,.fr rfl,.fr rfl,.snil_sl,.fr rfl,.fr rfl,.fr rfl,.fr rfl,trivial⟩,trivial⟩) (by rw[manyL_succ,manyR,hA];simp))⟩|exact LeL.freeV (cellsOut_free sf1 pe2 _ _)|exact LeL.freeV (cellsOS_free _)|exact .A|exact LeL.fr rfl|exact LHb|refine Or.inl ⟨by simp,_,rfl,?_⟩|exact Or.inr ⟨by simp,_,_,_,_,rfl⟩|refine⟨rfl,rfl,rfl,rfl,rfl,rfl,?_⟩|refine⟨?_,?_⟩)) (show ∀b∈([2,3,4]:List Nat),∀b'∈([2,3,4]:List Nat),(renOf [(4,7)]) b=(renOf [(4,7)]) b'→b=b' by decide) (fun _ h=>by omega) (by omega) (by simp)),by simp only;omega⟩
   ·rename_i hh
    have hA:manyA each i=a5:=if_neg (by simpa using hh)
    conv=>whnf
    refine⟨rfl,by simp,?_⟩
    conv=>whnf
    refine⟨⟨rfl,rfl,rfl,rfl,by decide⟩,by simp[manyL_len],⟨by simp[tab,tabOf,nth,manyL_len];omega,by simp[manyL_len];omega⟩,?_⟩
    conv=>whnf
    exact⟨⟨i + 1,by omega⟩,(Wk.all (renOf [(4,7)]) [] (by repeat' (first|exact LHa|exact .int_of hwi|exact .osl_of rfl (by omega) (by simp)|exact Or.inl ⟨by decide,_,rfl,id,id,rfl,rfl,LeR.out (LeR.of_eq' (LeR.app (LeR.of_eq (List.take_of_length_le (by simp[manyL_len])) (.free (rowsRt_free (manyL each i)))) (ys':=rowsRt [⟨pfN i,a5,noPe⟩]) ⟨⟨.int_of (wrap32n i),.fr rfl,.fr rfl,.snil_sl,.fr rfl,.fr rfl,.fr rfl,.fr rfl,.fr rfl,.snil_sl,.fr rfl,.fr rfl,.fr rfl,.fr rfl,trivial⟩,trivial⟩) (by rw[manyL_succ,manyR,hA];simp))⟩|exact LeL.freeV (cellsOut_free sf1 pe2 _ _)|exact LeL.freeV (cellsOS_free _)|exact .A|exact LeL.fr rfl|exact LHb|refine Or.inl ⟨by simp,_,rfl,?_⟩|exact Or.inr ⟨by simp,_,_,_,_,rfl⟩|refine⟨rfl,rfl,rfl,rfl,rfl,rfl,?_⟩|refine⟨?_,?_⟩)) (show ∀b∈([2,3,4]:List Nat),∀b'∈([2,3,4]:List Nat),(renOf [(4,7)]) b=(renOf [(4,7)]) b'→b=b' by decide) (fun _ h=>by omega) (by omega) (by simp)),by simp only;omega⟩
  rename_i hc
  have hc:i=many.toNat:=by simp at hc;omega
  subst hc
  conv=>whnf
  exact⟨(),(Wk.all id [4] (by repeat' (first|exact LHa|exact .fresh_off (.freezeE (by simp) rfl (by simp[manyL_len]) (by simp[manyL_len,List.take_of_length_le]) (rowsRt_free _))|exact LeL.freeV (cellsOut_free sf1 pe2 _ _)|exact LeL.freeV (cellsOS_free _)|exact .A|exact LeL.fr rfl|exact LHb|refine Or.inl ⟨by simp,_,rfl,?_⟩|exact Or.inr ⟨by simp,_,_,_,_,rfl⟩|refine⟨rfl,rfl,rfl,rfl,rfl,rfl,?_⟩|refine⟨?_,?_⟩)) (fun _ _ _ _ h=>h) (fun _ _=>rfl) (by omega) (by intro z hz;simp only[List.mem_cons,List.not_mem_nil,or_false]at hz;rcases hz with rfl<;>exact ne_none_of rfl))⟩
 have hr0:RelO sf1 pe2 polE [] ⟨sf1,pe2,polE,[]⟩:=RelO.new' newO_sf1
 generalize hn:many.toNat=n
 have hnl:n≤130:=by omega
 obtain⟨m1,o1,hr1,-,hact1⟩:=acts_tell hr0 newO_sf1 ⟨0,manyL each n,⟨[],false⟩⟩ rfl (manyL_few (each:=each) (n:=n) (fun r h=>h) (by rw[manyL_len];omega))
 refine vc_seq (vcg_ok (rd:=false) tab_ok mixed hF (fun _=>rfl) ?_)
 conv=>whnf
 refine callV_frame (nx:=4) (n0:=1) (renOf [(0,2)]) (hact1) (by repeat' (first|exact True.intro|exact .ptr rfl (by omega)|exact .fr rfl|exact .aggL ⟨.fr rfl,.fr rfl,.snil_sl,.fr rfl,trivial⟩|exact LeL.freeV (cellsOut_free _ _ _ _)|exact .A|exact LeL.fr rfl|refine⟨?_,?_⟩)) (LeH.of (by repeat' (first|exact LHa|exact .ptr rfl (by omega)|exact .fr rfl|exact .aggL ⟨.fr rfl,.fr rfl,.snil_sl,.fr rfl,trivial⟩|exact LeL.freeV (cellsOut_free _ _ _ _)|exact .A|exact LeL.fr rfl|exact LHb|refine Or.inl ⟨by simp,_,rfl,?_⟩|exact Or.inr ⟨by simp,_,_,_,_,rfl⟩|refine⟨rfl,rfl,rfl,rfl,rfl,rfl,?_⟩|refine⟨?_,?_⟩)) (show ∀b∈([0]:List Nat),∀b'∈([0]:List Nat),(renOf [(0,2)]) b=(renOf [(0,2)]) b'→b=b' by decide) (fun _ h=>by omega) (by omega) (by simp)) (fun b hb=>by match b,hb with|0,_=>exact ne_none_of rfl) (by decide) ?_
 rintro v h' nx' ⟨rfl,rfl,rfl⟩ _
 refine⟨.tup [encOS o1,.bool true],[(2,varOut sf1 pe2 polE m1)],.free (tupO_free _ _),(by repeat' (first|exact True.intro|exact Or.inr ⟨by decide,rfl⟩|exact Or.inl ⟨0,rfl,by omega,_,rfl,.var (cellsOut_free _ _ _ _)⟩|refine⟨?_,?_⟩)),?_⟩
 conv=>whnf
 have hk:∃k:Nat,k≤n∧(if 0 < IntKind.i64.wrap (((rowsRt (manyL each n)).length:Int) - but)then IntKind.i64.wrap (((rowsRt (manyL each n)).length:Int) - but)else 0)=(k:Int):=by
  rw[show(rowsRt (manyL each n)).length=n by simp[manyL_len],wrap64']
  refine⟨(if 0 < ((n:Int) - but + 9223372036854775808) % 18446744073709551616 - 9223372036854775808 then((n:Int) - but + 9223372036854775808) % 18446744073709551616 - 9223372036854775808 else 0).toNat,?_,?_⟩
  ·split<;>omega
  ·split<;>omega
 obtain⟨k,hkn,hk⟩:=hk
 refine vc_seq (vcg_ok (rd:=false) tab_ok mixed hF (fun _=>rfl) ?_)
 conv=>whnf
 refine⟨rfl,?_⟩
 rw[hk]
 conv=>whnf
 refine⟨⟨trivial,by omega,by omega,by simp[manyL_len];omega⟩,?_⟩
 conv=>whnf
 have hfl:few26S ((manyL each n).take k) 400=true:=manyL_few (each:=each) (n:=n) (fun r h=>List.mem_of_mem_take h) (by rw[List.length_take,manyL_len];omega)
 obtain⟨m2,o2,hr2,-,hact2⟩:=acts_tell hr1 newO_sf1 ⟨0,(manyL each n).take k,⟨[],false⟩⟩ rfl hfl
 refine⟨.tup [encOS o2,.bool true],[(2,varOut sf1 pe2 polE m1)],[(2,varOut sf1 pe2 polE m2)],fun h nx hrd=>?_,by intro b ob hb;simp at hb;obtain⟨rfl,rfl⟩:=hb;rfl,?_⟩
 ·have h2:hget h 2=some (.var true 97 (cellsOut sf1 pe2 polE m1)):=hrd _ _ (by simp)
  exact updV_var (Z:=[]) hact2 (tupO_free _ _) h2 (by simp) (by simp) (cellsOut_free _ _ _ _) (cellsOut_free _ _ _ _) ⟨.ptr rfl (by omega),.fr rfl,.aggL ⟨.fr rfl,.eq_of (by simp[encRts,List.map_take]) (encRts_free _),.snil_sl,.fr rfl,trivial⟩,trivial⟩
 conv=>whnf
 refine⟨by kernel_rfl,?_⟩
 conv=>whnf
 obtain⟨m3,o3,hr3,-,hact3⟩:=acts_tell hr2 newO_sf1 ⟨0,[],⟨[],false⟩⟩ rfl rfl
 refine vc_seq (vcg_ok (rd:=false) tab_ok mixed hF (fun _=>rfl) ?_)
 conv=>whnf
 refine callV_frame (nx:=5) (n0:=1) (renOf [(0,2)]) (hact3) (by repeat' (first|exact True.intro|exact .ptr rfl (by omega)|exact .fr rfl|exact .aggL ⟨.fr rfl,.snil_sl,.snil_sl,.fr rfl,trivial⟩|exact LeL.freeV (cellsOut_free _ _ _ _)|exact .A|exact LeL.fr rfl|refine⟨?_,?_⟩)) (LeH.of (by repeat' (first|exact LHa|exact .ptr rfl (by omega)|exact .fr rfl|exact .aggL ⟨.fr rfl,.snil_sl,.snil_sl,.fr rfl,trivial⟩|exact LeL.freeV (cellsOut_free _ _ _ _)|exact .A|exact LeL.fr rfl|exact LHb|refine Or.inl ⟨by simp,_,rfl,?_⟩|exact Or.inr ⟨by simp,_,_,_,_,rfl⟩|refine⟨rfl,rfl,rfl,rfl,rfl,rfl,?_⟩|refine⟨?_,?_⟩)) (show ∀b∈([0]:List Nat),∀b'∈([0]:List Nat),(renOf [(0,2)]) b=(renOf [(0,2)]) b'→b=b' by decide) (fun _ h=>by omega) (by omega) (by simp)) (fun b hb=>by match b,hb with|0,_=>exact ne_none_of rfl) (by decide) ?_
 rintro v h' nx' ⟨rfl,rfl,rfl⟩ _
 refine⟨.tup [encOS o3,.bool true],[(2,varOut sf1 pe2 polE m3),(4,some (.var true 47 (cellsOS o2)))],.free (tupO_free _ _),(by repeat' (first|exact True.intro|exact Or.inr ⟨by decide,rfl⟩|exact Or.inl ⟨0,rfl,by omega,_,rfl,.var (cellsOut_free _ _ _ _)⟩|refine⟨?_,?_⟩)),?_⟩
 conv=>whnf
 refine vcg_ok (rd:=false) tab_ok mixed hF (fun _=>rfl) ?_
 conv=>whnf
 refine callV_pure n0 ⟨.fr rfl,trivial⟩ ?_
 conv=>whnf
 refine callV_out (is26_ok hr3) rfl (cellsOut_free _ _ _ _) (cellsOut_free _ _ _ _) ⟨.ptr rfl (by omega),.fr rfl,trivial⟩ ?_
 rintro v rfl
 refine⟨.bool,?_⟩
 show _
 conv=>whnf
 refine callV_pure works26_ok trivial ?_
 conv=>whnf
 exact(Ends.pA)
end
section
open Go.ChangeShapes Go.WideShapes
open Go.Proofs.Tryz (prog)
theorem rep_self:RepOk prog 24 cellsSf:=fun enc w sp fuel cs x h=>by
 have ht:=Go.Proofs.Tryz.underlying24
 obtain⟨xs,n,_,_,hlen,_,_⟩:=DataW.trod_struct ht h
 have hl:cs.length=3:=hlen.trans (by kernel_rfl)
 obtain⟨a,h0,o0⟩:=field_at ht h 0 rfl (rep_u32 Go.Proofs.Tryz.underlying22) rfl (by kernel_rfl)
 obtain⟨b,h1,o1⟩:=field_at ht h 1 rfl (rep_u32 Go.Proofs.Tryz.underlying22) rfl (by kernel_rfl)
 obtain⟨c,h2,o2⟩:=field_at ht h 2 rfl (rep_u32 Go.Proofs.Tryz.underlying22) rfl (by kernel_rfl)
 have j1:=vrs_join (vrs_join (vrs_join vrs_take0 h0 rfl (by omega)) h1 rfl (by omega)) h2 rfl (by omega)
 have k1:=one_join (one_join (one_join (by simp) o0 rfl (by omega)) o1 rfl (by omega)) o2 rfl (by omega)
 rw[List.take_of_length_le (by omega)]at j1 k1
 exact⟨⟨a,b,c⟩,j1,k1⟩
theorem rep_route:RepOk prog 37 (cellsRt false):=fun enc w sp fuel cs x h=>by
 have ht:=Go.Proofs.Tryz.underlying37
 obtain⟨xs,n,_,_,hlen,_,_⟩:=DataW.trod_struct ht h
 have hl:cs.length=14:=hlen.trans (by kernel_rfl)
 obtain⟨p,h0,o0⟩:=field_of ht h (f:=_) (i:=0) rfl rep_prefix
 obtain⟨a,h1,o1⟩:=field_of ht h (f:=_) (i:=1) rfl rep_attrs
 obtain⟨q,h2,o2⟩:=field_of ht h (f:=_) (i:=2) rfl rep_peer
 have hx:prog.cellsOf 31=2:=by kernel_rfl
 have hz:prog.cellsOf 35=8:=by kernel_rfl
 have hy:prog.cellsOf 26=4:=by kernel_rfl
 change vrs (G0 w) w (cellsP p) ((cs.drop 0).take (prog.cellsOf 31))at h0
 change ∀u∈(cs.drop 0).take (prog.cellsOf 31),u.oneCell'=true at o0
 change vrs (G0 w) w (cellsA false a) ((cs.drop 2).take (prog.cellsOf 35))at h1
 change ∀u∈(cs.drop 2).take (prog.cellsOf 35),u.oneCell'=true at o1
 change vrs (G0 w) w (cellsPe q) ((cs.drop 10).take (prog.cellsOf 26))at h2
 change ∀u∈(cs.drop 10).take (prog.cellsOf 26),u.oneCell'=true at o2
 rw[hx,List.drop_zero]at h0 o0
 rw[hz]at h1 o1
 rw[hy,List.take_of_length_le (by rw[List.length_drop];omega)]at h2 o2
 have e:cs.take 2 ++ (cs.drop 2).take 8 ++ cs.drop 10=cs:=by
  have e1:(cs.drop 2).take 8 ++ (cs.drop 2).drop 8=cs.drop 2:=List.take_append_drop 8 _
  rw[List.drop_drop]at e1
  rw[List.append_assoc,e1,List.take_append_drop]
 refine⟨⟨p,a,q⟩,?_,?_⟩
 ·have:=(h0.append h1).append h2
  rw[e]at this
  exact this
 ·intro v hv
  rw[← e]at hv
  rcases List.mem_append.1 hv with hv|hv
  ·rcases List.mem_append.1 hv with hv|hv
   ·exact o0 v hv
   ·exact o1 v hv
  ·exact o2 v hv
theorem arg_self:ArgOk prog 24 encSf:=arg_struct Go.Proofs.Tryz.underlying24 rep_self
theorem read_self:prog.readableRec 24=true∧24 < prog.types.size:=⟨by kernel_rfl,of_decide_eq_true (by kernel_rfl)⟩
end
section
open Go.ChangeShapes Go.WideShapes
open Go.Proofs.Tryz (prog)
theorem rep_routes:RepOk prog 39 (fun l:List Route=>[encRts l]):=
 rep_slice (cells:=cellsRt false) Go.Proofs.Tryz.underlying39 (by kernel_rfl) (by decide) (fun _=>rfl) rep_route
theorem rep_actO:RepOk prog 57 cellsActO:=fun enc w sp fuel cs x h=>by
 have ht:=Go.Proofs.Tryz.underlying57
 obtain⟨xs,n,_,_,hlen,_,_⟩:=DataW.trod_struct ht h
 have hl:cs.length=4:=hlen.trans (by kernel_rfl)
 obtain⟨g,h0,o0⟩:=field_at ht h 0 rfl (rep_i64 Go.Proofs.Tryz.underlying3) rfl (by kernel_rfl)
 obtain⟨r,h1,o1⟩:=field_at ht h 1 rfl rep_routes rfl (by kernel_rfl)
 obtain⟨p,h2,o2⟩:=field_of ht h (f:=_) (i:=2) rfl rep_policy
 have hy:prog.cellsOf 29=2:=by kernel_rfl
 change vrs (G0 w) w (cellsPo false p) ((cs.drop 2).take (prog.cellsOf 29))at h2
 change ∀u∈(cs.drop 2).take (prog.cellsOf 29),u.oneCell'=true at o2
 rw[hy,List.take_of_length_le (by rw[List.length_drop];omega)]at h2 o2
 have j:=vrs_join (vrs_join vrs_take0 h0 rfl (by omega)) h1 rfl (by omega)
 have k:=one_join (one_join (by simp) o0 rfl (by omega)) o1 rfl (by omega)
 have e:cs.take 2 ++ cs.drop 2=cs:=List.take_append_drop 2 cs
 refine⟨⟨g.1,r,p⟩,?_,?_⟩
 ·have:=j.append h2
  rw[e]at this
  exact this
 ·intro u hu
  rw[← e]at hu
  rcases List.mem_append.1 hu with hu|hu
  ·exact k u hu
  ·exact o2 u hu
def encActO (x:ActO):V:=.agg (cellsActO x)
theorem arg_actO:ArgOk prog 57 encActO:=arg_struct Go.Proofs.Tryz.underlying57 rep_actO
theorem arg_actsO:ArgOk prog 55 encActsO:=arg_slice Go.Proofs.Tryz.underlying55 (rep_slice (cells:=cellsActO) Go.Proofs.Tryz.underlying55 (by kernel_rfl) (by decide) (fun _=>rfl) rep_actO)
theorem read_actO:prog.readableRec 57=true∧57 < prog.types.size:=⟨by kernel_rfl,of_decide_eq_true (by kernel_rfl)⟩
theorem read_actsO:prog.readableRec 55=true∧55 < prog.types.size:=⟨by kernel_rfl,of_decide_eq_true (by kernel_rfl)⟩
end
section
open Go.Proofs.Tryz (prog)
abbrev MapE:=List (Prefix × Attrs)
end
section
open Go.Proofs.Tryz (prog)
structure ToldM (m:MapE):Prop where
 nod:NodE m
 len:m.length≤40
 ck:∀e∈m,checkU ⟨[],[e.1],e.2⟩=0
theorem ToldM.right {m:MapE} (h:ToldM m):∀e∈m,rightA e.2=true:=fun e he=>check_right (h.ck e he)
section
variable {m n' : MapE}
variable {n : MapE}
end
theorem ToldM.nowL {s:SelfL} {pe:Peer} {pol:Policy} {l:List Route} (hok:okT l=true) (hl:l.length≤40):ToldM (nowL s pe pol l) where
 nod:=by
  obtain⟨h1,h2⟩:=nowR_perm (o:=⟨s,pe,pol,[]⟩) hok
  exact NodE.perm h1.nod h2
 len:=Nat.le_trans (List.length_filterMap_le _ _) hl
 ck:=nowL_right
theorem ToldM.nil:ToldM []:=⟨by simp[NodE,keysE],by simp,by simp⟩
end
section
open Go.Proofs.Tryz (prog)
attribute [local irreducible] CallV RoundV aggK
theorem Less.encPs {l:List Prefix}:Less (encPs true l) (encPs false l):=.sl (by simp) rfl fun j v v' h1 h2=>by rw[h1]at h2;cases h2;exact Less.refl _
end
end Go.Proofs.YteogfjpaljbkoaaGreat
