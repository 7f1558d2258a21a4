/-
  Calls of a run, written out; no condition.
-/
import Derived.KernelRfl
import Derived.Test.YtepcfiaigmcjjaaGreatNeD
import Derived.Test.YtepcfiaigmcjjaaGreatProg
set_option linter.unusedVariables false
namespace Go.Proofs.YtepcfiaigmcjjaaGreat.nodeNames
open Go.ChangeShapes Go.WideShapes Go.ChangeAt Go.RowKit
set_option maxRecDepth 1000000
abbrev bt : Value := .bool true
abbrev bf : Value := .bool false
abbrev vi (n : Nat) : Value := .int .i64 (.ofNat n)
abbrev vw (n : Nat) : Value := .int .u32 (.ofNat n)
abbrev vb (n : Nat) : Value := .int .u8 (.ofNat n)
abbrev vs (l : List Nat) : Value := .string ⟨(l.map UInt8.ofNat).toArray⟩
abbrev vp (b o : Nat) : Value := .pointer (some ⟨b, o, none⟩)
abbrev vl (b o l c : Nat) : Value := .slice (some ⟨b, o, none⟩) l c
abbrev va (l : List Value) : Value := .agg l.toArray
abbrev vu : Value := .tuple #[]
/-- What crc.Table answers. -/
def w0 : Value := (va [(vw 0),(vw 1996959894),(vw 3993919788),(vw 2567524794),(vw 124634137),(vw 1886057615),(vw 3915621685),(vw 2657392035),(vw 249268274),(vw 2044508324),(vw 3772115230),(vw 2547177864),
  (vw 162941995),(vw 2125561021),(vw 3887607047),(vw 2428444049),(vw 498536548),(vw 1789927666),(vw 4089016648),(vw 2227061214),(vw 450548861),(vw 1843258603),(vw 4107580753),(vw 2211677639),
  (vw 325883990),(vw 1684777152),(vw 4251122042),(vw 2321926636),(vw 335633487),(vw 1661365465),(vw 4195302755),(vw 2366115317),(vw 997073096),(vw 1281953886),(vw 3579855332),(vw 2724688242),
  (vw 1006888145),(vw 1258607687),(vw 3524101629),(vw 2768942443),(vw 901097722),(vw 1119000684),(vw 3686517206),(vw 2898065728),(vw 853044451),(vw 1172266101),(vw 3705015759),(vw 2882616665),
  (vw 651767980),(vw 1373503546),(vw 3369554304),(vw 3218104598),(vw 565507253),(vw 1454621731),(vw 3485111705),(vw 3099436303),(vw 671266974),(vw 1594198024),(vw 3322730930),(vw 2970347812),
  (vw 795835527),(vw 1483230225),(vw 3244367275),(vw 3060149565),(vw 1994146192),(vw 31158534),(vw 2563907772),(vw 4023717930),(vw 1907459465),(vw 112637215),(vw 2680153253),(vw 3904427059),
  (vw 2013776290),(vw 251722036),(vw 2517215374),(vw 3775830040),(vw 2137656763),(vw 141376813),(vw 2439277719),(vw 3865271297),(vw 1802195444),(vw 476864866),(vw 2238001368),(vw 4066508878),
  (vw 1812370925),(vw 453092731),(vw 2181625025),(vw 4111451223),(vw 1706088902),(vw 314042704),(vw 2344532202),(vw 4240017532),(vw 1658658271),(vw 366619977),(vw 2362670323),(vw 4224994405),
  (vw 1303535960),(vw 984961486),(vw 2747007092),(vw 3569037538),(vw 1256170817),(vw 1037604311),(vw 2765210733),(vw 3554079995),(vw 1131014506),(vw 879679996),(vw 2909243462),(vw 3663771856),
  (vw 1141124467),(vw 855842277),(vw 2852801631),(vw 3708648649),(vw 1342533948),(vw 654459306),(vw 3188396048),(vw 3373015174),(vw 1466479909),(vw 544179635),(vw 3110523913),(vw 3462522015),
  (vw 1591671054),(vw 702138776),(vw 2966460450),(vw 3352799412),(vw 1504918807),(vw 783551873),(vw 3082640443),(vw 3233442989),(vw 3988292384),(vw 2596254646),(vw 62317068),(vw 1957810842),
  (vw 3939845945),(vw 2647816111),(vw 81470997),(vw 1943803523),(vw 3814918930),(vw 2489596804),(vw 225274430),(vw 2053790376),(vw 3826175755),(vw 2466906013),(vw 167816743),(vw 2097651377),
  (vw 4027552580),(vw 2265490386),(vw 503444072),(vw 1762050814),(vw 4150417245),(vw 2154129355),(vw 426522225),(vw 1852507879),(vw 4275313526),(vw 2312317920),(vw 282753626),(vw 1742555852),
  (vw 4189708143),(vw 2394877945),(vw 397917763),(vw 1622183637),(vw 3604390888),(vw 2714866558),(vw 953729732),(vw 1340076626),(vw 3518719985),(vw 2797360999),(vw 1068828381),(vw 1219638859),
  (vw 3624741850),(vw 2936675148),(vw 906185462),(vw 1090812512),(vw 3747672003),(vw 2825379669),(vw 829329135),(vw 1181335161),(vw 3412177804),(vw 3160834842),(vw 628085408),(vw 1382605366),
  (vw 3423369109),(vw 3138078467),(vw 570562233),(vw 1426400815),(vw 3317316542),(vw 2998733608),(vw 733239954),(vw 1555261956),(vw 3268935591),(vw 3050360625),(vw 752459403),(vw 1541320221),
  (vw 2607071920),(vw 3965973030),(vw 1969922972),(vw 40735498),(vw 2617837225),(vw 3943577151),(vw 1913087877),(vw 83908371),(vw 2512341634),(vw 3803740692),(vw 2075208622),(vw 213261112),
  (vw 2463272603),(vw 3855990285),(vw 2094854071),(vw 198958881),(vw 2262029012),(vw 4057260610),(vw 1759359992),(vw 534414190),(vw 2176718541),(vw 4139329115),(vw 1873836001),(vw 414664567),
  (vw 2282248934),(vw 4279200368),(vw 1711684554),(vw 285281116),(vw 2405801727),(vw 4167216745),(vw 1634467795),(vw 376229701),(vw 2685067896),(vw 3608007406),(vw 1308918612),(vw 956543938),
  (vw 2808555105),(vw 3495958263),(vw 1231636301),(vw 1047427035),(vw 2932959818),(vw 3654703836),(vw 1088359270),(vw 936918000),(vw 2847714899),(vw 3736837829),(vw 1202900863),(vw 817233897),
  (vw 3183342108),(vw 3401237130),(vw 1404277552),(vw 615818150),(vw 3134207493),(vw 3453421203),(vw 1423857449),(vw 601450431),(vw 3009837614),(vw 3294710456),(vw 1567103746),(vw 711928724),
  (vw 3020668471),(vw 3272380065),(vw 1510334235),(vw 755167117)])
/-- octavo/octavolaw27.fresh -/
def e0 : Ax.Me := ⟨12, [], 1, [], (.tuple #[(va [(vb 2),(vi 0),(.slice none 0 0),(vi 100),(vw 0),(vi 1),(vl 156 0 0 0),(.slice none 0 0),(.slice none 0 0),(vl 258 0 1 9223372036854775816)]),bt]), 262, [(156,.cells [] 95 false),(258,.cells [(vw 0),(vb 0),bf,bf,(vi 1),bf,(.slice none 0 0),(.slice none 0 0)] 127 true)]⟩
/-- octavo/node.Call -/
def e1 : Ax.Me := ⟨9, [(va [(vb 2),(vi 0),(.slice none 0 0),(vi 100),(vw 0),(vi 1),(vl 411 0 0 0),(.slice none 0 0),(.slice none 0 0),(vl 486 0 1 9223372036854775816)]),(va [(vb 1),(vw 0),(vb 0),(vi 0),(vi 0),
  (vs [97])])], 490, [(411,.cells [] 95 false),(486,.cells [(vw 0),(vb 0),bt,bf,(vi 1),bf,(.slice none 0 0),(.slice none 0 0)] 127 true)], (.tuple #[(va [(vb 2),(vi 0),(.slice none 0 0),(vi 100),(vw 1),(vi 2),(vl 831 0 1 9223372036854775813),(vl 878 0 1 9223372036854775810),(.slice none 0 0),(vl 942 0 1 9223372036854775816)]),
  (vi 0)]), 945, [(411,.cells [] 95 false),(486,.cells [(vw 0),(vb 0),bt,bf,(vi 1),bf,(.slice none 0 0),(.slice none 0 0)] 127 true),(829,.cells [(vw 1),(vb 2),(vi 1)] 216 true),(831,.cells [(vb 1),
  (vw 1),(vb 2),(vl 829 0 1 9223372036854775811),(vi 97)] 95 true),(876,.cells [(vw 1),(vw 1)] 39 true),(878,.cells [(vb 2),(vl 876 0 1 9223372036854775810)] 42 true),(942,.cells [(vw 0),
  (vb 0),bt,bf,(vi 2),bf,(.slice none 0 0),(.slice none 0 0)] 127 true)]⟩
/-- octavo/octavolaw27.typed -/
def e2 : Ax.Me := ⟨4, [], 0, [], (.tuple #[(va [(vb 2),(vi 0),(.slice none 0 0),(vi 100),(vw 1),(vi 2),(vl 831 0 1 9223372036854775813),(vl 878 0 1 9223372036854775810),(.slice none 0 0),(vl 942 0 1 9223372036854775816)]),
  bt]), 946, [(829,.cells [(vw 1),(vb 2),(vi 1)] 216 true),(831,.cells [(vb 1),(vw 1),(vb 2),(vl 829 0 1 9223372036854775811),(vi 97)] 95 true),(876,.cells [(vw 1),(vw 1)] 39 true),(878,.cells [(vb 2),
  (vl 876 0 1 9223372036854775810)] 42 true),(942,.cells [(vw 0),(vb 0),bt,bf,(vi 2),bf,(.slice none 0 0),(.slice none 0 0)] 127 true)]⟩
/-- octavo/node.Check -/
def e3 : Ax.Me := ⟨13, [(va [(vb 2),(vi 0),(.slice none 0 0),(vi 100),(vw 1),(vi 2),(vl 831 0 1 9223372036854775813),(vl 878 0 1 9223372036854775810),(.slice none 0 0),(vl 942 0 1 9223372036854775816)])], 948, [(829,.cells [(vw 1),(vb 2),(vi 1)] 216 true),(831,.cells [(vb 1),(vw 1),(vb 2),(vl 829 0 1 9223372036854775811),(vi 97)] 95 true),(876,.cells [(vw 1),(vw 1)] 39 true),(878,.cells [(vb 2),
  (vl 876 0 1 9223372036854775810)] 42 true),(942,.cells [(vw 0),(vb 0),bt,bf,(vi 2),bf,(.slice none 0 0),(.slice none 0 0)] 127 true)], (vi 0), 1219, [(829,.cells [(vw 1),(vb 2),(vi 1)] 216 true),(831,.cells [(vb 1),(vw 1),(vb 2),(vl 829 0 1 9223372036854775811),(vi 97)] 95 true),(876,.cells [(vw 1),(vw 1)] 39 true),(878,.cells [(vb 2),
  (vl 876 0 1 9223372036854775810)] 42 true),(942,.cells [(vw 0),(vb 0),bt,bf,(vi 2),bf,(.slice none 0 0),(.slice none 0 0)] 127 true)]⟩
/-- octavo/node.frames -/
def e4 : Ax.Me := ⟨21, [(vl 1760 0 2 2)], 1761, [(1488,.cells [(vw 1),(vb 2),(vi 1)] 216 true),(1490,.cells [(vb 1),(vw 1),(vb 2),(vl 1488 0 1 9223372036854775811),(vi 97)] 95 true),(1755,.cells [(vw 1),(vw 1)] 39 true),(1757,.cells [(vb 2),
  (vl 1755 0 1 9223372036854775810)] 42 true),(1759,.cells [(vw 0),(vb 0),bt,(vl 1757 0 1 9223372036854775810),bf,(.slice none 0 0),(.slice none 0 0)] 83 true),(1760,.cells [(vb 1),(vw 0),
  (vb 0),(vi 0),(.slice none 0 0),(vl 1490 0 1 9223372036854775813),(.slice none 0 0),(vb 3),(vw 0),(vb 0),(vi 0),(.slice none 0 0),(.slice none 0 0),(vl 1759 0 1 9223372036854775815)] 47 false)], (vl 1994 0 2 9223372036854775809), 1995, [(1488,.cells [(vw 1),(vb 2),(vi 1)] 216 true),(1490,.cells [(vb 1),(vw 1),(vb 2),(vl 1488 0 1 9223372036854775811),(vi 97)] 95 true),(1755,.cells [(vw 1),(vw 1)] 39 true),(1757,.cells [(vb 2),
  (vl 1755 0 1 9223372036854775810)] 42 true),(1759,.cells [(vw 0),(vb 0),bt,(vl 1757 0 1 9223372036854775810),bf,(.slice none 0 0),(.slice none 0 0)] 83 true),(1760,.cells [(vb 1),(vw 0),
  (vb 0),(vi 0),(.slice none 0 0),(vl 1490 0 1 9223372036854775813),(.slice none 0 0),(vb 3),(vw 0),(vb 0),(vi 0),(.slice none 0 0),(.slice none 0 0),(vl 1759 0 1 9223372036854775815)] 47 false),
  (1881,.cells [(vb 70),(vb 8),(vb 1),(vb 1),(vb 1),(vb 1),(vb 1),(vb 2),(vb 1),(vb 97),(vb 50),(vb 159),(vb 129),(vb 207)] 5 true),(1992,.cells [(vb 70),(vb 13),(vb 3),(vb 0),(vb 1),
  (vb 0),(vb 0),(vb 1),(vb 1),(vb 2),(vb 1),(vb 1),(vb 0),(vb 0),(vb 0),(vb 201),(vb 139),(vb 165),(vb 86)] 5 true),(1994,.cells [(vl 1881 0 14 9223372036854775809),(vl 1992 0 19 9223372036854775809)] 35 true)]⟩
/-- octavo/node.Tick -/
def e5 : Ax.Me := ⟨5, [(va [(vb 2),(vi 0),(.slice none 0 0),(vi 100),(vw 1),(vi 2),(vl 831 0 1 9223372036854775813),(vl 878 0 1 9223372036854775810),(.slice none 0 0),(vl 942 0 1 9223372036854775816)])], 947, [(829,.cells [(vw 1),(vb 2),(vi 1)] 216 true),(831,.cells [(vb 1),(vw 1),(vb 2),(vl 829 0 1 9223372036854775811),(vi 97)] 95 true),(876,.cells [(vw 1),(vw 1)] 39 true),(878,.cells [(vb 2),
  (vl 876 0 1 9223372036854775810)] 42 true),(942,.cells [(vw 0),(vb 0),bt,bf,(vi 2),bf,(.slice none 0 0),(.slice none 0 0)] 127 true)], (.tuple #[(vl 1994 0 2 9223372036854775809),(vi 0)]), 1995, [(829,.cells [(vw 1),(vb 2),(vi 1)] 216 true),(831,.cells [(vb 1),(vw 1),(vb 2),(vl 829 0 1 9223372036854775811),(vi 97)] 95 true),(876,.cells [(vw 1),(vw 1)] 39 true),(878,.cells [(vb 2),
  (vl 876 0 1 9223372036854775810)] 42 true),(942,.cells [(vw 0),(vb 0),bt,bf,(vi 2),bf,(.slice none 0 0),(.slice none 0 0)] 127 true),(1881,.cells [(vb 70),(vb 8),(vb 1),(vb 1),(vb 1),
  (vb 1),(vb 1),(vb 2),(vb 1),(vb 97),(vb 50),(vb 159),(vb 129),(vb 207)] 5 true),(1992,.cells [(vb 70),(vb 13),(vb 3),(vb 0),(vb 1),(vb 0),(vb 0),(vb 1),(vb 1),(vb 2),(vb 1),(vb 1),(vb 0),
  (vb 0),(vb 0),(vb 201),(vb 139),(vb 165),(vb 86)] 5 true),(1994,.cells [(vl 1881 0 14 9223372036854775809),(vl 1992 0 19 9223372036854775809)] 35 true)]⟩
/-- octavo/node.Hear -/
def e6 : Ax.Me := ⟨7, [(va [(vb 2),(vi 0),(.slice none 0 0),(vi 100),(vw 1),(vi 2),(vl 831 0 1 9223372036854775813),(vl 878 0 1 9223372036854775810),(.slice none 0 0),(vl 942 0 1 9223372036854775816)]),(vi 0),
  (vl 2056 0 12 9223372036854775809)], 2057, [(829,.cells [(vw 1),(vb 2),(vi 1)] 216 true),(831,.cells [(vb 1),(vw 1),(vb 2),(vl 829 0 1 9223372036854775811),(vi 97)] 95 true),(876,.cells [(vw 1),(vw 1)] 39 true),(878,.cells [(vb 2),
  (vl 876 0 1 9223372036854775810)] 42 true),(942,.cells [(vw 0),(vb 0),bt,bf,(vi 2),bf,(.slice none 0 0),(.slice none 0 0)] 127 true),(2056,.cells [(vb 70),(vb 6),(vb 2),(vb 1),(vb 2),
  (vb 1),(vb 1),(vb 0),(vb 127),(vb 58),(vb 120),(vb 43)] 5 true)], (.tuple #[(va [(vb 2),(vi 0),(.slice none 0 0),(vi 100),(vw 1),(vi 2),(vl 2541 0 1 9223372036854775813),(.slice none 0 0),(.slice none 0 0),(vl 2385 0 1 9223372036854775816)]),(.slice none 0 0),
  (vi 0)]), 2542, [(829,.cells [(vw 1),(vb 2),(vi 1)] 216 true),(831,.cells [(vb 1),(vw 1),(vb 2),(vl 829 0 1 9223372036854775811),(vi 97)] 95 true),(876,.cells [(vw 1),(vw 1)] 39 true),(878,.cells [(vb 2),
  (vl 876 0 1 9223372036854775810)] 42 true),(942,.cells [(vw 0),(vb 0),bt,bf,(vi 2),bf,(.slice none 0 0),(.slice none 0 0)] 127 true),(2056,.cells [(vb 70),(vb 6),(vb 2),(vb 1),(vb 2),
  (vb 1),(vb 1),(vb 0),(vb 127),(vb 58),(vb 120),(vb 43)] 5 true),(2375,.cells [(vw 1),(vb 2),(vi 1)] 216 true),(2385,.cells [(vw 0),(vb 0),bt,bf,(vi 2),bf,(.slice none 0 0),(.slice none 0 0)] 127 true),
  (2541,.cells [(vb 1),(vw 1),(vb 2),(vl 2375 0 1 9223372036854775811),(vi 97)] 95 true)]⟩
/-- octavo/node.Call -/
def e7 : Ax.Me := ⟨9, [(va [(vb 2),(vi 0),(.slice none 0 0),(vi 100),(vw 1),(vi 2),(vl 831 0 1 9223372036854775813),(vl 878 0 1 9223372036854775810),(.slice none 0 0),(vl 942 0 1 9223372036854775816)]),(va [(vb 5),
  (vw 5),(vb 0),(vi 0),(vi 0),(vs [])])], 2709, [(829,.cells [(vw 1),(vb 2),(vi 1)] 216 true),(831,.cells [(vb 1),(vw 1),(vb 2),(vl 829 0 1 9223372036854775811),(vi 97)] 95 true),(876,.cells [(vw 1),(vw 1)] 39 true),(878,.cells [(vb 2),
  (vl 876 0 1 9223372036854775810)] 42 true),(942,.cells [(vw 0),(vb 0),bt,bf,(vi 2),bf,(.slice none 0 0),(.slice none 0 0)] 127 true)], (.tuple #[(va [(vb 0),(vi 0),(.slice none 0 0),(vi 0),(vw 0),(vi 0),(.slice none 0 0),(.slice none 0 0),(.slice none 0 0),(.slice none 0 0)]),(vi 130)]), 3058, [(829,.cells [(vw 1),(vb 2),(vi 1)] 216 true),(831,.cells [(vb 1),(vw 1),(vb 2),(vl 829 0 1 9223372036854775811),(vi 97)] 95 true),(876,.cells [(vw 1),(vw 1)] 39 true),(878,.cells [(vb 2),
  (vl 876 0 1 9223372036854775810)] 42 true),(942,.cells [(vw 0),(vb 0),bt,bf,(vi 2),bf,(.slice none 0 0),(.slice none 0 0)] 127 true)]⟩
/-- octavo/node.Call -/
def e8 : Ax.Me := ⟨9, [(va [(vb 2),(vi 0),(.slice none 0 0),(vi 100),(vw 1),(vi 2),(vl 831 0 1 9223372036854775813),(vl 878 0 1 9223372036854775810),(.slice none 0 0),(vl 942 0 1 9223372036854775816)]),(va [(vb 10),
  (vw 0),(vb 0),(vi 0),(vi 0),(vs [])])], 3059, [(829,.cells [(vw 1),(vb 2),(vi 1)] 216 true),(831,.cells [(vb 1),(vw 1),(vb 2),(vl 829 0 1 9223372036854775811),(vi 97)] 95 true),(876,.cells [(vw 1),(vw 1)] 39 true),(878,.cells [(vb 2),
  (vl 876 0 1 9223372036854775810)] 42 true),(942,.cells [(vw 0),(vb 0),bt,bf,(vi 2),bf,(.slice none 0 0),(.slice none 0 0)] 127 true)], (.tuple #[(va [(vb 0),(vi 0),(.slice none 0 0),(vi 0),(vw 0),(vi 0),(.slice none 0 0),(.slice none 0 0),(.slice none 0 0),(.slice none 0 0)]),(vi 2)]), 3352, [(829,.cells [(vw 1),(vb 2),(vi 1)] 216 true),(831,.cells [(vb 1),(vw 1),(vb 2),(vl 829 0 1 9223372036854775811),(vi 97)] 95 true),(876,.cells [(vw 1),(vw 1)] 39 true),(878,.cells [(vb 2),
  (vl 876 0 1 9223372036854775810)] 42 true),(942,.cells [(vw 0),(vb 0),bt,bf,(vi 2),bf,(.slice none 0 0),(.slice none 0 0)] 127 true)]⟩
/-- octavo/node.Hear -/
def e9 : Ax.Me := ⟨7, [(va [(vb 2),(vi 0),(.slice none 0 0),(vi 100),(vw 1),(vi 2),(vl 831 0 1 9223372036854775813),(vl 878 0 1 9223372036854775810),(.slice none 0 0),(vl 942 0 1 9223372036854775816)]),(vi 1),
  (vl 2056 0 12 9223372036854775809)], 3353, [(829,.cells [(vw 1),(vb 2),(vi 1)] 216 true),(831,.cells [(vb 1),(vw 1),(vb 2),(vl 829 0 1 9223372036854775811),(vi 97)] 95 true),(876,.cells [(vw 1),(vw 1)] 39 true),(878,.cells [(vb 2),
  (vl 876 0 1 9223372036854775810)] 42 true),(942,.cells [(vw 0),(vb 0),bt,bf,(vi 2),bf,(.slice none 0 0),(.slice none 0 0)] 127 true),(2056,.cells [(vb 70),(vb 6),(vb 2),(vb 1),(vb 2),
  (vb 1),(vb 1),(vb 0),(vb 127),(vb 58),(vb 120),(vb 43)] 5 true)], (.tuple #[(va [(vb 0),(vi 0),(.slice none 0 0),(vi 0),(vw 0),(vi 0),(.slice none 0 0),(.slice none 0 0),(.slice none 0 0),(.slice none 0 0)]),(.slice none 0 0),(vi 2)]), 3683, [(829,.cells [(vw 1),(vb 2),(vi 1)] 216 true),(831,.cells [(vb 1),(vw 1),(vb 2),(vl 829 0 1 9223372036854775811),(vi 97)] 95 true),(876,.cells [(vw 1),(vw 1)] 39 true),(878,.cells [(vb 2),
  (vl 876 0 1 9223372036854775810)] 42 true),(942,.cells [(vw 0),(vb 0),bt,bf,(vi 2),bf,(.slice none 0 0),(.slice none 0 0)] 127 true),(2056,.cells [(vb 70),(vb 6),(vb 2),(vb 1),(vb 2),
  (vb 1),(vb 1),(vb 0),(vb 127),(vb 58),(vb 120),(vb 43)] 5 true)]⟩
/-- octavo/node.Hear -/
def e10 : Ax.Me := ⟨7, [(va [(vb 2),(vi 0),(.slice none 0 0),(vi 100),(vw 1),(vi 2),(vl 831 0 1 9223372036854775813),(vl 878 0 1 9223372036854775810),(.slice none 0 0),(vl 942 0 1 9223372036854775816)]),(vi 0),
  (.slice none 0 0)], 3684, [(829,.cells [(vw 1),(vb 2),(vi 1)] 216 true),(831,.cells [(vb 1),(vw 1),(vb 2),(vl 829 0 1 9223372036854775811),(vi 97)] 95 true),(876,.cells [(vw 1),(vw 1)] 39 true),(878,.cells [(vb 2),
  (vl 876 0 1 9223372036854775810)] 42 true),(942,.cells [(vw 0),(vb 0),bt,bf,(vi 2),bf,(.slice none 0 0),(.slice none 0 0)] 127 true)], (.tuple #[(va [(vb 0),(vi 0),(.slice none 0 0),(vi 0),(vw 0),(vi 0),(.slice none 0 0),(.slice none 0 0),(.slice none 0 0),(.slice none 0 0)]),(.slice none 0 0),(vi 30)]), 3959, [(829,.cells [(vw 1),(vb 2),(vi 1)] 216 true),(831,.cells [(vb 1),(vw 1),(vb 2),(vl 829 0 1 9223372036854775811),(vi 97)] 95 true),(876,.cells [(vw 1),(vw 1)] 39 true),(878,.cells [(vb 2),
  (vl 876 0 1 9223372036854775810)] 42 true),(942,.cells [(vw 0),(vb 0),bt,bf,(vi 2),bf,(.slice none 0 0),(.slice none 0 0)] 127 true)]⟩
/-- octavo/octavolaw27.fresh -/
def e11 : Ax.Me := ⟨12, [], 4066, [], (.tuple #[(va [(vb 2),(vi 0),(.slice none 0 0),(vi 100),(vw 0),(vi 1),(vl 4221 0 0 0),(.slice none 0 0),(.slice none 0 0),(vl 4323 0 1 9223372036854775816)]),bt]), 4327, [(4221,.cells [] 95 false),(4323,.cells [(vw 0),(vb 0),bf,bf,(vi 1),bf,(.slice none 0 0),(.slice none 0 0)] 127 true)]⟩
/-- octavo/octavolaw27.fresh -/
def e12 : Ax.Me := ⟨12, [], 4480, [], (.tuple #[(va [(vb 2),(vi 0),(.slice none 0 0),(vi 100),(vw 0),(vi 1),(vl 4635 0 0 0),(.slice none 0 0),(.slice none 0 0),(vl 4737 0 1 9223372036854775816)]),bt]), 4741, [(4635,.cells [] 95 false),(4737,.cells [(vw 0),(vb 0),bf,bf,(vi 1),bf,(.slice none 0 0),(.slice none 0 0)] 127 true)]⟩
/-- octavo/node.Call -/
def e13 : Ax.Me := ⟨9, [(va [(vb 2),(vi 0),(.slice none 0 0),(vi 100),(vw 0),(vi 1),(vl 4890 0 0 0),(.slice none 0 0),(.slice none 0 0),(vl 4965 0 1 9223372036854775816)]),(va [(vb 1),(vw 0),(vb 0),(vi 0),
  (vi 0),(vs [97])])], 4969, [(4890,.cells [] 95 false),(4965,.cells [(vw 0),(vb 0),bt,bf,(vi 1),bf,(.slice none 0 0),(.slice none 0 0)] 127 true)], (.tuple #[(va [(vb 2),(vi 0),(.slice none 0 0),(vi 100),(vw 1),(vi 2),(vl 5310 0 1 9223372036854775813),(vl 5357 0 1 9223372036854775810),(.slice none 0 0),(vl 5421 0 1 9223372036854775816)]),
  (vi 0)]), 5424, [(4890,.cells [] 95 false),(4965,.cells [(vw 0),(vb 0),bt,bf,(vi 1),bf,(.slice none 0 0),(.slice none 0 0)] 127 true),(5308,.cells [(vw 1),(vb 2),(vi 1)] 216 true),(5310,.cells [(vb 1),
  (vw 1),(vb 2),(vl 5308 0 1 9223372036854775811),(vi 97)] 95 true),(5355,.cells [(vw 1),(vw 1)] 39 true),(5357,.cells [(vb 2),(vl 5355 0 1 9223372036854775810)] 42 true),(5421,.cells [(vw 0),
  (vb 0),bt,bf,(vi 2),bf,(.slice none 0 0),(.slice none 0 0)] 127 true)]⟩
/-- octavo/node.Text -/
def e14 : Ax.Me := ⟨49, [(va [(vb 2),(vi 0),(.slice none 0 0),(vi 100),(vw 1),(vi 2),(vl 5310 0 1 9223372036854775813),(vl 5357 0 1 9223372036854775810),(.slice none 0 0),(vl 5421 0 1 9223372036854775816)]),
  (va [(vw 0),(vb 0)])], 5426, [(5308,.cells [(vw 1),(vb 2),(vi 1)] 216 true),(5310,.cells [(vb 1),(vw 1),(vb 2),(vl 5308 0 1 9223372036854775811),(vi 97)] 95 true),(5355,.cells [(vw 1),(vw 1)] 39 true),(5357,.cells [(vb 2),
  (vl 5355 0 1 9223372036854775810)] 42 true),(5421,.cells [(vw 0),(vb 0),bt,bf,(vi 2),bf,(.slice none 0 0),(.slice none 0 0)] 127 true)], (.tuple #[(vs [97]),(vi 0)]), 6154, [(5308,.cells [(vw 1),(vb 2),(vi 1)] 216 true),(5310,.cells [(vb 1),(vw 1),(vb 2),(vl 5308 0 1 9223372036854775811),(vi 97)] 95 true),(5355,.cells [(vw 1),(vw 1)] 39 true),(5357,.cells [(vb 2),
  (vl 5355 0 1 9223372036854775810)] 42 true),(5421,.cells [(vw 0),(vb 0),bt,bf,(vi 2),bf,(.slice none 0 0),(.slice none 0 0)] 127 true)]⟩
/-- octavo/octavolaw27.alive -/
def e15 : Ax.Me := ⟨11, [], 4066, [], bt, 6154, []⟩
end Go.Proofs.YtepcfiaigmcjjaaGreat.nodeNames
